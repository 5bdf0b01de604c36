/-
  The tails of a small table of 3 rows and 3 columns, plain: the part is one at least, and no more than all.
-/
import Derived.Test.YtbpigeipjeegiaaVe
import Derived.Test.YtbpigeipjeegiaaPt
namespace Go.Proofs.Ytbpigeipjeegiaa
open Go Go.RowKit

theorem len_flat {α β : Type} (f : α → List β) (B : Nat) : ∀ (l : List α), (∀ x, x ∈ l → (f x).length ≤ B) → (l.flatMap f).length ≤ l.length * B
  | [], _ => by simp
  | x :: l, h => by
    rw [List.flatMap_cons, List.length_append, List.length_cons, Nat.succ_mul]
    have h1 := h x (by simp)
    have h2 := len_flat f B l fun y hy => h y (by simp [hy])
    omega
theorem len_one {α : Type} [BEq α] [LawfulBEq α] {L : List α} {a : α} (h : ∀ m, m ∈ L → m = a) (hc : L.count a ≤ 1) : L.length ≤ 1 := by
  rw [List.eq_replicate_of_mem h, List.count_replicate_self] at hc
  exact hc
theorem len_flatN (f : Nat → List (List Nat)) (g : Nat → Nat) : ∀ (k : Nat), (∀ n, n < k → (f n).length ≤ g n) → ((List.range k).flatMap f).length ≤ sumN g k
  | 0, _ => by simp
  | k + 1, h => by
    rw [List.range_succ, List.flatMap_append, List.length_append]
    have h1 := len_flatN f g k fun n hn => h n (by omega)
    have h2 := h k (by omega)
    show _ ≤ sumN g k + g k
    rw [List.flatMap_cons, List.flatMap_nil, List.append_nil]
    omega
theorem sumN_up (g : Nat → Nat) (k : Nat) : ∀ (m : Nat), k ≤ m → sumN g k ≤ sumN g m := fun m h => by
  obtain ⟨j, rfl⟩ : ∃ j, m = k + j := ⟨m - k, by omega⟩
  rw [sumN_split]
  omega
theorem rows_one (l s : Nat) : (rowsOf [l] s).length ≤ 1 := by
  refine len_one (a := [s]) (fun m hm => ?_) (by rw [count_rows]; split <;> omega)
  have h : 0 < (rowsOf [l] s).count m := List.count_pos_iff.2 hm
  rw [count_rows] at h
  split at h
  · next hg =>
    have hl := rowGood_len hg
    match m, hl with
    | [x], _ =>
      simp [rowGood] at hg
      have : x = s := by omega
      rw [this]
  · omega
theorem rows_two (l0 l1 s : Nat) : (rowsOf [l0, l1] s).length ≤ s + 1 := by
  rw [rowsOf_cons]
  unfold rowsTo
  refine Nat.le_trans (len_flat _ 1 _ fun n _ => ?_) ?_
  · rw [List.length_map]
    exact rows_one _ _
  · rw [List.length_range]
    omega
theorem rows_three (l0 l1 l2 s : Nat) : (rowsOf [l0, l1, l2] s).length ≤ sumN (fun n => s - n + 1) (s + 1) := by
  rw [rowsOf_cons]
  unfold rowsTo
  refine Nat.le_trans (len_flatN _ (fun n => s - n + 1) _ fun n _ => ?_) (sumN_up _ _ _ (by omega))
  rw [List.length_map]
  exact rows_two _ _ _
theorem tabs_one (r l0 l1 l2 : Nat) : (tabs [r] [l0, l1, l2]).length ≤ 1 := by
  refine len_one (a := [l0, l1, l2]) (fun m hm => ?_) (by rw [count_tabs]; split <;> omega)
  have hg := good_of_mem hm
  have hl := tabGood_len hg
  match m, hl with
  | [x, y, z], _ =>
    rw [tab3, tab_nil] at hg
    simp only [List.sum_cons, List.sum_nil] at hg
    have e : x = l0 ∧ y = l1 ∧ z = l2 := by omega
    rw [e.1, e.2.1, e.2.2]
theorem subL3 (l0 l1 l2 : Nat) (row : List Nat) : ∃ k0 k1 k2, subL [l0, l1, l2] row = [k0, k1, k2] := ⟨l0 - row[0]!, l1 - row[1]!, l2 - row[2]!, by simp [subL, List.range_succ]⟩
theorem tri_le {s : Nat} (k : Nat) (hs : s ≤ k) : sumN (fun n => s - n + 1) (s + 1) ≤ sumN (fun n => k - n + 1) (k + 1) :=
  Nat.le_trans (sumN_le _ fun n _ => by omega) (sumN_up _ _ _ (by omega))
theorem len_tabs (r0 r1 r2 l0 l1 l2 : Nat) (h0 : r0 ≤ 4) (h1 : r1 ≤ 3) : (tabs [r0, r1, r2] [l0, l1, l2]).length ≤ 150 := by
  have t0 : (rowsOf [l0, l1, l2] r0).length ≤ 15 := Nat.le_trans (rows_three _ _ _ _) (tri_le 4 h0)
  show (List.flatMap (fun row => (tabs [r1, r2] (subL [l0, l1, l2] row)).map (row ++ ·)) (rowsOf [l0, l1, l2] r0)).length ≤ 150
  refine Nat.le_trans (len_flat _ 10 _ fun row _ => ?_) (by omega)
  obtain ⟨k0, k1, k2, e⟩ := subL3 l0 l1 l2 row
  rw [List.length_map, e]
  have t1 : (rowsOf [k0, k1, k2] r1).length ≤ 10 := Nat.le_trans (rows_three _ _ _ _) (tri_le 3 h1)
  show (List.flatMap (fun row => (tabs [r2] (subL [k0, k1, k2] row)).map (row ++ ·)) (rowsOf [k0, k1, k2] r1)).length ≤ 10
  refine Nat.le_trans (len_flat _ 1 _ fun row _ => ?_) (by omega)
  obtain ⟨q0, q1, q2, e⟩ := subL3 k0 k1 k2 row
  rw [List.length_map, e]
  exact tabs_one _ _ _ _
theorem pas_two : ∀ (n k : Nat), k ≤ n → pas n k * 2 ^ (n - k) ≤ 3 ^ n
  | n, 0, _ => by
    rw [pas_zero, Nat.one_mul]
    exact Nat.pow_le_pow_left (by omega) _
  | 0, k + 1, h => by omega
  | n + 1, k + 1, h => by
    rw [pas_succ, Nat.pow_succ, show n + 1 - (k + 1) = n - k by omega, Nat.add_mul]
    have h1 := pas_two n k (by omega)
    by_cases hk : k + 1 ≤ n
    · have h2 := pas_two n (k + 1) hk
      rw [show n - k = (n - (k + 1)) + 1 by omega, Nat.pow_succ] at h1 ⊢
      have : pas n (k + 1) * (2 ^ (n - (k + 1)) * 2) = 2 * (pas n (k + 1) * 2 ^ (n - (k + 1))) := by ac_rfl
      omega
    · rw [pas_over n (k + 1) (by omega), Nat.zero_mul]
      omega
/-- in how many ways a column of three counts can be brought about: no more than 3 to the power of its sum -/
theorem col_three (x y z : Nat) : pas (x + y) y * pas (x + y + z) z ≤ 3 ^ (x + y + z) := by
  have h1 := pas_le (x + y) y
  have h2 := pas_two (x + y + z) z (by omega)
  rw [show x + y + z - z = x + y by omega] at h2
  rw [Nat.mul_comm]
  exact Nat.le_trans (Nat.mul_le_mul_left _ h1) h2
def expTo (xs : List Nat) (C : Nat) : Nat → Nat
  | 0 => 0
  | i + 1 => expTo xs C i + colsTo xs C (i + 1) (i % C)
def wToN (xs : List Nat) (C : Nat) : Nat → Nat
  | 0 => 1
  | i + 1 => wToN xs C i * pas (colsTo xs C (i + 1) (i % C)) xs[i]!
theorem wTo_bd (xs : List Nat) (C : Nat) : ∀ i, expTo xs C i ≤ 60 → wTo xs C i = (wToN xs C i : Nat) ∧ 1 ≤ wToN xs C i ∧ wToN xs C i ≤ 2 ^ expTo xs C i
  | 0, _ => ⟨rfl, Nat.le_refl _, Nat.le_refl _⟩
  | i + 1, h => by
    have h' : expTo xs C i + colsTo xs C (i + 1) (i % C) ≤ 60 := h
    obtain ⟨hu, h1, h2⟩ := wTo_bd xs C i (by omega)
    have h3 := pas_le (colsTo xs C (i + 1) (i % C)) xs[i]!
    have h4 : 1 ≤ pas (colsTo xs C (i + 1) (i % C)) xs[i]! := pas_pos (by rw [colsTo_at]; omega)
    have h5 := Nat.mul_le_mul h2 h3
    rw [← Nat.pow_add] at h5
    have h6 : wToN xs C i * pas (colsTo xs C (i + 1) (i % C)) xs[i]! ≤ 1152921504606846976 := Nat.le_trans h5 (Nat.le_trans (Nat.pow_le_pow_right (by omega) h') (by decide))
    refine ⟨?_, Nat.mul_le_mul h1 h4, h5⟩
    show IntKind.i64.wrap (wTo xs C i * (pas (colsTo xs C (i + 1) (i % C)) xs[i]! : Nat)) = ((wToN xs C i * pas (colsTo xs C (i + 1) (i % C)) xs[i]! : Nat) : Int)
    rw [hu, ← Int.natCast_mul]
    exact IntWalk.i64_in _ (by omega)
theorem wToN_nine (a b c d e f g h i : Nat) : wToN [a, b, c, d, e, f, g, h, i] 3 9 = pas (a + d) d * pas (a + d + g) g * (pas (b + e) e * pas (b + e + h) h) * (pas (c + f) f * pas (c + f + i) i) := by
  simp [wToN, colsTo, pas_self]
  ac_rfl
theorem w_nine {a b c d e f g h i : Nat} (hs : a + b + c + d + e + f + g + h + i ≤ 10) : ∃ u : Nat, wOf 3 [a, b, c, d, e, f, g, h, i] = u ∧ 1 ≤ u ∧ u ≤ 59049 := by
  have he : expTo [a, b, c, d, e, f, g, h, i] 3 9 ≤ 30 := by
    simp [expTo, colsTo]
    omega
  obtain ⟨hu, h1, -⟩ := wTo_bd [a, b, c, d, e, f, g, h, i] 3 9 (by omega)
  refine ⟨_, hu, h1, ?_⟩
  rw [wToN_nine]
  have k := Nat.mul_le_mul (Nat.mul_le_mul (col_three a d g) (col_three b e h)) (col_three c f i)
  rw [← Nat.pow_add, ← Nat.pow_add] at k
  exact Nat.le_trans k (Nat.pow_le_pow_right (by omega) (show _ ≤ 10 by omega))
theorem foldT (C B : Nat) (inB : List Nat → Bool) : ∀ (L : List (List Nat)) (p q : Nat), (∀ m, m ∈ L → ∃ u : Nat, wOf C m = u ∧ 1 ≤ u ∧ u ≤ B) → p ≤ q → q + L.length * B ≤ 16777215 →
    ∃ p' q' : Nat, L.foldl (fun y m => tlN C inB y m) ((p : Int), (q : Int)) = ((p' : Int), (q' : Int)) ∧ p ≤ p' ∧ p' ≤ q' ∧ q' ≤ 16777215 ∧ ((∃ m, m ∈ L ∧ inB m = true) → p + 1 ≤ p')
  | [], p, q, _, hpq, hq => ⟨p, q, rfl, Nat.le_refl _, hpq, by simpa using hq, fun ⟨m, hm, _⟩ => by cases hm⟩
  | x :: L, p, q, hw, hpq, hq => by
    obtain ⟨u, hu, h1, h2⟩ := hw x (by simp)
    rw [List.length_cons, Nat.succ_mul] at hq
    have e : tlN C inB ((p : Int), (q : Int)) x = (((if inB x = true then p + u else p : Nat) : Int), ((q + u : Nat) : Int)) := by
      unfold tlN
      rw [hu]
      show ((if inB x = true then IntKind.i64.wrap ((p : Int) + (u : Int)) else (p : Int)), IntKind.i64.wrap ((q : Int) + (u : Int))) = _
      rw [← Int.natCast_add, ← Int.natCast_add, IntWalk.i64_in _ (by omega), IntWalk.i64_in _ (by omega)]
      split <;> rfl
    obtain ⟨p', q', hf, h3, h4, h5, h6⟩ := foldT C B inB L (if inB x = true then p + u else p) (q + u) (fun m hm => hw m (by simp [hm])) (by split <;> omega) (by omega)
    refine ⟨p', q', ?_, Nat.le_trans (by split <;> omega) h3, h4, h5, ?_⟩
    · rw [List.foldl_cons, e]
      exact hf
    · rintro ⟨m, hm, hb⟩
      rcases List.mem_cons.1 hm with rfl | hm
      · rw [if_pos hb] at h3
        omega
      · have := h6 ⟨m, hm, hb⟩
        split at this <;> omega
theorem tails33 (a b c d e f g h i : Nat) (hs : a + b + c + d + e + f + g + h + i ≤ 10) (h0 : a + b + c ≤ 4) (h1 : d + e + f ≤ 3) : ∃ p q : Nat, tails 3 3 (wIn 3 (wOf 3 [a, b, c, d, e, f, g, h, i])) [a, b, c, d, e, f, g, h, i] = ((p : Int), (q : Int)) ∧ 1 ≤ p ∧ p ≤ q ∧ q < 16777216 := by
  have er : rowsS [a, b, c, d, e, f, g, h, i] 3 3 = [a + (b + c), d + (e + f), g + (h + i)] := by simp [rowsS, chN, List.range_succ]
  have ec : colsS [a, b, c, d, e, f, g, h, i] 3 = [a + d + g, b + e + h, c + f + i] := by simp [colsS, colsTo, List.range_succ]
  have hL := len_tabs (a + (b + c)) (d + (e + f)) (g + (h + i)) (a + d + g) (b + e + h) (c + f + i) (by omega) (by omega)
  have hmem : [a, b, c, d, e, f, g, h, i] ∈ tabs [a + (b + c), d + (e + f), g + (h + i)] [a + d + g, b + e + h, c + f + i] := by
    rw [← List.count_pos_iff, count_tabs, if_pos ((is33 _ _ _ _ _ _ _ _ _ _ _ _ _ _ _).2 (by omega))]
    omega
  obtain ⟨p, q, hf, -, h1, h2, h3⟩ := foldT 3 59049 (wIn 3 (wOf 3 [a, b, c, d, e, f, g, h, i])) (tabs [a + (b + c), d + (e + f), g + (h + i)] [a + d + g, b + e + h, c + f + i]) 0 0 (fun m hm => by
    have hg := good_of_mem hm
    have hl := tabGood_len hg
    match m, hl with
    | [a', b', c', d', e', f', g', h', i'], _ =>
      rw [is33] at hg
      exact w_nine (by omega)) (Nat.le_refl _) (by omega)
  refine ⟨p, q, ?_, h3 ⟨_, hmem, ?_⟩, h1, by omega⟩
  · unfold tails
    rw [er, ec]
    exact hf
  · unfold wIn
    simp
theorem flat33 : tails 3 3 (wIn 3 (wOf 3 [1, 0, 0, 0, 1, 0, 0, 0, 1])) [1, 0, 0, 0, 1, 0, 0, 0, 1] = (6, 6) := by decide +kernel
end Go.Proofs.Ytbpigeipjeegiaa
