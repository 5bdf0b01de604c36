/-
  Shares of words: a product with 2^-24 and a quotient by 2^24 are one number; to which state one goes on with a share. No program.
-/
import Derived.Test.YtfkjnaaplhcheaaNn
import Derived.Test.YtfkjnaaplhcheaaVa2
namespace Go.Proofs.Ytfkjnaaplhcheaa
open Go Ieee

theorem pw {n a b c d : Nat} (h : a + b = c + d) : n * 2 ^ a * 2 ^ b = n * 2 ^ c * 2 ^ d := by rw [Nat.mul_assoc, ← Nat.pow_add, h, Nat.pow_add, ← Nat.mul_assoc]
/-- the word of n * 2^(t - 126) -/
def rungN (n t : Nat) : Nat := if n = 0 then 0 else (n.log2 + t) * 8388608 + n * 2 ^ (23 - n.log2)
theorem rungN_bd {n : Nat} (h : n < 16777216) (h0 : n ≠ 0) : n.log2 ≤ 23 ∧ 8388608 ≤ n * 2 ^ (23 - n.log2) ∧ n * 2 ^ (23 - n.log2) < 16777216 := by
  have h1 : n.log2 < 24 := (Nat.log2_lt h0).2 h
  have h2 : 2 ^ n.log2 ≤ n := Nat.log2_self_le h0
  have h3 : n < 2 ^ (n.log2 + 1) := Nat.lt_log2_self
  have h4 : 0 < 2 ^ (23 - n.log2) := Nat.two_pow_pos _
  have h5 : 2 ^ n.log2 * 2 ^ (23 - n.log2) = 8388608 := by rw [← Nat.pow_add, show n.log2 + (23 - n.log2) = 23 by omega]
  have h6 : 2 ^ (n.log2 + 1) * 2 ^ (23 - n.log2) = 16777216 := by rw [← Nat.pow_add, show n.log2 + 1 + (23 - n.log2) = 24 by omega]
  refine ⟨by omega, ?_, ?_⟩
  · rw [← h5]; exact Nat.mul_le_mul_right _ h2
  · rw [← h6]; exact Nat.mul_lt_mul_of_pos_right h3 h4
theorem mu_rungN {n : Nat} (t : Nat) (h : n < 16777216) : mu single (rungN n t) = n * 2 ^ (23 + t) := by
  by_cases h0 : n = 0
  · unfold rungN
    rw [if_pos h0, h0, mu_zero, Nat.zero_mul]
  · obtain ⟨h1, h2, h3⟩ := rungN_bd h h0
    have hb : single.binade = 8388608 := rfl
    have := mu_stair single (n.log2 + t) (n * 2 ^ (23 - n.log2)) (.inr (by rw [hb]; exact h2)) (by rw [hb]; omega)
    rw [hb] at this
    unfold rungN
    rw [if_neg h0, this, Nat.mul_assoc, ← Nat.pow_add, show 23 - n.log2 + (n.log2 + t) = 23 + t by omega]
theorem rungN_lt {n : Nat} (t : Nat) (h : n < 16777216) : rungN n t < (t + 25) * 8388608 := by
  by_cases h0 : n = 0
  · unfold rungN
    rw [if_pos h0]
    omega
  · obtain ⟨h1, h2, h3⟩ := rungN_bd h h0
    unfold rungN
    rw [if_neg h0]
    have := Nat.mul_le_mul_right 8388608 (show n.log2 + t ≤ 23 + t by omega)
    omega
theorem low_word {r : Nat} (h : r < 2147483648) : rungOf single r = r ∧ negOf single r = false := by
  have hs : single.signWeight = 2147483648 := rfl
  unfold rungOf negOf
  rw [hs, Nat.mod_eq_of_lt h, Nat.div_eq_of_lt h]
  exact ⟨rfl, rfl⟩
theorem key_low {r : Nat} (h : r < 2147483648) : key single r = r := by
  unfold key
  rw [(low_word h).1, (low_word h).2]
  rfl
/-- an integer below 2^24 as a single number -/
theorem ofInt_rung {n : Nat} (h : n < 16777216) : floatOfInt .f32 (n : Int) = rungN n 126 := by
  have h1 : floatOfInt .f32 (n : Int) = single.nearest (decide ((n : Int) < 0)) (n : Int).natAbs 0 := rfl
  rw [h1, nearest_eq, decide_eq_false (by omega), Int.natAbs_natCast]
  have hl : single.leastPlace = -149 := rfl
  have hi : single.infRung = 2139095040 := rfl
  have := rungTo_exact single n 0 (-149) (rungN n 126) (by decide) (by rw [hl]; decide) (by have := rungN_lt 126 h; rw [hi]; omega) (by
    rw [hl, mu_rungN 126 h]
    show n * 2 ^ 149 = n * 2 ^ (23 + 126) * 2 ^ 0
    rw [Nat.pow_zero, Nat.mul_one])
  rw [this]
  rfl
theorem read_rungN {n : Nat} (h : n < 16777216) : ∃ m e : Nat, single.read (rungN n 126) = .number false m ((e : Int) - 149) ∧ m * 2 ^ e = n * 2 ^ 149 ∧ m < 16777216 := by
  have hlt := rungN_lt 126 h
  have hw := low_word (r := rungN n 126) (by omega)
  have hi : single.infRung = 2139095040 := rfl
  have hl : single.leastPlace = -149 := rfl
  obtain ⟨m, e, h1, h2, h3⟩ := read_fin (f := single) (x := rungN n 126) (by rw [hw.1, hi]; omega)
  rw [hw.2] at h1
  rw [hw.1, mu_rungN 126 h, hl] at h3
  rw [hl] at h2
  refine ⟨m, (e + 149).toNat, ?_, ?_, ?_⟩
  · rw [h1]; congr 1; omega
  · rw [show (e + 149).toNat = (e - -149).toNat by omega, h3]
  · have h4 := read_eq single (rungN n 126)
    have hb : single.binade = 8388608 := rfl
    rw [h1, hb] at h4
    split at h4
    · injection h4 with _ h5 _
      rw [hw.1] at h5
      omega
    · split at h4
      · injection h4 with _ h5 _
        have := Nat.mod_lt (rungOf single (rungN n 126)) (show 0 < 8388608 by decide)
        omega
      · split at h4 <;> cases h4
/-- a word's share -/
def shareN (n : Nat) : Nat := rungN n 102
theorem share_fin {n : Nat} (h : n < 16777216) : isFin single (shareN n) = true ∧ 0 ≤ key single (shareN n) ∧ key single (shareN n) < 1065353216 := by
  have hlt := rungN_lt 102 h
  have hw := low_word (r := rungN n 102) (by omega)
  have hi : single.infRung = 2139095040 := rfl
  unfold shareN
  refine ⟨(fin_iff single (by decide) _).2 (by rw [hw.1, hi]; omega), ?_, ?_⟩
  · rw [key_low (by omega)]; omega
  · rw [key_low (by omega)]; omega
theorem mul_share {n : Nat} (h : n < 16777216) : floatBits .mul .f32 (rungN n 126) 864026624 = some (shareN n) := by
  obtain ⟨m, e, h1, h2, h3⟩ := read_rungN h
  have hc : single.read 864026624 = .number false 8388608 (-47) := by decide +kernel
  have hl : single.leastPlace = -149 := rfl
  have hi : single.infRung = 2139095040 := rfl
  have hm : single.mul (rungN n 126) 864026624 = some (single.word false (rungTo single (m * 8388608) ((e : Int) - 149 + -47))) := by
    unfold Format.mul
    rw [h1, hc]
    show some (single.nearest (false ^^ false) (m * 8388608) ((e : Int) - 149 + -47)) = _
    rw [nearest_eq]
    rfl
  have hr := rungTo_exact single (m * 8388608) ((e : Int) - 149 + -47) (-300) (shareN n) (by omega) (by rw [hl]; decide) (by have := rungN_lt 102 h; unfold shareN; rw [hi]; omega) (by
    unfold shareN
    rw [hl, mu_rungN 102 h, show ((e : Int) - 149 + -47 - -300).toNat = e + 104 by omega, show (-149 - -300 : Int).toNat = 151 by decide]
    rw [show (8388608 : Nat) = 2 ^ 23 by decide, Nat.mul_assoc, ← Nat.pow_add, show 23 + (e + 104) = e + 127 by omega, Nat.pow_add, ← Nat.mul_assoc, h2]
    exact pw rfl)
  show single.mul (rungN n 126) 864026624 = _
  rw [hm, hr]
  rfl
theorem div_share {n : Nat} (h : n < 16777216) : floatBits .quo .f32 (rungN n 126) 1266679808 = some (shareN n) := by
  obtain ⟨m, e, h1, h2, h3⟩ := read_rungN h
  have hc : single.read 1266679808 = .number false 8388608 1 := by decide +kernel
  have hl : single.leastPlace = -149 := rfl
  have hi : single.infRung = 2139095040 := rfl
  have hlg : m.log2 ≤ 23 := by
    by_cases h0 : m = 0
    · rw [h0]; decide
    · have := (Nat.log2_lt h0).2 (show m < 2 ^ 24 by omega)
      omega
  obtain ⟨q, hq⟩ : ∃ q, 25 + 23 - m.log2 = q + 23 := ⟨25 - m.log2, by omega⟩
  have hqb : q ≤ 25 := by omega
  have hm : single.div (rungN n 126) 1266679808 = some (single.word false (rungTo single (2 * (m * 2 ^ q)) ((e : Int) - 149 - 1 - ((q + 23 : Nat) : Int) - 1))) := by
    unfold Format.div
    rw [h1, hc]
    have hlog : (8388608 : Nat).log2 = 23 := by decide +kernel
    have hfd : single.fractionBits + 2 = 25 := rfl
    have hdd : m <<< (q + 23) = m * 2 ^ q * 8388608 := by
      rw [Nat.shiftLeft_eq, Nat.pow_add, ← Nat.mul_assoc]
    rw [hfd]
    show Option.map single.write (if 8388608 = 0 then if m = 0 then none else some (.infinity (false ^^ false)) else some (.number (false ^^ false) (2 * (m <<< (25 + (8388608 : Nat).log2 - m.log2) / 8388608) + (m <<< (25 + (8388608 : Nat).log2 - m.log2) % 8388608 != 0).toNat) ((e : Int) - 149 - 1 - (25 + (8388608 : Nat).log2 - m.log2 : Nat) - 1))) = _
    rw [if_neg (by decide), hlog, hq, hdd, Nat.mul_div_cancel _ (by decide), Nat.mul_mod_left]
    show some (single.nearest false (2 * (m * 2 ^ q) + 0) _) = _
    rw [nearest_eq, Nat.add_zero]
  have hr := rungTo_exact single (2 * (m * 2 ^ q)) ((e : Int) - 149 - 1 - ((q + 23 : Nat) : Int) - 1) (-300) (shareN n) (by omega) (by rw [hl]; decide) (by have := rungN_lt 102 h; unfold shareN; rw [hi]; omega) (by
    unfold shareN
    rw [hl, mu_rungN 102 h, show (-149 - -300 : Int).toNat = 151 by decide]
    obtain ⟨s, hs⟩ : ∃ s, ((e : Int) - 149 - 1 - ((q + 23 : Nat) : Int) - 1 - -300).toNat = s := ⟨_, rfl⟩
    rw [hs, show 2 * (m * 2 ^ q) = m * 2 ^ (q + 1) by rw [Nat.pow_succ, Nat.mul_comm 2, Nat.mul_assoc], Nat.mul_assoc, ← Nat.pow_add, show q + 1 + s = e + 127 by omega, Nat.pow_add, ← Nat.mul_assoc, h2]
    exact pw rfl)
  show single.div (rungN n 126) 1266679808 = _
  rw [hm, hr]
  rfl

/-! ### going on -/
/-- the sum of the first numbers of a row is greater than u -/
def hitB (row : List Nat) (u k : Nat) : Bool := decide (key single u < key single (fsum (row.take (k + 1))))
def lastTo (row : List Nat) (start : Nat) : Nat → Nat
  | 0 => start
  | k + 1 => if 0 < key single (row.getD k 0) then k else lastTo row start k
def goF (row : List Nat) (u start : Nat) : Nat := match (List.range row.length).find? (hitB row u) with | some k => k | none => lastTo row start row.length
theorem goF_hit {row : List Nat} {u start k : Nat} (hk : k < row.length) (h0 : ∀ j, j < k → hitB row u j = false) (h1 : hitB row u k = true) : goF row u start = k := by
  have : (List.range row.length).find? (hitB row u) = some k := by
    rw [List.find?_range_eq_some]
    exact ⟨h1, List.mem_range.2 hk, fun j hj => by rw [h0 j hj]; rfl⟩
  unfold goF
  rw [this]
theorem goF_none {row : List Nat} {u start : Nat} (h0 : ∀ j, j < row.length → hitB row u j = false) : goF row u start = lastTo row start row.length := by
  have : (List.range row.length).find? (hitB row u) = none := by
    rw [List.find?_eq_none]
    intro j hj
    rw [h0 j (List.mem_range.1 hj)]
    exact Bool.false_ne_true
  unfold goF
  rw [this]
theorem lastTo_lt {row : List Nat} {start n : Nat} (hs : start < n) : ∀ k, k ≤ n → lastTo row start k < n := by
  intro k
  induction k with
  | zero => exact fun _ => hs
  | succ k ih =>
    intro hk
    unfold lastTo
    split
    · omega
    · exact ih (by omega)
theorem goF_lt {row : List Nat} {u start : Nat} (hs : start < row.length) : goF row u start < row.length := by
  cases h : (List.range row.length).find? (hitB row u) with
  | some k =>
    unfold goF
    rw [h]
    exact List.mem_range.1 (List.mem_of_find?_eq_some h)
  | none =>
    unfold goF
    rw [h]
    exact lastTo_lt hs _ (Nat.le_refl _)
theorem fadd_zeros {x : Nat} (hx : isFin single x = true) (hk : key single x = 0) : fadd 0 x = 0 := by
  have he : 1 ≤ single.exponentBits := by decide
  obtain ⟨t, n, j, hq, ht, hlj, hn, hk2⟩ := read_nn he hx (by omega)
  have h0 : rungOf single x = 0 := by omega
  rw [h0, mu_zero] at hn
  have hn0 : n = 0 := by
    rcases Nat.mul_eq_zero.1 hn with h | h
    · exact h
    · have := Nat.two_pow_pos (j - single.leastPlace).toNat; omega
  have hr : single.read 0 = .number false 0 (-149) := by decide +kernel
  have hadd : single.add 0 x = some (single.nearest (if signed false 0 (-149 - min (-149) j).toNat + signed t n (j - min (-149) j).toNat = 0 then false && t else decide (signed false 0 (-149 - min (-149) j).toNat + signed t n (j - min (-149) j).toNat < 0)) (signed false 0 (-149 - min (-149) j).toNat + signed t n (j - min (-149) j).toNat).natAbs (min (-149) j)) := by
    unfold Format.add
    rw [hr, hq]
    rfl
  have hv := congrArg (fun o => Option.getD o 0) hadd
  change fadd 0 x = _ at hv
  simp only [Option.getD_some] at hv
  rw [signed_nn (.inl rfl), signed_nn ht, hn0] at hv
  rw [hv]
  simp only [Nat.zero_mul]
  rfl
theorem fsum_zeros : ∀ (xs : List Nat), (∀ x ∈ xs, isFin single x = true ∧ key single x = 0) → fsum xs = 0 := by
  intro xs
  unfold fsum
  induction xs with
  | nil => exact fun _ => rfl
  | cons x xs ih =>
    intro h
    rw [List.foldl_cons, fadd_zeros (h x (List.mem_cons_self ..)).1 (h x (List.mem_cons_self ..)).2]
    exact ih fun y hy => h y (List.mem_cons_of_mem _ hy)
theorem ok_zero : okSum 0 = false := by decide +kernel
theorem rowAt_part {xs : List Nat} {n i : Nat} (hp : xs.all partB = true) : (rowAt xs n i).all partB = true := by
  rw [List.all_eq_true] at hp ⊢
  intro x hx
  unfold rowAt at hx
  exact hp x (List.mem_of_mem_drop (List.mem_of_mem_take hx))
theorem lastTo_same {row : List Nat} {s t : Nat} : ∀ k, (∃ j, j < k ∧ 0 < key single (row.getD j 0)) → lastTo row s k = lastTo row t k := by
  intro k
  induction k with
  | zero => rintro ⟨j, hj, -⟩; omega
  | succ k ih =>
    rintro ⟨j, hj, hp⟩
    unfold lastTo
    by_cases h : 0 < key single (row.getD k 0)
    · rw [if_pos h, if_pos h]
    · rw [if_neg h, if_neg h]
      refine ih ⟨j, ?_, hp⟩
      rcases Nat.lt_or_ge j k with hlt | hge
      · exact hlt
      · have : j = k := by omega
        subst this
        exact absurd hp h
/-- in a valid chain it is one where the last one begins -/
theorem goF_same {xs : List Nat} {n i u s t : Nat} (hp : xs.all partB = true) (_hl : xs.length = n * n) (hr : rowsOk xs n n = true) (hi : i < n) : goF (rowAt xs n i) u s = goF (rowAt xs n i) u t := by
  have hpos : ∃ j, j < (rowAt xs n i).length ∧ 0 < key single ((rowAt xs n i).getD j 0) := by
    apply Classical.byContradiction
    intro hno
    have hz : fsum (rowAt xs n i) = 0 := fsum_zeros _ fun x hx => by
      have h1 := part_key (List.all_eq_true.1 (rowAt_part hp) x hx)
      refine ⟨h1.2.2.2, ?_⟩
      obtain ⟨j, hj, hjx⟩ := List.getElem_of_mem hx
      have h2 : ¬ 0 < key single x := fun h => hno ⟨j, hj, by rw [List.getD_eq_getElem?_getD, List.getElem?_eq_getElem hj, hjx]; exact h⟩
      have := h1.2.1
      omega
    unfold rowsOk at hr
    have := List.all_eq_true.1 hr i (List.mem_range.2 hi)
    simp only [hz, ok_zero] at this
    cases this
  unfold goF
  split
  · rfl
  · exact lastTo_same _ hpos
/-- the state behind a step with a share -/
def onC (xs : List Nat) (n i u : Nat) : Nat := goF (rowAt xs n i) u 0
theorem onC_lt {xs : List Nat} {n i u : Nat} (hl : xs.length = n * n) (hi : i < n) : onC xs n i u < n := by
  have h := rowAt_len hl hi
  have := goF_lt (row := rowAt xs n i) (u := u) (start := 0) (by omega)
  unfold onC
  omega
end Go.Proofs.Ytfkjnaaplhcheaa

