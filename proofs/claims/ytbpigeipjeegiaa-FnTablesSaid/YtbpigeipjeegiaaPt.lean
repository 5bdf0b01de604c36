/-
  How often a table is among the tables of given sums (plain): once, if its sums are right.
-/
import Derived.Test.YtbpigeipjeegiaaFx
namespace Go.Proofs.Ytbpigeipjeegiaa
open Go Go.RowKit

theorem sum_pick {α : Type} [BEq α] [LawfulBEq α] [DecidableEq α] (a : α) (g : α → Nat) (l : List α) : (l.map fun x => if x = a then g x else 0).sum = l.count a * g a := by
  induction l with
  | nil => simp
  | cons x l ih =>
    rw [List.map_cons, List.sum_cons, ih, List.count_cons]
    by_cases h : x = a
    · subst h
      simp [Nat.succ_mul, Nat.add_comm]
    · have : (x == a) = false := by simpa using h
      simp [h]
theorem count_pre (row m : List Nat) (L : List (List Nat)) : (L.map (row ++ ·)).count m = if row = m.take row.length then L.count (m.drop row.length) else 0 := by
  induction L with
  | nil => simp
  | cons x L ih =>
    rw [List.map_cons, List.count_cons, ih, List.count_cons]
    by_cases h : row = m.take row.length
    · rw [if_pos h, if_pos h]
      have e : ((row ++ x) == m) = (x == m.drop row.length) := by
        rw [Bool.eq_iff_iff, beq_iff_eq, beq_iff_eq]
        constructor
        · intro e
          rw [← e, List.drop_left']
          rfl
        · intro e
          rw [e]
          conv => lhs; lhs; rw [h]
          exact List.take_append_drop _ _
      rw [e]
    · rw [if_neg h, if_neg h]
      have e : ((row ++ x) == m) = false := by
        rw [beq_eq_false_iff_ne]
        intro e
        apply h
        rw [← e, List.take_left']
        rfl
      rw [e]
      simp
/-- a row within bounds, of a given sum -/
def rowGood : List Nat → Nat → List Nat → Bool
  | [], s, v => decide (s = 0) && v.isEmpty
  | _ :: _, _, [] => false
  | l :: ls, s, v :: vs => decide (v ≤ min s l) && rowGood ls (s - v) vs
theorem rowGood_len : ∀ {ls : List Nat} {s : Nat} {v : List Nat}, rowGood ls s v = true → v.length = ls.length
  | [], s, v, h => by
    unfold rowGood at h
    simp at h
    simp [h.2]
  | _ :: _, _, [], h => by cases h
  | l :: ls, s, v :: vs, h => by
    unfold rowGood at h
    rw [Bool.and_eq_true] at h
    simp [rowGood_len h.2]
theorem sum_range_pick (a m : Nat) (g : Nat → Nat) : ((List.range m).map fun n => if n = a then g n else 0).sum = if a < m then g a else 0 := by
  rw [sum_pick, List.count_range]
  split <;> simp
theorem count_rows : ∀ (ls : List Nat) (s : Nat) (v : List Nat), (rowsOf ls s).count v = if rowGood ls s v = true then 1 else 0
  | [], s, v => by
    unfold rowsOf rowGood
    by_cases h : s = 0
    · rw [if_pos h]
      cases v <;> simp [h]
    · rw [if_neg h]
      simp [h]
  | l :: ls, s, v => by
    unfold rowsOf
    rw [List.count_flatMap]
    cases v with
    | nil =>
      have : ((List.range (min s l + 1)).map (List.count [] ∘ fun n => (rowsOf ls (s - n)).map (n :: ·))) = (List.range (min s l + 1)).map fun _ => 0 := by
        refine List.map_congr_left fun n _ => ?_
        simp [List.count_eq_zero]
      rw [this]
      simp [rowGood, List.map_const', List.sum_replicate_nat]
    | cons v vs =>
      have : ((List.range (min s l + 1)).map (List.count (v :: vs) ∘ fun n => (rowsOf ls (s - n)).map (n :: ·))) = (List.range (min s l + 1)).map fun n => if n = v then (rowsOf ls (s - n)).count vs else 0 := by
        refine List.map_congr_left fun n _ => ?_
        have := count_pre [n] (v :: vs) (rowsOf ls (s - n))
        simp only [List.length_singleton, List.take_succ_cons, List.take_zero, List.drop_succ_cons, List.drop_zero, List.cons.injEq, and_true] at this
        exact this
      rw [this, sum_range_pick, count_rows ls, show rowGood (l :: ls) s (v :: vs) = (decide (v ≤ min s l) && rowGood ls (s - v) vs) from rfl]
      by_cases h : v ≤ min s l
      · rw [if_pos (by omega)]
        simp only [decide_eq_true h, Bool.true_and]
      · rw [if_neg (by omega)]
        simp only [decide_eq_false h, Bool.false_and]
        rfl
/-- a table of given sums -/
def tabGood : List Nat → List Nat → List Nat → Bool
  | [], lim, m => decide (lim.sum = 0) && m.isEmpty
  | r :: rs, lim, m => rowGood lim r (m.take lim.length) && tabGood rs (subL lim (m.take lim.length)) (m.drop lim.length)
theorem count_tabs : ∀ (rs lim m : List Nat), (tabs rs lim).count m = if tabGood rs lim m = true then 1 else 0
  | [], lim, m => by
    unfold tabs tabGood
    by_cases h : lim.sum = 0
    · rw [if_pos h]
      cases m <;> simp [h]
    · rw [if_neg h]
      simp [h]
  | r :: rs, lim, m => by
    unfold tabs
    rw [List.count_flatMap]
    have : ((rowsOf lim r).map (List.count m ∘ fun row => (tabs rs (subL lim row)).map (row ++ ·))) = (rowsOf lim r).map fun row => if row = m.take lim.length then (tabs rs (subL lim row)).count (m.drop lim.length) else 0 := by
      refine List.map_congr_left fun row hr => ?_
      have hl : row.length = lim.length := by
        have h1 : 0 < (rowsOf lim r).count row := List.count_pos_iff.2 hr
        rw [count_rows] at h1
        split at h1
        · next h => exact rowGood_len h
        · omega
      have := count_pre row m (tabs rs (subL lim row))
      rw [hl] at this
      exact this
    rw [this, sum_pick, count_rows, count_tabs rs, show tabGood (r :: rs) lim m = (rowGood lim r (m.take lim.length) && tabGood rs (subL lim (m.take lim.length)) (m.drop lim.length)) from rfl]
    by_cases h1 : rowGood lim r (m.take lim.length) = true
    · rw [if_pos h1, h1, Nat.one_mul, Bool.true_and]
    · rw [if_neg h1, Nat.zero_mul]
      have : rowGood lim r (m.take lim.length) = false := by simpa using h1
      rw [this]
      simp

theorem row2 (l0 l1 s x y : Nat) : rowGood [l0, l1] s [x, y] = true ↔ x ≤ l0 ∧ y ≤ l1 ∧ x + y = s := by
  simp [rowGood]
  omega
theorem row3 (l0 l1 l2 s x y z : Nat) : rowGood [l0, l1, l2] s [x, y, z] = true ↔ x ≤ l0 ∧ y ≤ l1 ∧ z ≤ l2 ∧ x + y + z = s := by
  simp [rowGood]
  omega
theorem tab_nil (lim : List Nat) : tabGood [] lim [] = true ↔ lim.sum = 0 := by simp [tabGood]
theorem sub2 (a b x y : Nat) : subL [a, b] [x, y] = [a - x, b - y] := by simp [subL, List.range_succ]
theorem sub3 (a b c x y z : Nat) : subL [a, b, c] [x, y, z] = [a - x, b - y, c - z] := by simp [subL, List.range_succ]
theorem tab2 (r : Nat) (rs : List Nat) (c0 c1 x y : Nat) (m : List Nat) : tabGood (r :: rs) [c0, c1] (x :: y :: m) = true ↔ (x ≤ c0 ∧ y ≤ c1 ∧ x + y = r) ∧ tabGood rs [c0 - x, c1 - y] m = true := by
  rw [show tabGood (r :: rs) [c0, c1] (x :: y :: m) = (rowGood [c0, c1] r [x, y] && tabGood rs (subL [c0, c1] [x, y]) m) from rfl, Bool.and_eq_true, row2, sub2]
theorem tab3 (r : Nat) (rs : List Nat) (c0 c1 c2 x y z : Nat) (m : List Nat) : tabGood (r :: rs) [c0, c1, c2] (x :: y :: z :: m) = true ↔ (x ≤ c0 ∧ y ≤ c1 ∧ z ≤ c2 ∧ x + y + z = r) ∧ tabGood rs [c0 - x, c1 - y, c2 - z] m = true := by
  rw [show tabGood (r :: rs) [c0, c1, c2] (x :: y :: z :: m) = (rowGood [c0, c1, c2] r [x, y, z] && tabGood rs (subL [c0, c1, c2] [x, y, z]) m) from rfl, Bool.and_eq_true, row3, sub3]
theorem is22 (r0 r1 c0 c1 a b c d : Nat) : tabGood [r0, r1] [c0, c1] [a, b, c, d] = true ↔ a + b = r0 ∧ c + d = r1 ∧ a + c = c0 ∧ b + d = c1 := by
  rw [tab2, tab2, tab_nil]
  simp only [List.sum_cons, List.sum_nil]
  omega
theorem is23 (r0 r1 c0 c1 c2 a b c d e f : Nat) : tabGood [r0, r1] [c0, c1, c2] [a, b, c, d, e, f] = true ↔ a + b + c = r0 ∧ d + e + f = r1 ∧ a + d = c0 ∧ b + e = c1 ∧ c + f = c2 := by
  rw [tab3, tab3, tab_nil]
  simp only [List.sum_cons, List.sum_nil]
  omega
theorem is32 (r0 r1 r2 c0 c1 a b c d e f : Nat) : tabGood [r0, r1, r2] [c0, c1] [a, b, c, d, e, f] = true ↔ a + b = r0 ∧ c + d = r1 ∧ e + f = r2 ∧ a + c + e = c0 ∧ b + d + f = c1 := by
  rw [tab2, tab2, tab2, tab_nil]
  simp only [List.sum_cons, List.sum_nil]
  omega
theorem is33 (r0 r1 r2 c0 c1 c2 a b c d e f g h i : Nat) : tabGood [r0, r1, r2] [c0, c1, c2] [a, b, c, d, e, f, g, h, i] = true ↔ a + b + c = r0 ∧ d + e + f = r1 ∧ g + h + i = r2 ∧ a + d + g = c0 ∧ b + e + h = c1 ∧ c + f + i = c2 := by
  rw [tab3, tab3, tab3, tab_nil]
  simp only [List.sum_cons, List.sum_nil]
  constructor
  · rintro ⟨⟨h1, h2, h3, h4⟩, ⟨h5, h6, h7, h8⟩, ⟨h9, h10, h11, h12⟩, h13⟩
    obtain ⟨k0, rfl⟩ : ∃ k, c0 = a + k := ⟨c0 - a, by omega⟩
    obtain ⟨k1, rfl⟩ : ∃ k, c1 = b + k := ⟨c1 - b, by omega⟩
    obtain ⟨k2, rfl⟩ : ∃ k, c2 = c + k := ⟨c2 - c, by omega⟩
    rw [Nat.add_sub_cancel_left] at *
    omega
  · rintro ⟨h1, h2, h3, rfl, rfl, rfl⟩
    refine ⟨⟨by omega, by omega, by omega, h1⟩, ⟨by omega, by omega, by omega, h2⟩, ⟨by omega, by omega, by omega, h3⟩, by omega⟩

theorem good_of_mem {rs lim m : List Nat} (h : m ∈ tabs rs lim) : tabGood rs lim m = true := by
  have h1 : 0 < (tabs rs lim).count m := List.count_pos_iff.2 h
  rw [count_tabs] at h1
  split at h1
  · next h => exact h
  · omega
theorem tabs_perm {rs cs : List Nat} {n : Nat} {T S : List Nat → List Nat} (hT : ∀ x, x.length = n → (T x).length = n ∧ S (T x) = x) (hS : ∀ x, x.length = n → T (S x) = x) (hg : ∀ m, m.length = n → tabGood rs cs m = tabGood cs rs (S m)) (h1 : ∀ m, tabGood rs cs m = true → m.length = n) (h2 : ∀ m, tabGood cs rs m = true → m.length = n) :
    (tabs rs cs).Perm ((tabs cs rs).map T) := by
  rw [List.perm_iff_count]
  intro m
  rw [count_tabs]
  by_cases hm : m.length = n
  · have e : ((tabs cs rs).map T).count m = (tabs cs rs).count (S m) := by
      unfold List.count
      rw [List.countP_map]
      refine List.countP_congr fun x hx => ?_
      have hl := h2 x (good_of_mem hx)
      simp only [Function.comp, beq_iff_eq]
      constructor
      · intro e
        rw [← e, (hT x hl).2]
      · intro e
        rw [e, hS m hm]
    rw [e, count_tabs, hg m hm]
  · have e1 : ((tabs cs rs).map T).count m = 0 := by
      rw [List.count_eq_zero]
      intro hx
      obtain ⟨x, hx2, rfl⟩ := List.mem_map.1 hx
      exact hm (hT x (h2 x (good_of_mem hx2))).1
    rw [e1, if_neg fun h => hm (h1 m h)]

theorem wrapA (a b : Int) : IntKind.i64.wrap (IntKind.i64.wrap a + b) = IntKind.i64.wrap (a + b) := by
  unfold IntKind.wrap
  simp [IntKind.bits, IntKind.signed]
  omega
theorem wrapC (a b c : Int) : IntKind.i64.wrap (IntKind.i64.wrap (a + b) + c) = IntKind.i64.wrap (IntKind.i64.wrap (a + c) + b) := by
  rw [wrapA, wrapA, Int.add_right_comm]
theorem tlN_comm (C : Nat) (inB : List Nat → Bool) (z : Int × Int) (x y : List Nat) : tlN C inB (tlN C inB z x) y = tlN C inB (tlN C inB z y) x := by
  unfold tlN
  cases inB x <;> cases inB y <;> simp [wrapC z.1, wrapC z.2 (wOf C x)]
/-- the sums of a tail over another list of the same tables -/
theorem tails_perm {R C : Nat} {inB : List Nat → Bool} {xs : List Nat} {L : List (List Nat)} (h : (tabs (rowsS xs R C) (colsS xs C)).Perm L) : tails R C inB xs = L.foldl (tlN C inB) (0, 0) := by
  have e : tails R C inB xs = (tabs (rowsS xs R C) (colsS xs C)).foldl (tlN C inB) (0, 0) := by
    unfold tails goRows
    simp only [List.nil_append]
  rw [e]
  exact h.foldl_eq' (fun x _ y _ z => tlN_comm C inB z x y) (0, 0)

theorem tabGood_len : ∀ {rs lim m : List Nat}, tabGood rs lim m = true → m.length = rs.length * lim.length
  | [], lim, m, h => by
    unfold tabGood at h
    simp at h
    simp [h.2]
  | r :: rs, lim, m, h => by
    rw [show tabGood (r :: rs) lim m = (rowGood lim r (m.take lim.length) && tabGood rs (subL lim (m.take lim.length)) (m.drop lim.length)) from rfl, Bool.and_eq_true] at h
    have h1 := rowGood_len h.1
    have h2 := tabGood_len h.2
    rw [subL_len, List.length_drop] at h2
    rw [List.length_take] at h1
    rw [List.length_cons, Nat.succ_mul]
    omega
def tr22 : List Nat → List Nat
  | [a, b, c, d] => [a, c, b, d]
  | m => m
/-- 2 rows of 3, out of 3 rows of 2 -/
def tr23 : List Nat → List Nat
  | [a, b, c, d, e, f] => [a, c, e, b, d, f]
  | m => m
/-- 3 rows of 2, out of 2 rows of 3 -/
def tr32 : List Nat → List Nat
  | [a, b, c, d, e, f] => [a, d, b, e, c, f]
  | m => m
def tr33 : List Nat → List Nat
  | [a, b, c, d, e, f, g, h, i] => [a, d, g, b, e, h, c, f, i]
  | m => m
theorem good22 (r0 r1 c0 c1 : Nat) (m : List Nat) (hm : m.length = 4) : tabGood [r0, r1] [c0, c1] m = tabGood [c0, c1] [r0, r1] (tr22 m) := by
  match m, hm with
  | [a, b, c, d], _ =>
    rw [Bool.eq_iff_iff]
    show _ ↔ tabGood [c0, c1] [r0, r1] [a, c, b, d] = true
    rw [is22, is22]
    omega
theorem perm22 (r0 r1 c0 c1 : Nat) : (tabs [r0, r1] [c0, c1]).Perm ((tabs [c0, c1] [r0, r1]).map tr22) :=
  tabs_perm (n := 4) (S := tr22) (fun x hx => match x, hx with | [_, _, _, _], _ => ⟨rfl, rfl⟩) (fun x hx => match x, hx with | [_, _, _, _], _ => rfl) (good22 r0 r1 c0 c1) (fun m h => tabGood_len h) (fun m h => tabGood_len h)
theorem good23 (r0 r1 c0 c1 c2 : Nat) (m : List Nat) (hm : m.length = 6) : tabGood [r0, r1] [c0, c1, c2] m = tabGood [c0, c1, c2] [r0, r1] (tr32 m) := by
  match m, hm with
  | [a, b, c, d, e, f], _ =>
    rw [Bool.eq_iff_iff]
    show _ ↔ tabGood [c0, c1, c2] [r0, r1] [a, d, b, e, c, f] = true
    rw [is23, is32]
    omega
theorem perm23 (r0 r1 c0 c1 c2 : Nat) : (tabs [r0, r1] [c0, c1, c2]).Perm ((tabs [c0, c1, c2] [r0, r1]).map tr23) :=
  tabs_perm (n := 6) (S := tr32) (fun x hx => match x, hx with | [_, _, _, _, _, _], _ => ⟨rfl, rfl⟩) (fun x hx => match x, hx with | [_, _, _, _, _, _], _ => rfl) (good23 r0 r1 c0 c1 c2) (fun m h => tabGood_len h) (fun m h => tabGood_len h)
theorem good32 (r0 r1 r2 c0 c1 : Nat) (m : List Nat) (hm : m.length = 6) : tabGood [r0, r1, r2] [c0, c1] m = tabGood [c0, c1] [r0, r1, r2] (tr23 m) := by
  match m, hm with
  | [a, b, c, d, e, f], _ =>
    rw [Bool.eq_iff_iff]
    show _ ↔ tabGood [c0, c1] [r0, r1, r2] [a, c, e, b, d, f] = true
    rw [is32, is23]
    omega
theorem perm32 (r0 r1 r2 c0 c1 : Nat) : (tabs [r0, r1, r2] [c0, c1]).Perm ((tabs [c0, c1] [r0, r1, r2]).map tr32) :=
  tabs_perm (n := 6) (S := tr23) (fun x hx => match x, hx with | [_, _, _, _, _, _], _ => ⟨rfl, rfl⟩) (fun x hx => match x, hx with | [_, _, _, _, _, _], _ => rfl) (good32 r0 r1 r2 c0 c1) (fun m h => tabGood_len h) (fun m h => tabGood_len h)
theorem good33 (r0 r1 r2 c0 c1 c2 : Nat) (m : List Nat) (hm : m.length = 9) : tabGood [r0, r1, r2] [c0, c1, c2] m = tabGood [c0, c1, c2] [r0, r1, r2] (tr33 m) := by
  match m, hm with
  | [a, b, c, d, e, f, g, h, i], _ =>
    rw [Bool.eq_iff_iff]
    show _ ↔ tabGood [c0, c1, c2] [r0, r1, r2] [a, d, g, b, e, h, c, f, i] = true
    rw [is33, is33]
    omega
theorem perm33 (r0 r1 r2 c0 c1 c2 : Nat) : (tabs [r0, r1, r2] [c0, c1, c2]).Perm ((tabs [c0, c1, c2] [r0, r1, r2]).map tr33) :=
  tabs_perm (n := 9) (S := tr33) (fun x hx => match x, hx with | [_, _, _, _, _, _, _, _, _], _ => ⟨rfl, rfl⟩) (fun x hx => match x, hx with | [_, _, _, _, _, _, _, _, _], _ => rfl) (good33 r0 r1 r2 c0 c1 c2) (fun m h => tabGood_len h) (fun m h => tabGood_len h)
end Go.Proofs.Ytbpigeipjeegiaa

