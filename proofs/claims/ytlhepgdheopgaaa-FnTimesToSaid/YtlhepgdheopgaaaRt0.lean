/-
  How much a row changes at a step, and when it rests. No program.
-/
import Derived.Test.YtlhepgdheopgaaaGw3
namespace Go.Proofs.Ytlhepgdheopgaaa
open Go Ieee

/-- the part of each of n states -/
def partQ (n : Nat) : Nat := fdiv 1065353216 (floatOfInt .f32 n)
set_option maxRecDepth 100000 in
theorem partQ_ok {n : Nat} (h1 : 1 ≤ n) (h2 : n ≤ 12) : floatBits .quo .f32 1065353216 (floatOfInt .f32 n) = some (partQ n) ∧ leastB (partQ n) = true ∧ val (partQ n) ≤ 2 ^ 149 := by
  have h : n = 1 ∨ n = 2 ∨ n = 3 ∨ n = 4 ∨ n = 5 ∨ n = 6 ∨ n = 7 ∨ n = 8 ∨ n = 9 ∨ n = 10 ∨ n = 11 ∨ n = 12 := by omega
  clear h1 h2
  rcases h with rfl | rfl | rfl | rfl | rfl | rfl | rfl | rfl | rfl | rfl | rfl | rfl <;> decide +kernel
def firstRow (n : Nat) : List Nat := List.replicate n (partQ n)
theorem firstRow_ok {n : Nat} (h1 : 1 ≤ n) (h2 : n ≤ 12) : (firstRow n).length = n ∧ (firstRow n).all leastB = true ∧ rowV (firstRow n) n ≤ 12 * 2 ^ 149 := by
  obtain ⟨a, b, c⟩ := partQ_ok h1 h2
  refine ⟨by simp [firstRow], ?_, ?_⟩
  · rw [List.all_eq_true]
    intro x hx
    unfold firstRow at hx
    rw [(List.mem_replicate.1 hx).2]
    exact b
  · have : ∀ i, i < n → val (rowOf (firstRow n) i) ≤ 2 ^ 149 := by
      intro i hi
      unfold rowOf firstRow
      rw [List.getD_eq_getElem?_getD, List.getElem?_replicate, if_pos hi]
      exact c
    refine Nat.le_trans (sumN_le (g := fun _ => 2 ^ 149) n this) ?_
    rw [sumN_const]
    exact Nat.mul_le_mul_right _ h2
/-- the change at a place, and the greatest so far -/
def chgAt (next now : List Nat) (k : Nat) : Nat := fsub (rowOf next k) (rowOf now k)
def chgTo (next now : List Nat) : Nat → Nat
  | 0 => 0
  | k + 1 => if key single (chgTo next now k) < key single (sizeF (chgAt next now k)) then sizeF (chgAt next now k) else chgTo next now k
theorem chgAt_runs {next now : List Nat} {n k : Nat} (h1 : next.length = n) (h2 : next.all leastB = true) (h3 : now.length = n) (h4 : now.all leastB = true) (hk : k < n) :
    floatBits .sub .f32 (rowOf next k) (rowOf now k) = some (chgAt next now k) ∧ isFin single (chgAt next now k) = true := by
  obtain ⟨f1, k1⟩ := rowOf_least h2 (show k < next.length by omega)
  obtain ⟨f2, k2⟩ := rowOf_least h4 (show k < now.length by omega)
  exact ⟨(fsub_run (fin_not_nan f1) f2).1, sub_fin f1 f2 k1 k2⟩
theorem chgTo_ok {next now : List Nat} {n : Nat} (h1 : next.length = n) (h2 : next.all leastB = true) (h3 : now.length = n) (h4 : now.all leastB = true) : ∀ k, k ≤ n → negOf single (chgTo next now k) = false ∧ isFin single (chgTo next now k) = true := by
  intro k
  induction k with
  | zero =>
    intro _
    show negOf single 0 = false ∧ isFin single 0 = true
    decide +kernel
  | succ k ih =>
    intro hk
    obtain ⟨a, b⟩ := ih (by omega)
    have h := (chgAt_runs h1 h2 h3 h4 (show k < n by omega)).2
    unfold chgTo
    split
    · exact ⟨(size_fin h).2, (size_fin h).1⟩
    · exact ⟨a, b⟩
theorem chgTo_max {next now : List Nat} {n k : Nat} (h1 : next.length = n) (h2 : next.all leastB = true) (h3 : now.length = n) (h4 : now.all leastB = true) (hk : k < n) :
    maxF (chgTo next now k) (fabs (chgAt next now k)) = chgTo next now (k + 1) := by
  have a := chgTo_ok h1 h2 h3 h4 k (by omega)
  have b := (chgAt_runs h1 h2 h3 h4 hk).2
  rw [max_size a.1 b (fsub_lt _ _)]
  rfl
/-- whether a change is near -/
def closeB (d near : Nat) : Bool := FloatKind.f32.format.order d near == some .lt || FloatKind.f32.format.order d near == some .eq
/-- the row behind so many steps, and the change at the last one -/
def restR (xs : List Nat) (n t : Nat) : List Nat := restRow xs (firstRow n) n t
def restD (xs : List Nat) (n t : Nat) : Nat := chgTo (restR xs n (t + 1)) (restR xs n t) n
def restT (xs : List Nat) (n near M : Nat) : Option Nat := (List.range M).find? fun t => closeB (restD xs n t) near
theorem restT_some {xs : List Nat} {n near M t : Nat} (ht : t < M) (h0 : ∀ q, q < t → closeB (restD xs n q) near = false) (h1 : closeB (restD xs n t) near = true) : restT xs n near M = some t := by
  unfold restT
  rw [List.find?_range_eq_some]
  exact ⟨h1, List.mem_range.2 ht, fun j hj => by simpa using h0 j hj⟩
theorem restT_none {xs : List Nat} {n near M : Nat} (h0 : ∀ q, q < M → closeB (restD xs n q) near = false) : restT xs n near M = none := by
  unfold restT
  rw [List.find?_eq_none]
  intro q hq
  simpa using h0 q (List.mem_range.1 hq)
def restL (xs : List Nat) (n : Nat) : Option Nat → List Nat | some t => restR xs n (t + 1) | none => []
def restN : Option Nat → Int | some t => ((t + 1 : Nat) : Int) | none => 0
def restB (side : Int) (xs : List Nat) (near : Nat) (most : Int) : Bool := validB side xs && (leastB near && inB most 1 512)
theorem restR_ok {xs : List Nat} {n : Nat} (hv : validB n xs = true) : ∀ t, t ≤ 512 → (restR xs n t).length = n ∧ (restR xs n t).all leastB = true := by
  obtain ⟨n', hn', h1, h2, hl, hp, ho⟩ := validB_facts hv
  obtain rfl : n = n' := by omega
  obtain ⟨f1, f2, f3⟩ := firstRow_ok h1 h2
  intro t ht
  obtain ⟨a, b, -⟩ := rest_grow h2 hl hp ho f1 f2 f3 t ht
  exact ⟨a, b⟩
theorem restR_fin {xs : List Nat} {n : Nat} (hv : validB n xs = true) {t : Nat} (ht : t < 512) : (stepRow xs (restR xs n t) n).all (isFin single) = true := by
  obtain ⟨n', hn', h1, h2, hl, hp, ho⟩ := validB_facts hv
  obtain rfl : n = n' := by omega
  obtain ⟨f1, f2, f3⟩ := firstRow_ok h1 h2
  obtain ⟨a, b, c⟩ := rest_grow h2 hl hp ho f1 f2 f3 t (by omega)
  exact (step_grow h2 hl hp ho a b (rest_bound (by omega) c)).1
end Go.Proofs.Ytlhepgdheopgaaa

