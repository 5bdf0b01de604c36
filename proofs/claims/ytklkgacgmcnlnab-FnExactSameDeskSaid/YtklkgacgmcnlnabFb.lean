/-
  Contracts of the loops over a list of single precision numbers.
-/
import Derived.Test.YtklkgacgmcnlnabFa
namespace Go.Proofs.Ytklkgacgmcnlnab
open Go Go.RowKit Ieee

/-- a row: finite numbers of at least 0, from 1 to 12 of them -/
def rowB (xs : List Nat) : Bool := xs.all leastB && (decide (1 ≤ xs.length) && decide (xs.length ≤ 12))

/-- where the first number is of which a test says yes -/
def idxOf (p : Nat → Bool) (xs : List Nat) : Int := match xs.findIdx? p with | some i => i | none => -1
theorem idxOf_hit {p : Nat → Bool} {xs : List Nat} {k : Nat} (hk : k < xs.length) (h0 : (xs.take k).any p = false) (h1 : p xs[k] = true) : idxOf p xs = k := by
  have : xs.findIdx? p = some k := by
    rw [List.findIdx?_eq_some_iff_getElem]
    refine ⟨hk, h1, fun j hj => ?_⟩
    have := List.any_eq_false.1 h0 xs[j] (List.mem_take_iff_getElem.2 ⟨j, by omega, rfl⟩)
    simpa using this
  unfold idxOf
  rw [this]
theorem idxOf_none {p : Nat → Bool} {xs : List Nat} (h : xs.any p = false) : idxOf p xs = -1 := by
  have : xs.findIdx? p = none := by
    rw [List.findIdx?_eq_none_iff]
    intro x hx
    simpa using List.any_eq_false.1 h x hx
  unfold idxOf
  rw [this]
theorem idxOf_any (p : Nat → Bool) (xs : List Nat) : (decide (0 ≤ idxOf p xs)) = xs.any p := by
  cases ha : xs.any p with
  | false => rw [idxOf_none ha]; rfl
  | true =>
    unfold idxOf
    cases hf : xs.findIdx? p with
    | none =>
      rw [List.findIdx?_eq_none_iff] at hf
      obtain ⟨x, hx, hp⟩ := List.any_eq_true.1 ha
      rw [hf x hx] at hp
      cases hp
    | some i => simp

/-- the closure of impl.IsRow: what a row's number may not be -/
def badRow (x : Nat) : Bool := !isFin single x || single.order x 0 == some .lt
theorem order_fin {x y : Nat} (hx : isNan single x = false) (hy : isNan single y = false) : single.order x y = some .lt ∨ single.order x y = some .eq ∨ single.order x y = some .gt := by
  unfold isNan Datum.isNaN at hx hy
  unfold Format.order Datum.order
  cases h1 : single.read x with
  | number s m i =>
    cases h2 : single.read y with
    | number t n j =>
      simp only
      cases compare (signed s m (i - min i j).toNat) (signed t n (j - min i j).toNat) <;> simp
    | infinity t => cases t <;> simp
    | nan t u => rw [h2] at hy; simp at hy
  | infinity s =>
    cases h2 : single.read y with
    | number t n j => cases s <;> simp
    | infinity t => simp only; cases compare t.toNat s.toNat <;> simp
    | nan t u => rw [h2] at hy; simp at hy
  | nan s u => rw [h1] at hx; simp at hx
theorem badRow_least (x : Nat) : badRow x = !leastB x := by
  unfold badRow leastB
  cases hf : isFin single x with
  | false => rfl
  | true =>
    rcases order_fin (fin_not_nan hf) (show isNan single 0 = false by decide +kernel) with h | h | h <;> simp [h]
theorem any_badRow (xs : List Nat) : xs.any badRow = !xs.all leastB := by
  rw [List.any_eq_not_all_not]
  congr 2
  funext x
  rw [badRow_least, Bool.not_not]

end Go.Proofs.Ytklkgacgmcnlnab

