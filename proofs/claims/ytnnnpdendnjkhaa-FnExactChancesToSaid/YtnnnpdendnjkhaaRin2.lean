/-
  Rings: spec.RingChain.
-/
import Derived.Test.YtnnnpdendnjkhaaRing
import Derived.Deep.RegionHeld3
namespace Go.Proofs.Ytnnnpdendnjkhaa
open Go Go.RowKit Ieee
attribute [local go_sem] run_store_float

def ringTo (n s r l i p : Nat) : Nat := if p / n < i then ringF n s r l (p / n) (p % n) else 0
theorem mod_sub {n i b : Nat} (hi : i < n) (hb : b < n) : (b + n - i) % n = if i ≤ b then b - i else b + n - i := by
  split
  · rw [show b + n - i = (b - i) + n by omega, Nat.add_mod_right, Nat.mod_eq_of_lt (by omega)]
  · rw [Nat.mod_eq_of_lt (by omega)]
theorem mod_up {n i : Nat} (hi : i < n) : (i + 1) % n = if i + 1 < n then i + 1 else 0 := by
  split
  · rw [Nat.mod_eq_of_lt (by omega)]
  · rw [show i + 1 = n by omega, Nat.mod_self]
theorem mod_down {n i : Nat} (hi : i < n) : (i + n - 1) % n = if 1 ≤ i then i - 1 else n - 1 := by
  split
  · rw [show i + n - 1 = (i - 1) + n by omega, Nat.add_mod_right, Nat.mod_eq_of_lt (by omega)]
  · rw [Nat.mod_eq_of_lt (by omega)]; omega
theorem at_row {n p i k : Nat} (hk : k < n) : p = i * n + k ↔ p / n = i ∧ p % n = k := by
  constructor
  · rintro rfl
    constructor
    · rw [Nat.mul_comm, Nat.mul_add_div (by omega), Nat.div_eq_of_lt hk, Nat.add_zero]
    · rw [Nat.mul_comm, Nat.mul_add_mod, Nat.mod_eq_of_lt hk]
  · rintro ⟨rfl, rfl⟩
    rw [Nat.mul_comm]
    exact (Nat.div_add_mod p n).symm
theorem ringTo_step {n s r l i : Nat} (hn : 3 ≤ n) (hi : i < n) (p : Nat) :
    (if p = i * n + (i + n - 1) % n then l else if p = i * n + (i + 1) % n then r else if p = i * n + i then s else ringTo n s r l i p) = ringTo n s r l (i + 1) p := by
  have h1 : (i + n - 1) % n < n := Nat.mod_lt _ (by omega)
  have h2 : (i + 1) % n < n := Nat.mod_lt _ (by omega)
  have hb : p % n < n := Nat.mod_lt _ (by omega)
  simp only [at_row h1, at_row h2, at_row hi]
  simp only [mod_up hi, mod_down hi]
  unfold ringTo ringF
  by_cases ha : p / n = i
  · rw [ha, mod_sub hi hb]
    generalize p % n = b at *
    clear h1 h2
    simp only [true_and, Nat.lt_irrefl, if_false, show i < i + 1 by omega, if_true]
    repeat' split
    all_goals first | rfl | omega
  · have h3 : (p / n < i + 1) = (p / n < i) := by
      apply propext
      omega
    simp only [ha, false_and, if_false, h3]
theorem ringTo_all {n s r l : Nat} (_hn : 3 ≤ n) : (List.range (n * n)).map (ringTo n s r l n) = tab n (ringF n s r l) := by
  unfold tab tabTo
  refine List.map_congr_left fun p hp => ?_
  have h1 : p / n < n := Nat.div_lt_of_lt_mul (List.mem_range.1 hp)
  unfold ringTo
  rw [if_pos h1]

def RS (W0 : World) (G n s r l i : Nat) (wr : World) : Prop :=
  Below (G + 1) W0 wr ∧ wr.cell? ⟨G + 2, 0, none⟩ = some (.int .i64 n) ∧ wr.cell? ⟨G + 2, 1, none⟩ = some (.slice (some ⟨G + 1, 0, none⟩) (n * n) (n * n)) ∧ wr.rowIs (G + 1) 42 (n * n) (fun p => .float .f32 (ringTo n s r l i p))
/-- a store into the row -/
theorem RS_set {W0 wr : World} {G m : Nat} {f : Nat → Value} {x y : Value} (h1 : Below (G + 1) W0 wr) (h2 : wr.cell? ⟨G + 2, 0, none⟩ = some x) (h3 : wr.cell? ⟨G + 2, 1, none⟩ = some y) (h4 : wr.rowIs (G + 1) 42 m f) (i : Nat) (v : Value) :
    Below (G + 1) W0 (wr.setCell ⟨G + 1, i, none⟩ v) ∧ (wr.setCell ⟨G + 1, i, none⟩ v).cell? ⟨G + 2, 0, none⟩ = some x ∧ (wr.setCell ⟨G + 1, i, none⟩ v).cell? ⟨G + 2, 1, none⟩ = some y ∧ (wr.setCell ⟨G + 1, i, none⟩ v).rowIs (G + 1) 42 m (fun j => if j = i then v else f j) :=
  ⟨h1.setCell (Nat.le_refl _) _, (World.cell?_setCell_other _ _ _ _ (by simp)).trans h2, (World.cell?_setCell_other _ _ _ _ (by simp)).trans h3, h4.set i v⟩
theorem own_of_row {w : World} {g base m : Nat} {f : Nat → Value} (h : w.rowIs g 42 m f) (hb : base ≤ g) (hm : m ≤ maxLen) : w.ownsRow base 42 1 (.slice (some ⟨g, 0, none⟩) m m) m ((List.range m).map f) := by
  obtain ⟨c, h1, h2, h3⟩ := h
  refine ⟨by simp, .inr ⟨g, m, c, rfl, hb, h1, Nat.le_refl _, hm, by omega, ?_⟩⟩
  refine List.ext_getElem (by simp; omega) fun i hi1 hi2 => ?_
  have hi : i < m := by simp at hi2; exact hi2
  have := h3 i hi
  rw [Array.getElem?_eq_getElem (by omega)] at this
  rw [List.getElem_take, List.getElem_map, List.getElem_range]
  exact Option.some.inj this

end Go.Proofs.Ytnnnpdendnjkhaa

