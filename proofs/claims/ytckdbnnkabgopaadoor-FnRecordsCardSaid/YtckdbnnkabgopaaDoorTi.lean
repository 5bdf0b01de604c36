/-
  Contracts of the laws' helpers on slices of 64 bit integers: copy, compare, write marks, read marks.
-/
import Derived.Test.YtckdbnnkabgopaaDoorProg
import Derived.Test.YtckdbnnkabgopaaDoorMem
import Derived.Test.YtckdbnnkabgopaaDoorOut
import Derived.WalkLawsBesides
import Derived.Deep.QuietTactic
import Derived.BigQuiet
namespace Go.Proofs.YtckdbnnkabgopaaDoor
open Go Go.RowKit

theorem info_i64 : (Tryd.prog.info? 2).map (fun i => (i.zero, i.size, i.bytes)) = some (some (.int .i64 0), 1, 8) := by kernel_rfl
/-- a function that only computes, but may draw -/
def Quiet (v : Value) (w : World) (e : Ending) (w' : World) : Prop := e = .returned v ∧ ∃ n, w' = w.drewN n
theorem Quiet.mk0 {v : Value} {w : World} : Quiet v w (.returned v) w := ⟨rfl, 0, rfl⟩
theorem Quiet.mk {v : Value} {w : World} (n : Nat) : Quiet v w (.returned v) (w.drewN n) := ⟨rfl, n, rfl⟩
theorem Quiet.below {v : Value} {w : World} {e : Ending} {w' : World} (h : Quiet v w e w') : e = .returned v ∧ Below w.heap.size w w' := by
  obtain ⟨he, n, rfl⟩ := h
  exact ⟨he, below_drewN (Below.refl _ _) n⟩
theorem own_none {w : World} {base n c : Nat} {e : TypeId} {vs : List Value} (h : w.ownsRow base e 1 (.slice none n c) n vs) : n = 0 := by
  rcases h.2 with ⟨_, h0⟩ | ⟨g, cap, cur, hv, _⟩
  · exact h0
  · injection hv with h1
    cases h1
theorem own_some {w : World} {base n c : Nat} {a : Addr} {e : TypeId} {vs : List Value} (h : w.ownsRow base e 1 (.slice (some a) n c) n vs) : ∃ g, a = ⟨g, 0, none⟩ ∧ base ≤ g := by
  rcases h.2 with ⟨h1, _⟩ | ⟨g, cap, cur, hv, hb, _⟩
  · cases h1
  · injection hv with h1
    injection h1 with h1
    exact ⟨g, h1, hb⟩

theorem grown_refl (w : World) (row : Option Nat) : w.grownBy w row := ⟨rfl, rfl, rfl, Nat.le_refl _, fun _ _ _ => rfl⟩
theorem grown_set {w w' : World} {g : Nat} (h : w.grownBy w' (some g)) (i : Nat) (v : Value) : w.grownBy (w'.setCell ⟨g, i, none⟩ v) (some g) :=
  ⟨h.os, h.tape, h.output, by simp only [World.setCell, Array.size_modify]; exact h.size, fun k hk hne => (Below.heap_setCell _ _ _ _ (fun e => hne (by rw [e]))).trans (h.block k hk hne)⟩


theorem il_take_succ {xs : List Int} {k : Nat} (h : k < xs.length) (rest : List Value) (hr : 0 < rest.length) :
    (il (xs.take k) ++ rest).set k (.int .i64 xs[k]) = il (xs.take (k + 1)) ++ rest.tail := by
  have hl : (il (xs.take k)).length = k := by rw [il_len, List.length_take]; omega
  rw [List.set_append_right _ _ (by omega), hl, Nat.sub_self]
  cases rest with
  | nil => simp at hr
  | cons r rs =>
    simp only [List.set_cons_zero, List.tail_cons]
    rw [List.take_succ_eq_append_getElem h]
    unfold il
    rw [List.map_append, List.append_assoc]
    rfl

/-- the marks that a slice of integers gets -/
def marksI (k : Int) : Nat → List Int
  | 0 => []
  | n + 1 => marksI k n ++ [k + n]
theorem marksI_len (k : Int) (n : Nat) : (marksI k n).length = n := by
  induction n with
  | zero => rfl
  | succ n ih => simp [marksI, ih]
theorem marksI_get (k : Int) (n j : Nat) (h : j < n) (hj : j < (marksI k n).length) : (marksI k n)[j] = k + j := by
  induction n with
  | zero => omega
  | succ n ih =>
    simp only [marksI]
    rcases Nat.lt_or_ge j n with h1 | h1
    · rw [List.getElem_append_left (by rw [marksI_len]; exact h1)]
      exact ih h1 _
    · have : j = n := by omega
      subst this
      rw [List.getElem_append_right (by rw [marksI_len]; omega)]
      simp [marksI_len]
theorem marksI_set (k : Int) (j : Nat) (ys : List Value) (h : j < ys.length) : (il (marksI k j) ++ ys.drop j).set j (.int .i64 (k + j)) = il (marksI k (j + 1)) ++ ys.drop (j + 1) := by
  have hl : (il (marksI k j)).length = j := by rw [il_len, marksI_len]
  rw [List.set_append_right _ _ (by omega), hl, Nat.sub_self, List.drop_eq_getElem_cons h]
  simp only [List.set_cons_zero, marksI]
  unfold il
  rw [List.map_append, List.append_assoc]
  rfl

end Go.Proofs.YtckdbnnkabgopaaDoor

