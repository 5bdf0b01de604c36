/-
  slices.Clone of single numbers; impl.RunRow and spec.RunRow.
-/
import Derived.Test.YtnnnpdendnjkhaaSrs
namespace Go.Proofs.Ytnnnpdendnjkhaa
open Go Go.RowKit Ieee
attribute [local go_sem] run_store_float

theorem fitB_mk {n : Nat} {xs r : List Nat} (hv : validB n xs = true) (hn1 : 1 ≤ n) (hn2 : n ≤ 12) (hl : r.length = n) (hr : r.all leastB = true) : fitB n xs r = true := by
  unfold fitB rowB
  rw [hv, hr, decide_eq_true (by omega), decide_eq_true (by omega), decide_eq_true (by omega)]
  rfl
/-- memory while a row runs: s steps are made, N - s are to come -/
def RR (W1 : World) (xs : List Nat) (n N : Nat) (row : List Nat) (s : Nat) (v : Value) (wr : World) : Prop :=
  Below W1.heap.size W1 wr ∧ ∃ r A c, v = .slice A n c ∧ wr.ownsRow W1.heap.size 42 1 (.slice A n c) n (fl r) ∧ r.length = n ∧ r.all leastB = true ∧ runRow xs n (N - s) r = runRow xs n N row
theorem runRow_yes {xs r : List Nat} {n s : Nat} (h : (stepRow xs r n).all (isFin single) = true) : runRow xs n (s + 1) r = runRow xs n s (stepRow xs r n) := if_pos h
theorem runRow_no {xs r : List Nat} {n s : Nat} (h : (stepRow xs r n).all (isFin single) = false) : runRow xs n (s + 1) r = none := if_neg (by rw [h]; simp)
/-- what a run gives -/
def runGive (xs row : List Nat) (n N : Nat) : List Nat := (runRow xs n N row).getD []
def runOk (xs row : List Nat) (n N : Nat) : Bool := (runRow xs n N row).isSome
def runB (side : Int) (xs row : List Nat) (steps : Int) : Bool := fitB side xs row && inB steps 0 512

end Go.Proofs.Ytnnnpdendnjkhaa

