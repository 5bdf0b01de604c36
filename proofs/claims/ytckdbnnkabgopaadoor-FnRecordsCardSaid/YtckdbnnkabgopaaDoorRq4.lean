/-
  Rows of records: the laws' helpers (size, copy, compare); an argument opened.
-/
import Derived.Test.YtckdbnnkabgopaaDoorRq3
import Derived.Test.YtckdbnnkabgopaaDoorTr
import Derived.Laws.MakeOwn
import Derived.Deep.RegionHeld3
namespace Go.Proofs.YtckdbnnkabgopaaDoor
open Go Go.RowKit Go.ChangeShapes Go.WideShapes Go.ChangeAt Go.Joins

theorem recLess_yes {left : Int} {s : ByteArray} {n : Nat} (h0 : 0 ≤ left) (h : ¬ recLess left s n < 0) : 0 ≤ recLess left s n ∧ recLess left s n ≤ left ∧ (s.size : Int) ≤ left ∧ (n : Int) ≤ left := by
  unfold recLess lessL at *
  by_cases h1 : left - (s.size : Int) < 0
  · rw [if_pos h1, if_pos (by decide)] at h
    omega
  · rw [if_neg h1, if_neg h1] at h ⊢
    split at h
    · omega
    · rename_i h2
      rw [if_neg h2]
      omega
def SzOut (xs : List Rc) (w : World) (e : Ending) (w' : World) : Prop := ∃ r : Int, e = .returned (.int .i64 r) ∧ (r < 0 ∨ (xs.length ≤ 1048576 ∧ ∀ i (h : i < xs.length), xs[i].nm.size ≤ 1048576 ∧ xs[i].ds.length ≤ 1048576)) ∧ Below w.heap.size w w'
def upto (xs : List Rc) (i : Nat) : Prop := ∀ j (_ : j < i) (h : j < xs.length), xs[j].nm.size ≤ 1048576 ∧ xs[j].ds.length ≤ 1048576
end Go.Proofs.YtckdbnnkabgopaaDoor

