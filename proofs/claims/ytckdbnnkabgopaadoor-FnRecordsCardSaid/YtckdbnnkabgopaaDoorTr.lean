/-
  Contracts of the laws' helpers on records: size, copy, compare.
-/
import Derived.Test.YtckdbnnkabgopaaDoorTi
import Derived.Test.YtckdbnnkabgopaaDoorRc3
namespace Go.Proofs.YtckdbnnkabgopaaDoor
open Go Go.RowKit

/-- what is left of a size behind n more -/
def lessL (left n : Int) : Int := if left - n < 0 then -1 else left - n
def recLess (left : Int) (s : ByteArray) (n : Nat) : Int := if lessL left s.size < 0 then -1 else lessL (lessL left s.size) n
/-- a box of five cells that can be written -/
def B5 (W : World) (p : Nat) (v0 v1 v2 v3 v4 : Value) : Prop :=
  (W.cell? ⟨p, 0, none⟩ = some v0 ∧ W.cell? ⟨p, 1, none⟩ = some v1 ∧ W.cell? ⟨p, 2, none⟩ = some v2 ∧ W.cell? ⟨p, 3, none⟩ = some v3 ∧ W.cell? ⟨p, 4, none⟩ = some v4) ∧ ∀ o, W.frozen? ⟨p, o, none⟩ = false
theorem B5.lt {W : World} {p : Nat} {v0 v1 v2 v3 v4 : Value} (h : B5 W p v0 v1 v2 v3 v4) : p < W.heap.size := lt_of_cell (a := ⟨p, 0, none⟩) h.1.1
theorem B5.keep {W W' : World} {p : Nat} {v0 v1 v2 v3 v4 : Value} (h : B5 W p v0 v1 v2 v3 v4) (hb : Below W.heap.size W W') : B5 W' p v0 v1 v2 v3 v4 :=
  ⟨⟨keepC hb h.1.1, keepC hb h.1.2.1, keepC hb h.1.2.2.1, keepC hb h.1.2.2.2.1, keepC hb h.1.2.2.2.2⟩, fun o => (hb.frozen (p := ⟨p, o, none⟩) h.lt).trans (h.2 o)⟩
end Go.Proofs.YtckdbnnkabgopaaDoor

