/-
  Records at an offset: spec.l07Record, spec.l07Store; rows of records.
-/
import Derived.Test.YtckdbnnkabgopaaDoorRc7
import Derived.Test.YtckdbnnkabgopaaDoorLo3
namespace Go.Proofs.YtckdbnnkabgopaaDoor
open Go Go.RowKit

def RcO (w : World) (p o : Nat) (nm : ByteArray) (k a b : Int) (A : Option Addr) (n c : Nat) : Prop :=
  w.cell? ⟨p, o, none⟩ = some (.string nm) ∧ w.cell? ⟨p, o + 1, none⟩ = some (.int .i64 k) ∧ w.cell? ⟨p, o + 2, none⟩ = some (.int .u64 a) ∧ w.cell? ⟨p, o + 3, none⟩ = some (.int .u64 b) ∧ w.cell? ⟨p, o + 4, none⟩ = some (.slice A n c)
theorem RcO.keep {w w' : World} {p o : Nat} {nm : ByteArray} {k a b : Int} {A : Option Addr} {n c : Nat} (h : RcO w p o nm k a b A n c) (hb : Below w.heap.size w w') : RcO w' p o nm k a b A n c :=
  ⟨keepC hb h.1, keepC hb h.2.1, keepC hb h.2.2.1, keepC hb h.2.2.2.1, keepC hb h.2.2.2.2⟩
theorem RcO.lt {w : World} {p o : Nat} {nm : ByteArray} {k a b : Int} {A : Option Addr} {n c : Nat} (h : RcO w p o nm k a b A n c) : p < w.heap.size := lt_of_cell (a := ⟨p, o, none⟩) h.1
end Go.Proofs.YtckdbnnkabgopaaDoor

