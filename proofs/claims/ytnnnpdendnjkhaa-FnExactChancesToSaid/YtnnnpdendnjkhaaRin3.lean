/-
  Rings: spec.RingChain, the way that gives a chain.
-/
import Derived.Test.YtnnnpdendnjkhaaRin2
import Derived.RegionTactic
import Derived.ChangeAlike
namespace Go.Proofs.Ytnnnpdendnjkhaa
open Go Go.RowKit Ieee
attribute [local go_sem] run_store_float

theorem row_made (w : World) (G : Nat) (hG : w.heap.size = G) (z : Value) (n : Nat) (t : TypeId) (o : Obj) : ((w.alloc (.cells (madeCells #[z] n) t)).alloc o).rowIs G t n (fun _ => z) := by
  subst hG
  exact (World.rowIs_made w z n t).alloc o
def RS3 (W0 : World) (G N n s r l i : Nat) (wr : World) : Prop :=
  Below (G + 1) W0 wr ∧ wr.cell? ⟨G + 2, 0, none⟩ = some (.int .i64 n) ∧ wr.cell? ⟨G + 2, 1, none⟩ = some (.slice (some ⟨G + 1, 0, none⟩) N N) ∧ wr.rowIs (G + 1) 42 N (fun p => .float .f32 (ringTo n s r l i p))

end Go.Proofs.Ytnnnpdendnjkhaa

