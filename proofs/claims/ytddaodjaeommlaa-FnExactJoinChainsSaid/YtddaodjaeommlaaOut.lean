/-
  Worlds that have grown: small steps for regions in which calls, new boxes and draws come in any order.
-/
import Derived.Test.YtddaodjaeommlaaMem
namespace Go.Proofs.Ytddaodjaeommlaa
open Go Go.RowKit

theorem below_al {w W : World} (h : Below w.heap.size w W) (o : Obj) : Below w.heap.size w (W.alloc o) := h.alloc h.size o
theorem below_dr {w W : World} (h : Below w.heap.size w W) : Below w.heap.size w W.drew := below_drewN h 1
theorem below_dn {w W : World} (h : Below w.heap.size w W) (n : Nat) : Below w.heap.size w (W.drewN n) := below_drewN h n
theorem below_next {w W W' : World} (h : Below w.heap.size w W) (hb : Below W.heap.size W W') : Below w.heap.size w W' := h.trans (hb.mono h.size)
theorem below_set {w W : World} (h : Below w.heap.size w W) (a : Addr) (v : Value) (ha : w.heap.size ≤ a.block) : Below w.heap.size w (W.setCell a v) := h.setCell ha v
end Go.Proofs.Ytddaodjaeommlaa
