/-
  spec.l07Load: the walk where there is a record.
-/
import Derived.Test.YtckdbnnkabgopaaDoorLo4
import Derived.Deep.DeepCutAuto
namespace Go.Proofs.YtckdbnnkabgopaaDoor
open Go Go.RowKit

theorem run_slice_at (t : TypeId) (ht : Tryd.prog.underlying t = some .string) (s v : ByteArray) (i j : Int) (h0 : 0 ≤ i) (h1 : i ≤ j) (h2 : j ≤ s.size) (hv : s.extract i.toNat j.toNat = v) (w : World) :
    (Instr.slice t (.string s) (some (.int .i64 i)) (some (.int .i64 j)) none).run Tryd.prog w = .ok (.string v) w := by
  rw [run_slice_string w t s .i64 .i64 i j ht h0 h1 h2, hv]
theorem dsL_succ (l : List UInt8) (i : Nat) : dsL l (i + 1) = dsL l i ++ [((byN l (atL l + 19 + 2 * i) : Nat) : Int) + 256 * ((byN l (atL l + 19 + 2 * i + 1) : Nat) : Int)] := by
  rw [dsL]
  congr 2
end Go.Proofs.YtckdbnnkabgopaaDoor

