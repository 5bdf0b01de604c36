/-
  spec.l07Load: the walk.
-/
import Derived.Test.YtckdbnnkabgopaaDoorLo3
import Derived.Test.YtckdbnnkabgopaaDoorTr
namespace Go.Proofs.YtckdbnnkabgopaaDoor
open Go Go.RowKit

theorem own_nil (w : World) (base : Nat) : w.ownsRow base 2 1 (.slice none 0 0) 0 (il []) := ⟨rfl, .inl ⟨rfl, rfl⟩⟩
theorem LdOut.none {s : ByteArray} {w w' : World} (h : ldB s.data.toList = false) (hb : Below w.heap.size w w') : LdOut s w (.returned (.tuple #[.agg #[.string ⟨#[]⟩, .int .i64 0, .int .u64 0, .int .u64 0, .slice none 0 0], .bool false])) w' := by
  have hz : ldR s.data.toList = Rc.zero := by unfold ldR; rw [h]; rfl
  unfold LdOut
  rw [hz, h]
  exact ⟨_, 0, rfl, own_nil _ _, hb⟩
theorem ldB_zero {l : List UInt8} (h : longL l = 0) : ldB l = false := by unfold ldB; rw [h]; rfl
theorem ldB_ne {l : List UInt8} (h : longL l ≠ l.length) : ldB l = false := by
  unfold ldB
  rw [show decide (longL l = l.length) = false from decide_eq_false h, Bool.and_false, Bool.false_and]
end Go.Proofs.YtckdbnnkabgopaaDoor

