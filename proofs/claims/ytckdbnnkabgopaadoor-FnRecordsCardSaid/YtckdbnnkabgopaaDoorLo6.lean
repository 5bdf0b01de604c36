/-
  spec.l07Load, spec.LoadRecord: what they return.
-/
import Derived.Test.YtckdbnnkabgopaaDoorLo5
namespace Go.Proofs.YtckdbnnkabgopaaDoor
open Go Go.RowKit

theorem kL_rec {l : List UInt8} : (0 ≤ kL l ∧ kL l < 256) := kL_range l
theorem okL_yes {l : List UInt8} (h0 : longL l ≠ 0) (hl : longL l = l.length) (hr : recB (nmL l) (kL l) (aL l) (bL l) (dsL l (manyL l)) = true) (ht : storeL (nmL l) (kL l) (aL l) (bL l) (dsL l (manyL l)) = l) : ldB l = true := by
  unfold ldB okL
  rw [hr, decide_eq_true h0, decide_eq_true hl, hl, List.take_length, ht]
  simp
theorem okL_no {l : List UInt8} (hl : longL l = l.length) (h : recB (nmL l) (kL l) (aL l) (bL l) (dsL l (manyL l)) = false ∨ storeL (nmL l) (kL l) (aL l) (bL l) (dsL l (manyL l)) ≠ l) : ldB l = false := by
  unfold ldB okL
  rcases h with h | h
  · rw [h, Bool.false_and, Bool.and_false]
  · rw [hl, List.take_length, decide_eq_false h, Bool.and_false, Bool.and_false]
theorem storeT (s : ByteArray) (l : List UInt8) : (⟨l.toArray⟩ : ByteArray) = s ↔ l = s.data.toList := by
  constructor
  · rintro rfl; rfl
  · intro h; exact (str_of h.symm).symm
end Go.Proofs.YtckdbnnkabgopaaDoor

