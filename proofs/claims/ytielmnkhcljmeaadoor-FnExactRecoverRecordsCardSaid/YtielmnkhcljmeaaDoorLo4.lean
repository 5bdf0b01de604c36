/-
  spec.l07Load: the walk.
-/
import Derived.Test.YtielmnkhcljmeaaDoorLo3
import Derived.Test.YtielmnkhcljmeaaDoorTr
namespace Go.Proofs.YtielmnkhcljmeaaDoor
open Go Go.RowKit

theorem own_nil (w : World) (base : Nat) : w.ownsRow base 2 1 (.slice none 0 0) 0 (il []) := ⟨rfl, .inl ⟨rfl, rfl⟩⟩
theorem LdOut.none {s : ByteArray} {w w' : World} (h : ldB s.data.toList = false) (hb : Below w.heap.size w w') : LdOut s w (.returned (.tuple #[.agg #[.string ⟨#[]⟩, .int .i64 0, .int .u64 0, .int .u64 0, .slice none 0 0], .bool false])) w' := by
  have hz : ldR s.data.toList = Rc.zero := by unfold ldR; rw [h]; rfl
  unfold LdOut
  rw [hz, h]
  exact ⟨_, 0, rfl, own_nil _ _, hb⟩
theorem ldB_zero {l : List UInt8} (h : longL l = 0) : ldB l = false := by unfold ldB; rw [h]; rfl
theorem ldB_ne {l : List UInt8} (h : longL l ≠ l.length) : ldB l = false := by
  unfold ldB
  rw [show decide (longL l = l.length) = false from decide_eq_false h, Bool.and_false, Bool.false_and]
set_option maxRecDepth 100000 in
set_option maxHeartbeats 3200000 in
theorem l07Load_bad (s : ByteArray) (w : World) (hs : s.size ≤ 1048576) (hbad : longL s.data.toList = 0 ∨ longL s.data.toList ≠ s.size) : Calls Tryd.prog 41 #[.string s] w (LdOut s w) := by
  have HLG := Lib.hid fun w => l07Long_any s w hs
  have hf : ldB s.data.toList = false := by
    rcases hbad with h | h
    · exact ldB_zero h
    · exact ldB_ne (by rw [← Lib.size_eq]; exact h)
  have HN : Hid (∀ W', Below w.heap.size w W' → LdOut s w (.returned (.tuple #[.agg #[.string ⟨#[]⟩, .int .i64 0, .int .u64 0, .int .u64 0, .slice none 0 0], .bool false])) W') := Lib.hid fun W' hb => LdOut.none hf hb
  clear hf
  generalize longL s.data.toList = n at *
  generalize LdOut s w = Q at *
  by_cases h0 : n = 0
  · have hz : ((n : Int) == 0) = true := by rw [h0]; rfl
    clear hbad h0
    go_enter Tryd.func41, Tryd.ntmps41
    go_wp2_with fail
    generalize hW1 : World.alloc w _ = w1
    have b1 : Below w.heap.size w w1 := by rw [← hW1]; exact below_al (Below.refl _ _) _
    have k1 : B5 w1 w.heap.size (.string ⟨#[]⟩) (.int .i64 0) (.int .u64 0) (.int .u64 0) (.slice none 0 0) := by rw [← hW1]; simp [B5, go_sem]
    clear hW1
    refine (HLG.out _).mono ?_
    rintro e w2 ⟨rfl, hb2⟩
    have K2 := k1.keep hb2
    have B2 := Lib.hid (below_next b1 hb2)
    clear b1 hb2 k1
    obtain ⟨⟨c0, c1, c2, c3, c4⟩, cf⟩ := K2
    go_wp2_with fail
    refine bodyPost_ret (v := .tuple #[.agg #[.string ⟨#[]⟩, .int .i64 0, .int .u64 0, .int .u64 0, .slice none 0 0], .bool false]) (by simp [results, Tryd.results41, go_sem, c0, c1, c2, c3, c4]) rfl (HN.out _ ?_)
    repeat (first | (with_reducible exact B2.out) | (with_reducible refine below_set ?_ _ _ (by simp; try omega)))
  · have hz : ((n : Int) == 0) = false := beq_eq_false_iff_ne.2 (by omega)
    have hne : ((n : Int) != (s.size : Int)) = true := by simp; omega
    clear hbad h0
    go_enter Tryd.func41, Tryd.ntmps41
    go_wp2_with fail
    generalize hW1 : World.alloc w _ = w1
    have b1 : Below w.heap.size w w1 := by rw [← hW1]; exact below_al (Below.refl _ _) _
    have k1 : B5 w1 w.heap.size (.string ⟨#[]⟩) (.int .i64 0) (.int .u64 0) (.int .u64 0) (.slice none 0 0) := by rw [← hW1]; simp [B5, go_sem]
    clear hW1
    refine (HLG.out _).mono ?_
    rintro e w2 ⟨rfl, hb2⟩
    have K2 := k1.keep hb2
    have B2 := Lib.hid (below_next b1 hb2)
    clear b1 hb2 k1
    obtain ⟨⟨c0, c1, c2, c3, c4⟩, cf⟩ := K2
    go_wp2_with fail
    refine bodyPost_ret (v := .tuple #[.agg #[.string ⟨#[]⟩, .int .i64 0, .int .u64 0, .int .u64 0, .slice none 0 0], .bool false]) (by simp [results, Tryd.results41, go_sem, c0, c1, c2, c3, c4]) rfl (HN.out _ ?_)
    repeat (first | (with_reducible exact B2.out) | (with_reducible refine below_set ?_ _ _ (by simp; try omega)))
end Go.Proofs.YtielmnkhcljmeaaDoor
