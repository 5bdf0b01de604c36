/-
  spec.l07Load, spec.LoadRecord: what they return.
-/
import Derived.Test.YtielmnkhcljmeaaDoorLo5
namespace Go.Proofs.YtielmnkhcljmeaaDoor
open Go Go.RowKit

theorem kL_rec {l : List UInt8} : (0 ≤ kL l ∧ kL l < 256) := kL_range l
theorem okL_yes {l : List UInt8} (h0 : longL l ≠ 0) (hl : longL l = l.length) (hr : recB (nmL l) (kL l) (aL l) (bL l) (dsL l (manyL l)) = true) (ht : storeL (nmL l) (kL l) (aL l) (bL l) (dsL l (manyL l)) = l) : ldB l = true := by
  unfold ldB okL
  rw [hr, decide_eq_true h0, decide_eq_true hl, hl, List.take_length, ht]
  simp
theorem okL_no {l : List UInt8} (hl : longL l = l.length) (h : recB (nmL l) (kL l) (aL l) (bL l) (dsL l (manyL l)) = false ∨ storeL (nmL l) (kL l) (aL l) (bL l) (dsL l (manyL l)) ≠ l) : ldB l = false := by
  unfold ldB okL
  rcases h with h | h
  · rw [h, Bool.false_and, Bool.and_false]
  · rw [hl, List.take_length, decide_eq_false h, Bool.and_false, Bool.and_false]
theorem storeT (s : ByteArray) (l : List UInt8) : (⟨l.toArray⟩ : ByteArray) = s ↔ l = s.data.toList := by
  constructor
  · rintro rfl; rfl
  · intro h; exact (str_of h.symm).symm
theorem l07Load_any (s : ByteArray) (w : World) (hs : s.size ≤ 1048576) : Calls Tryd.prog 41 #[.string s] w (LdOut s w) := by
  by_cases hbad : longL s.data.toList = 0 ∨ longL s.data.toList ≠ s.size
  · exact l07Load_bad s w hs hbad
  · have h0 : longL s.data.toList ≠ 0 := fun h => hbad (.inl h)
    have hlong : longL s.data.toList = s.size := Classical.byContradiction fun h => hbad (.inr h)
    have hl : s.data.toList.length = s.size := (Lib.size_eq s).symm
    have hll : longL s.data.toList = s.data.toList.length := by omega
    obtain ⟨h5, h19, hend, hlg⟩ := long_facts h0
    rw [hl] at h5 h19 hend
    rw [hlong] at hlg
    have hEND : endL s.data.toList = atL s.data.toList + 19 + 2 * manyL s.data.toList := rfl
    have hnm : (nmS s.data.toList).size ≤ 255 := nmS_size (by omega)
    have hmany := manyL_lt s.data.toList
    have hdl := dsL_len s.data.toList (manyL s.data.toList)
    have hR1 := fun w => l07Read_any (s.extract (atL s.data.toList + 1) (atL s.data.toList + 9)) w (by rw [ByteArray.size_extract]; omega)
    have hR2 := fun w => l07Read_any (s.extract (atL s.data.toList + 9) (atL s.data.toList + 17)) w (by rw [ByteArray.size_extract]; omega)
    rw [ext_bytes, show atL s.data.toList + 9 - (atL s.data.toList + 1) = 8 by omega] at hR1
    rw [ext_bytes, show atL s.data.toList + 17 - (atL s.data.toList + 9) = 8 by omega] at hR2
    refine l07Load_walk s w hs (atL s.data.toList) (manyL s.data.toList) (by omega) ⟨by unfold atL; omega, atL_lt _⟩ (nmS s.data.toList) ⟨(storeL (nmL s.data.toList) (kL s.data.toList) (aL s.data.toList) (bL s.data.toList) (dsL s.data.toList (manyL s.data.toList))).toArray⟩ _ _ (kL s.data.toList) (aL s.data.toList) (bL s.data.toList) (dsL s.data.toList) (byN s.data.toList)
      (recB (nmL s.data.toList) (kL s.data.toList) (aL s.data.toList) (bL s.data.toList) (dsL s.data.toList (manyL s.data.toList))) (LdOut s w) (kL_range _) (by unfold atL; omega) rfl (fun i h => by_idx h) (byN_lt _) (dsL_succ _) rfl
      (fun w => by have := l07Long_any s w hs; rw [hlong] at this; exact this) hR1 hR2 (nm_ext s (by omega)) rfl rfl ?_ ?_ ?_ ?_
    · intro p A c w hp h
      have := l07Record_any p (nmS s.data.toList) (kL s.data.toList) (aL s.data.toList) (bL s.data.toList) A (dsL s.data.toList (manyL s.data.toList)) c w (by omega) (bL_range _) (by omega) (by rw [hdl]; exact hp) h
      exact this
    · intro hr p A c w hp h
      obtain ⟨h1, h2, h3, h4⟩ := recB_facts (nm := nmS s.data.toList) hr
      exact l07Store_any p (nmS s.data.toList) (kL s.data.toList) (aL s.data.toList) (bL s.data.toList) A (dsL s.data.toList (manyL s.data.toList)) c w h1 h2 (aL_range _) (bL_range _) h3 (num_all h4) (by rw [hdl]; exact hp) h
    · intro h W' hb
      exact LdOut.none (okL_no hll (by
        rcases h with h | h
        · exact .inl h
        · exact .inr fun e => h ((storeT s _).2 e))) hb
    · intro hr ht A c W' ho hb
      have hy := okL_yes h0 hll hr ((storeT s _).1 ht)
      unfold LdOut
      have hR : ldR s.data.toList = Rc.of s.data.toList := by unfold ldR; rw [hy]; rfl
      rw [hR, hy]
      refine ⟨A, c, ?_, ?_, hb⟩
      · show _ = Ending.returned (.tuple #[rcV (nmS s.data.toList) (kL s.data.toList) (aL s.data.toList) (bL s.data.toList) A (dsL s.data.toList (manyL s.data.toList)).length c, .bool true])
        rw [hdl]
        rfl
      · show W'.ownsRow _ _ _ (.slice A (dsL s.data.toList (manyL s.data.toList)).length c) (dsL s.data.toList (manyL s.data.toList)).length _
        rw [hdl]
        exact ho
set_option maxHeartbeats 1600000 in
theorem specLoadRecord_any (s : ByteArray) (w : World) (hs : s.size ≤ 1048576) : Calls Tryd.prog 20 #[.string s] w (LdOut s w) := by
  have H := Lib.hid fun w => l07Load_any s w hs
  unfold LdOut Rc.val rcV at *
  generalize ldR s.data.toList = R at *
  generalize ldB s.data.toList = ok at *
  obtain ⟨nm, k, a, b, ds⟩ := R
  dsimp only at *
  go_enter Tryd.func20, Tryd.ntmps20
  go_wp2_with fail
  generalize hW1 : World.alloc w _ = w1
  have b1 : Below w.heap.size w w1 := by rw [← hW1]; exact below_al (Below.refl _ _) _
  have k1 : B5 w1 w.heap.size (.string ⟨#[]⟩) (.int .i64 0) (.int .u64 0) (.int .u64 0) (.slice none 0 0) := by rw [← hW1]; simp [B5, go_sem]
  have Z1 : Hid (w1.heap.size = w.heap.size + 1) := Lib.hid (by rw [← hW1]; simp)
  clear hW1
  refine (H.out _).mono ?_
  rintro e w2 ⟨A, c, rfl, ho2, hb2⟩
  have K2 := k1.keep hb2
  have B2 := Lib.hid (below_next b1 hb2)
  have HO := Lib.hid ho2
  clear b1 hb2 k1 ho2
  obtain ⟨⟨c0, c1, c2, c3, c4⟩, cf⟩ := K2
  go_wp2_with fail
  refine bodyPost_ret (v := .tuple #[.agg #[.string nm, .int .i64 k, .int .u64 a, .int .u64 b, .slice A ds.length c], .bool ok]) (by simp [results, Tryd.results20, go_sem, c0, c1, c2, c3, c4]) rfl ⟨A, c, rfl, ?_, ?_⟩
  · refine own_base (base := w1.heap.size) ?_ (by have := Z1.out; omega)
    repeat (first | (with_reducible exact HO.out) | (with_reducible refine ownsRow_setCell_below ?_ (by have := Z1.out; simp; try omega) _))
  · repeat (first | (with_reducible exact B2.out) | (with_reducible refine below_set ?_ _ _ (by simp; try omega)))
end Go.Proofs.YtielmnkhcljmeaaDoor
