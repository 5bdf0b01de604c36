/-
  impl.LoadRecord.
-/
import Derived.Test.YtckdbnnkabgopaaDoorLo8
namespace Go.Proofs.YtckdbnnkabgopaaDoor
open Go Go.RowKit

theorem ldB_fr {l : List UInt8} : ldB l = (frB l && decide (longL l = l.length)) := by
  unfold ldB frB
  cases decide (longL l ≠ 0) <;> cases decide (longL l = l.length) <;> cases okL l <;> rfl
theorem ldR_fr {l : List UInt8} (h : ldB l = true) : ldR l = frR l := by
  have h2 := h
  rw [ldB_fr, Bool.and_eq_true] at h2
  unfold ldR frR
  rw [h, h2.1]
theorem frN_fr {l : List UInt8} (h : frB l = true) : frN l = longL l := by unfold frN; rw [h]; rfl
set_option maxRecDepth 100000 in
set_option maxHeartbeats 3200000 in
theorem LoadRecord_any (s : ByteArray) (w : World) (hs : s.size ≤ 1048576) : Calls Tryd.prog 7 #[.string s] w (LdOut s w) := by
  have H := Lib.hid fun w => firstRecord_any s w hs
  have hl : s.data.toList.length = s.size := (Lib.size_eq s).symm
  unfold FrOut Rc.val rcV at H
  cases hok : frB s.data.toList with
  | false =>
    have HN : Hid (∀ W', Below w.heap.size w W' → LdOut s w (.returned (.tuple #[.agg #[.string ⟨#[]⟩, .int .i64 0, .int .u64 0, .int .u64 0, .slice none 0 0], .bool false])) W') := Lib.hid fun W' hb => LdOut.none (by rw [ldB_fr, hok, Bool.false_and]) hb
    rw [hok] at H
    clear hok hl
    generalize frR s.data.toList = R at *
    generalize frN s.data.toList = N at *
    generalize LdOut s w = Q at *
    obtain ⟨nm, k, a, b, ds⟩ := R
    dsimp only at H
    go_enter Tryd.func7, Tryd.ntmps7
    go_wp2_with fail
    generalize hW1 : World.alloc w _ = w1
    have b1 : Below w.heap.size w w1 := by rw [← hW1]; exact below_al (Below.refl _ _) _
    have k1 : B5 w1 w.heap.size (.string ⟨#[]⟩) (.int .i64 0) (.int .u64 0) (.int .u64 0) (.slice none 0 0) := by rw [← hW1]; simp [B5, go_sem]
    clear hW1
    refine (H.out _).mono ?_
    rintro e w2 ⟨A, c, rfl, ho2, hb2⟩
    have K2 := k1.keep hb2
    have B2 := Lib.hid (below_next b1 hb2)
    have hlt2 := K2.lt
    clear b1 hb2 k1 ho2
    obtain ⟨⟨c0, c1, c2, c3, c4⟩, cf⟩ := K2
    go_wp2_with fail
    refine bodyPost_ret (v := .tuple #[.agg #[.string ⟨#[]⟩, .int .i64 0, .int .u64 0, .int .u64 0, .slice none 0 0], .bool false]) (by simp [results, Tryd.results7, go_sem, c0, c1, c2, c3, c4, hlt2]) rfl (HN.out _ ?_)
    repeat (first | (with_reducible exact B2.out) | (with_reducible refine below_set ?_ _ _ (by simp; try omega)) | (with_reducible refine below_al ?_ _))
  | true =>
    have hN := frN_fr hok
    rw [hok, hN] at H
    by_cases hlen : longL s.data.toList = s.size
    · have hB : ldB s.data.toList = true := by rw [ldB_fr, hok, decide_eq_true (by omega)]; rfl
      have HY : Hid (∀ A c W', W'.ownsRow w.heap.size 2 1 (.slice A (frR s.data.toList).ds.length c) (frR s.data.toList).ds.length (il (frR s.data.toList).ds) → Below w.heap.size w W' → LdOut s w (.returned (.tuple #[(frR s.data.toList).val A c, .bool true])) W') := Lib.hid fun A c W' h1 h2 => by
        unfold LdOut
        rw [ldR_fr hB, hB]
        exact ⟨A, c, rfl, h1, h2⟩
      rw [hlen] at H
      unfold Rc.val rcV at HY
      clear hok hl hN hB hlen
      generalize frR s.data.toList = R at *
      generalize LdOut s w = Q at *
      obtain ⟨nm, k, a, b, ds⟩ := R
      dsimp only at H HY
      go_enter Tryd.func7, Tryd.ntmps7
      go_wp2_with fail
      generalize hW1 : World.alloc w _ = w1
      have b1 : Below w.heap.size w w1 := by rw [← hW1]; exact below_al (Below.refl _ _) _
      have k1 : B5 w1 w.heap.size (.string ⟨#[]⟩) (.int .i64 0) (.int .u64 0) (.int .u64 0) (.slice none 0 0) := by rw [← hW1]; simp [B5, go_sem]
      have Z1 : Hid (w1.heap.size = w.heap.size + 1) := Lib.hid (by rw [← hW1]; simp)
      clear hW1
      refine (H.out _).mono ?_
      rintro e w2 ⟨A, c, rfl, ho2, hb2⟩
      have K2 := k1.keep hb2
      have B2 := Lib.hid (below_next b1 hb2)
      have HO := Lib.hid ho2
      have hlt2 := K2.lt
      clear b1 hb2 k1 ho2
      obtain ⟨⟨c0, c1, c2, c3, c4⟩, cf⟩ := K2
      go_wp2_with fail
      refine bodyPost_ret (v := .tuple #[.agg #[.string nm, .int .i64 k, .int .u64 a, .int .u64 b, .slice A ds.length c], .bool true]) (by simp [results, Tryd.results7, go_sem, c0, c1, c2, c3, c4, hlt2]) rfl (HY.out A c _ ?_ ?_)
      · refine own_base (base := w1.heap.size) ?_ (by have := Z1.out; omega)
        repeat (first | (with_reducible exact HO.out) | (with_reducible refine ownsRow_setCell_below ?_ (by have := Z1.out; simp; try omega) _) | (with_reducible refine World.ownsRow.alloc ?_ _))
      · repeat (first | (with_reducible exact B2.out) | (with_reducible refine below_set ?_ _ _ (by simp; try omega)) | (with_reducible refine below_al ?_ _))
    · have HN : Hid (∀ W', Below w.heap.size w W' → LdOut s w (.returned (.tuple #[.agg #[.string ⟨#[]⟩, .int .i64 0, .int .u64 0, .int .u64 0, .slice none 0 0], .bool false])) W') := Lib.hid fun W' hb => LdOut.none (by rw [ldB_fr, decide_eq_false (by omega), Bool.and_false]) hb
      have hne : ((longL s.data.toList : Int) != (s.size : Int)) = true := by simp; omega
      clear hok hl hN hlen
      generalize frR s.data.toList = R at *
      generalize longL s.data.toList = N at *
      generalize LdOut s w = Q at *
      obtain ⟨nm, k, a, b, ds⟩ := R
      dsimp only at H
      go_enter Tryd.func7, Tryd.ntmps7
      go_wp2_with fail
      generalize hW1 : World.alloc w _ = w1
      have b1 : Below w.heap.size w w1 := by rw [← hW1]; exact below_al (Below.refl _ _) _
      have k1 : B5 w1 w.heap.size (.string ⟨#[]⟩) (.int .i64 0) (.int .u64 0) (.int .u64 0) (.slice none 0 0) := by rw [← hW1]; simp [B5, go_sem]
      clear hW1
      refine (H.out _).mono ?_
      rintro e w2 ⟨A, c, rfl, ho2, hb2⟩
      have K2 := k1.keep hb2
      have B2 := Lib.hid (below_next b1 hb2)
      have hlt2 := K2.lt
      clear b1 hb2 k1 ho2
      obtain ⟨⟨c0, c1, c2, c3, c4⟩, cf⟩ := K2
      go_wp2_with fail
      refine bodyPost_ret (v := .tuple #[.agg #[.string ⟨#[]⟩, .int .i64 0, .int .u64 0, .int .u64 0, .slice none 0 0], .bool false]) (by simp [results, Tryd.results7, go_sem, c0, c1, c2, c3, c4, hlt2]) rfl (HN.out _ ?_)
      repeat (first | (with_reducible exact B2.out) | (with_reducible refine below_set ?_ _ _ (by simp; try omega)) | (with_reducible refine below_al ?_ _))
end Go.Proofs.YtckdbnnkabgopaaDoor

