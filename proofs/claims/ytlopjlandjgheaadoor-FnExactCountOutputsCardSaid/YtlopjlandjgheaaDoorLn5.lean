/-
  impl.CountOutputs.
-/
import Derived.Test.YtlopjlandjgheaaDoorLn4
namespace Go.Proofs.YtlopjlandjgheaaDoor
open Go Go.RowKit

set_option maxRecDepth 100000 in
set_option maxHeartbeats 1600000 in
theorem implCount_bad (s : ByteArray) (w : World) (hs : s.size ≤ 1048576) (mx : Int) (hm : w.cell? ⟨0, 0, none⟩ = some (.int .i64 mx)) (h : okB s = false) : Calls Tryd.prog 5 #[.string s] w (countOut 0 0 false w) := by
  have hne : s.toList.isEmpty = false := by
    cases he : s.toList.isEmpty with
    | false => rfl
    | true =>
      have := (nil_ok (List.isEmpty_iff.1 he)).1
      rw [h] at this
      cases this
  have HL := Lib.hid (linesOf_any s w hs mx hm hne)
  have hb : (endsB s && decide (s.size ≤ 16000)) = false := by
    cases he : endsB s with
    | false => rfl
    | true => rw [Bool.true_and, ← ends_ok he]; exact h
  unfold lofOut at HL
  rw [hb] at HL
  clear hb h hm
  go_enter Tryd.func5, Tryd.ntmps5
  go_wp2_with (go_at_call 7; refine HL.out.mono ?_; rintro e w2 ⟨rfl, ho, hb⟩; have HB := Lib.hid hb; clear ho hb)
  refine bodyPost_ret (v := .tuple #[.int .i64 0, .int .i64 0, .bool false]) (by simp [results, Tryd.results5, go_sem]) rfl ⟨rfl, HB.out⟩
set_option maxRecDepth 100000 in
set_option maxHeartbeats 1600000 in
theorem implCount_nil (s : ByteArray) (w : World) (h : s.toList.isEmpty = true) : Calls Tryd.prog 5 #[.string s] w (countOut 0 0 true w) := by
  have HL := Lib.hid (linesOf_nil s w h)
  go_enter Tryd.func5, Tryd.ntmps5
  go_wp2_with (go_at_call 7; refine HL.out.mono ?_; rintro e w2 ⟨rfl, rfl⟩)
  go_loopw [7, 19] (fun bv iv wr => bv = .int .i64 0 ∧ iv = .int .i64 0 ∧ wr = w) (fun _ _ _ => 0)
  case atStart => exact ⟨rfl, rfl, rfl⟩
  case round =>
    obtain ⟨rfl, rfl, rfl⟩ := hrel
    go_wp2_with fail
    refine bodyPost_ret (v := .tuple #[.int .i64 0, .int .i64 0, .bool true]) (by simp [results, Tryd.results5, go_sem]) rfl ⟨rfl, Below.refl _ _⟩
set_option maxRecDepth 100000 in
set_option maxHeartbeats 1600000 in
theorem implCount_ends (s : ByteArray) (w : World) (hs : s.size ≤ 1048576) (mx : Int) (hm : w.cell? ⟨0, 0, none⟩ = some (.int .i64 mx)) (hne : s.toList.isEmpty = false) (he : endsB s = true) (h16 : s.size ≤ 16000) :
    Calls Tryd.prog 5 #[.string s] w (countOut (wrongN (pieceAt s) (lineN s)) ((lineN s : Int) - wrongN (pieceAt s) (lineN s)) true w) := by
  have HL := Lib.hid (linesOf_any s w hs mx hm hne)
  have hl2 : lineN s ≤ 16001 := by
    have := cutB_len s (s.size + 1)
    unfold lineN
    omega
  have hc := wrong_congr (f := pieceAt s) (g := fun q => (implP s).getD q ByteArray.empty) (m := (implP s).length) fun q hq => ends_piece he hq
  rw [ends_lineN he] at hl2 ⊢
  rw [hc]
  have HW : Hid (∀ q, wrongN (fun q => (implP s).getD q ByteArray.empty) (q + 1) = if wrongB ((implP s).getD q ByteArray.empty) then wrongN (fun q => (implP s).getD q ByteArray.empty) q + 1 else wrongN (fun q => (implP s).getD q ByteArray.empty) q) := Lib.hid fun q => rfl
  have HWL : Hid (∀ q, wrongN (fun q => (implP s).getD q ByteArray.empty) q ≤ q) := Lib.hid (wrong_le _)
  have HWB : Hid (∀ q, wrongB ((implP s).getD q ByteArray.empty) = (((implP s).getD q ByteArray.empty).toList == [110, 111] || ((implP s).getD q ByteArray.empty).toList == [119, 104, 97, 116])) := Lib.hid fun q => rfl
  have H0 : Hid (wrongN (fun q => (implP s).getD q ByteArray.empty) 0 = 0) := Lib.hid rfl
  unfold lofOut at HL
  rw [he, decide_eq_true h16] at HL
  clear hc hm hs h16 he
  generalize hps : implP s = ps at *
  clear hps
  generalize hF : (wrongN fun q => ps.getD q ByteArray.empty) = F at *
  clear hF
  generalize hm : ps.length = m at *
  clear hm
  go_enter Tryd.func5, Tryd.ntmps5
  go_wp2_with (go_at_call 7; refine HL.out.mono ?_; rintro e w2 ⟨rfl, ho, hb⟩; have HB := Lib.hid hb; have HO := Lib.hid ho; clear ho hb)
  go_loopw [7, 19] (fun bv iv wr => ∃ q : Nat, q ≤ m ∧ iv = .int .i64 q ∧ bv = .int .i64 (F q : Nat) ∧ wr = w2) (fun _ iv _ => m - (intOf iv).toNat)
  case atStart => exact ⟨0, Nat.zero_le _, rfl, by rw [H0.out]; rfl, rfl⟩
  case round =>
    obtain ⟨q, hq, rfl, rfl, rfl⟩ := hrel
    have hwl := HWL.out q
    by_cases hqm : q < m
    · have hc := HO.out q hqm
      have hw1 := HWB.out q
      have HWq := Lib.hid (HW.out q)
      generalize F q = k at *
      generalize ps.getD q ByteArray.empty = p at *
      cases h1 : (p.toList == [110, 111]) with
      | true =>
        rw [h1, Bool.true_or] at hw1
        rw [hw1] at HWq
        go_wp2_with fail
        go_roundw
        case rel => exact ⟨q + 1, by omega, by go_num, by rw [HWq.out]; first | go_num | rfl, by trivial⟩
        case measure => first | (simp [intOf]; done) | (simp [intOf]; omega)
      | false =>
        rw [h1, Bool.false_or] at hw1
        cases h2 : (p.toList == [119, 104, 97, 116]) with
        | true =>
          rw [h2] at hw1
          rw [hw1] at HWq
          go_wp2_with fail
          go_roundw
          case rel => exact ⟨q + 1, by omega, by go_num, by rw [HWq.out]; first | go_num | rfl, by trivial⟩
          case measure => first | (simp [intOf]; done) | (simp [intOf]; omega)
        | false =>
          rw [h2] at hw1
          rw [hw1] at HWq
          go_wp2_with fail
          go_roundw
          case rel => exact ⟨q + 1, by omega, by go_num, by rw [HWq.out]; rfl, by trivial⟩
          case measure => first | (simp [intOf]; done) | (simp [intOf]; omega)
    · obtain rfl : q = m := by omega
      go_wp2_with fail
      refine bodyPost_ret (v := .tuple #[.int .i64 (F q : Nat), .int .i64 ((q : Int) - (F q : Nat)), .bool true]) (by simp [results, Tryd.results5, go_sem]) rfl ⟨rfl, HB.out⟩
end Go.Proofs.YtlopjlandjgheaaDoor
