/-
  impl.JoinChains returns what spec.JoinChains returns, for every two chains (the law FnExactJoinChains returns true), in memory of its own where it gives a slice, and leaves its arguments as they were. No condition.
-/
import Derived.Test.YtddaodjaeommlaaJoi3
import Derived.Test.YtddaodjaeommlaaOpen
import Derived.Test.YtddaodjaeommlaaGive
import Derived.Test.YtddaodjaeommlaaOut
import Derived.Deep.RegionHeld3
import Derived.Deep.DeepCutAuto
namespace Go.Proofs.Ytddaodjaeommlaa.lawJoinChains
open Go.ChangeShapes Go.WideShapes Go.ChangeAt Go.RowKit

theorem both (n0 : Int) (xs0 : List Nat) (n1 : Int) (xs1 : List Nat) (hx0 : xs0.length ≤ 9223372036854775807) (bd0 : -9223372036854775808 ≤ n0 ∧ n0 ≤ 9223372036854775807) (bf0 : ∀ x ∈ xs0, x < 4294967296) (hx1 : xs1.length ≤ 9223372036854775807) (bd1 : -9223372036854775808 ≤ n1 ∧ n1 ≤ 9223372036854775807) (bf1 : ∀ x ∈ xs1, x < 4294967296) : ∃ (sd : Int) (ys : List Nat) (ok : Bool), ys.length ≤ 1048576 ∧ (∀ A50 c50 A51 c51 w, Rd w w.heap.size A50 (fl xs0) → Rd w w.heap.size A51 (fl xs1) → Calls Try.prog 45 #[.agg #[.int .i64 n0, .slice A50 xs0.length c50], .agg #[.int .i64 n1, .slice A51 xs1.length c51]] w (fun e w' => ∃ A c, e = .returned (.tuple #[.agg #[.int .i64 sd, .slice A ys.length c], .bool ok]) ∧ w'.ownsRow w.heap.size 33 1 (.slice A ys.length c) ys.length (fl ys) ∧ Below w.heap.size w w')) ∧
    (∀ A50 A51 w, Rd w w.heap.size A50 (fl xs0) → Rd w w.heap.size A51 (fl xs1) → Calls Try.prog 46 #[.agg #[.int .i64 n0, .slice A50 xs0.length xs0.length], .agg #[.int .i64 n1, .slice A51 xs1.length xs1.length]] w (fun e w' => ∃ A c, e = .returned (.tuple #[.agg #[.int .i64 sd, .slice A ys.length c], .bool ok]) ∧ w'.ownsRow w.heap.size 33 1 (.slice A ys.length c) ys.length (fl ys) ∧ Below w.heap.size w w')) := by
  cases h : joinOk n0 xs0 n1 xs1 with
  | false => exact ⟨0, [], false, by simp, fun A c B d w hA hB => specJoinChains_bad n0 A xs0 c n1 B xs1 d w hx0 hx1 hA hB h, fun A B w hA hB => JoinChains_bad n0 A xs0 xs0.length n1 B xs1 xs1.length w (Nat.le_refl _) hx0 (Nat.le_refl _) hx1 hA hB h⟩
  | true =>
    unfold joinOk at h
    rw [Bool.and_eq_true, Bool.and_eq_true, decide_eq_true_eq] at h
    obtain ⟨h1, h2, rfl⟩ := h
    obtain ⟨m, rfl, h3, h4, -⟩ := validB_facts h1
    refine ⟨_, _, _, ?_, fun A c B d w hA hB => specJoinChains_ok m A xs0 c B xs1 d w hx0 hx1 hA hB h1 h2, fun A B w hA hB => JoinChains_ok m A xs0 xs0.length B xs1 xs1.length w (Nat.le_refl _) hx0 (Nat.le_refl _) hx1 hA hB h1 h2⟩
    unfold stepsOf
    have h5 : m * m ≤ 144 := Nat.mul_le_mul h4 h4
    split
    · rw [tab_len]; omega
    · simp

set_option maxRecDepth 100000 in
set_option maxHeartbeats 12800000 in
theorem walk (n0 : Int) (A0 : Option Addr) (xs0 : List Nat) (c0 : Nat) (n1 : Int) (A1 : Option Addr) (xs1 : List Nat) (c1 : Nat) (w : World) (h0 : Rd w w.heap.size A0 (fl xs0))  (hx0 : xs0.length ≤ 9223372036854775807) (bd0 : -9223372036854775808 ≤ n0 ∧ n0 ≤ 9223372036854775807) (bf0 : ∀ x ∈ xs0, x < 4294967296) (h1 : Rd w w.heap.size A1 (fl xs1))  (hx1 : xs1.length ≤ 9223372036854775807) (bd1 : -9223372036854775808 ≤ n1 ∧ n1 ≤ 9223372036854775807) (bf1 : ∀ x ∈ xs1, x < 4294967296) :
    Calls Try.prog 10 #[.agg #[.int .i64 n0, .slice A0 xs0.length c0], .agg #[.int .i64 n1, .slice A1 xs1.length c1]] w fun e w' => e = .returned (.bool true) ∧ Below w.heap.size w w' := by
  have HZ0 := Lib.hid fun w => szChain_any n0 A0 xs0.length c0 (1048576) w hx0 (by omega) (by omega)
  by_cases hl0 : (1048576 : Int) - (xs0.length : Int) < 0
  · have HL0 : Hid (leftOf (1048576) xs0.length = -1) := if_pos hl0
    clear hl0 bd0 bf0 bd1 bf1
    go_enter Try.func10, Try.ntmps10
    go_wp2_with fail
    refine (HZ0.out _).mono ?_
    rw [HL0.out]
    rintro e v0 ⟨rfl, hv0⟩
    have hu0 : Below w.heap.size w v0 := Below.trans (Below.alloc (Below.alloc (Below.refl _ _) (by simp; try omega) _) (by simp; try omega) _) (hv0.mono (by simp; try omega))
    have cc00 : v0.cell? ⟨w.heap.size, 0, none⟩ = some (.int .i64 n0) := keepC hv0 (by simp [go_sem])
    have cc01 : v0.cell? ⟨w.heap.size, 1, none⟩ = some (.slice A0 xs0.length c0) := keepC hv0 (by simp [go_sem])
    have cc10 : v0.cell? ⟨w.heap.size + 1, 0, none⟩ = some (.int .i64 n1) := keepC hv0 (by simp [go_sem])
    have cc11 : v0.cell? ⟨w.heap.size + 1, 1, none⟩ = some (.slice A1 xs1.length c1) := keepC hv0 (by simp [go_sem])
    clear hv0
    go_wp2_with fail
    go_ret
    exact ⟨rfl, hu0⟩
  have HL0 : Hid (leftOf (1048576) xs0.length = 1048576 - xs0.length) := if_neg hl0
  have hy0 : xs0.length ≤ 1048576 := by omega
  have HZ1 := Lib.hid fun w => szChain_any n1 A1 xs1.length c1 (1048576 - xs0.length) w hx1 (by omega) (by omega)
  by_cases hl1 : (1048576 - xs0.length : Int) - (xs1.length : Int) < 0
  · have HL1 : Hid (leftOf (1048576 - xs0.length) xs1.length = -1) := if_pos hl1
    clear hl1 bd0 bf0 bd1 bf1
    go_enter Try.func10, Try.ntmps10
    go_wp2_with fail
    refine (HZ0.out _).mono ?_
    rw [HL0.out]
    rintro e v0 ⟨rfl, hv0⟩
    have hu0 : Below w.heap.size w v0 := Below.trans (Below.alloc (Below.alloc (Below.refl _ _) (by simp; try omega) _) (by simp; try omega) _) (hv0.mono (by simp; try omega))
    have cc00 : v0.cell? ⟨w.heap.size, 0, none⟩ = some (.int .i64 n0) := keepC hv0 (by simp [go_sem])
    have cc01 : v0.cell? ⟨w.heap.size, 1, none⟩ = some (.slice A0 xs0.length c0) := keepC hv0 (by simp [go_sem])
    have cc10 : v0.cell? ⟨w.heap.size + 1, 0, none⟩ = some (.int .i64 n1) := keepC hv0 (by simp [go_sem])
    have cc11 : v0.cell? ⟨w.heap.size + 1, 1, none⟩ = some (.slice A1 xs1.length c1) := keepC hv0 (by simp [go_sem])
    clear hv0
    go_wp2_with fail
    refine (HZ1.out _).mono ?_
    rw [HL1.out]
    rintro e v1 ⟨rfl, hv1⟩
    have hu1 : Below w.heap.size w v1 := hu0.trans (hv1.mono hu0.size)
    go_wp2_with fail
    go_ret
    exact ⟨rfl, hu1⟩
  have HL1 : Hid (leftOf (1048576 - xs0.length) xs1.length = 1048576 - xs0.length - xs1.length) := if_neg hl1
  have hy1 : xs1.length ≤ 1048576 := by omega
  obtain ⟨sd, ys, ok, hm, HS0, HI0⟩ := both n0 xs0 n1 xs1 hx0 bd0 bf0 hx1 bd1 bf1
  have HS := Lib.hid HS0
  have HI := Lib.hid HI0
  clear HS0 HI0
  have HT0 := Lib.hid fun w h => toChain_any n0 A0 xs0 c0 w hy0 h
  have HX0 := Lib.hid fun A B c d w hA hB => eqChain_yes n0 A B xs0 xs0 c d w (by omega) (sameL_refl xs0) hA hB
  have HT1 := Lib.hid fun w h => toChain_any n1 A1 xs1 c1 w hy1 h
  have HX1 := Lib.hid fun A B c d w hA hB => eqChain_yes n1 A B xs1 xs1 c d w (by omega) (sameL_refl xs1) hA hB
  have HMx0 := Lib.hid fun A base c w hb ho => markChain_any n0 A base xs0.length (fl xs0) c (1) w hy0 (by omega) (by omega) hb ho
  have HMx1 := Lib.hid fun A base c w hb ho => markChain_any n1 A base xs1.length (fl xs1) c (1 + (xs0.length : Int)) w hy1 (by omega) (by omega) hb ho
  have HE := Lib.hid fun A B c d w hA hB => eqChain_yes sd A B ys ys c d w (by omega) (sameL_refl ys) hA hB
  have HM := Lib.hid fun A base c w hb ho => markChain_any sd A base ys.length (fl ys) c 1 w hm (by omega) (by omega) hb ho
  have HH := Lib.hid fun A c w hr => heldChain_any sd A ys.length c 1 w hm (by omega) (by omega) hr
  clear bd0 bf0 bd1 bf1
  have HBw : Hid (Below w.heap.size w w) := Lib.hid (Below.refl _ _)
  go_enter Try.func10, Try.ntmps10
  go_wp2_with fail
  generalize hWw1 : World.alloc (World.alloc w _) _ = w1
  have hbw1 : Below w.heap.size w w1 := by rw [← hWw1]; exact Below.alloc (Below.alloc (Below.refl _ _) (by simp; try omega) _) (by simp; try omega) _
  have sw1 : w.heap.size + 2 ≤ w1.heap.size := by rw [← hWw1]; simp
  have ba00_w1 : w1.cell? ⟨w.heap.size, 0, none⟩ = some (.int .i64 n0) := by rw [← hWw1]; simp [go_sem]
  have ba01_w1 : w1.cell? ⟨w.heap.size, 1, none⟩ = some (.slice A0 xs0.length c0) := by rw [← hWw1]; simp [go_sem]
  have ba10_w1 : w1.cell? ⟨w.heap.size + 1, 0, none⟩ = some (.int .i64 n1) := by rw [← hWw1]; simp [go_sem]
  have ba11_w1 : w1.cell? ⟨w.heap.size + 1, 1, none⟩ = some (.slice A1 xs1.length c1) := by rw [← hWw1]; simp [go_sem]
  have HBw1 : Hid (Below w.heap.size w w1) := Lib.hid (HBw.out.trans (hbw1.mono HBw.out.size))
  clear HBw hWw1 hbw1
  have lb0w1 : w.heap.size < w1.heap.size := by omega
  have lb1w1 : w.heap.size + 1 < w1.heap.size := by omega
  refine (HZ0.out _).mono ?_
  rw [HL0.out]
  rintro e w2 ⟨rfl, hbw2⟩
  have lb0w2 : w.heap.size < w2.heap.size := by have := hbw2.size; omega
  have lb1w2 : w.heap.size + 1 < w2.heap.size := by have := hbw2.size; omega
  have ba00_w2 : w2.cell? ⟨w.heap.size, 0, none⟩ = some (.int .i64 n0) := keepC hbw2 ba00_w1
  have ba01_w2 : w2.cell? ⟨w.heap.size, 1, none⟩ = some (.slice A0 xs0.length c0) := keepC hbw2 ba01_w1
  have ba10_w2 : w2.cell? ⟨w.heap.size + 1, 0, none⟩ = some (.int .i64 n1) := keepC hbw2 ba10_w1
  have ba11_w2 : w2.cell? ⟨w.heap.size + 1, 1, none⟩ = some (.slice A1 xs1.length c1) := keepC hbw2 ba11_w1
  have HBw2 : Hid (Below w.heap.size w w2) := Lib.hid (HBw1.out.trans (hbw2.mono HBw1.out.size))
  have zw2 : w.heap.size + 2 ≤ w2.heap.size := by have := hbw2.size; omega
  clear lb0w1 lb1w1 ba00_w1 ba01_w1 ba10_w1 ba11_w1 HBw1 hbw2
  go_wp2_with fail
  refine (HZ1.out _).mono ?_
  rw [HL1.out]
  rintro e w3 ⟨rfl, hbw3⟩
  have lb0w3 : w.heap.size < w3.heap.size := by have := hbw3.size; omega
  have lb1w3 : w.heap.size + 1 < w3.heap.size := by have := hbw3.size; omega
  have ba00_w3 : w3.cell? ⟨w.heap.size, 0, none⟩ = some (.int .i64 n0) := keepC hbw3 ba00_w2
  have ba01_w3 : w3.cell? ⟨w.heap.size, 1, none⟩ = some (.slice A0 xs0.length c0) := keepC hbw3 ba01_w2
  have ba10_w3 : w3.cell? ⟨w.heap.size + 1, 0, none⟩ = some (.int .i64 n1) := keepC hbw3 ba10_w2
  have ba11_w3 : w3.cell? ⟨w.heap.size + 1, 1, none⟩ = some (.slice A1 xs1.length c1) := keepC hbw3 ba11_w2
  have HBw3 : Hid (Below w.heap.size w w3) := Lib.hid (HBw2.out.trans (hbw3.mono HBw2.out.size))
  have zw3 : w.heap.size + 2 ≤ w3.heap.size := by have := hbw3.size; omega
  clear lb0w2 lb1w2 ba00_w2 ba01_w2 ba10_w2 ba11_w2 HBw2 zw2 hbw3
  go_wp2_with fail
  go_upto_region 8 with fail
  have hMk : Hid (∀ W, Below w3.heap.size w3 W → W.cell? ⟨w.heap.size, 0, none⟩ = some (.int .i64 n0) ∧ W.cell? ⟨w.heap.size, 1, none⟩ = some (.slice A0 xs0.length c0) ∧ W.cell? ⟨w.heap.size + 1, 0, none⟩ = some (.int .i64 n1) ∧ W.cell? ⟨w.heap.size + 1, 1, none⟩ = some (.slice A1 xs1.length c1)) := Lib.hid fun W hW => ⟨keepC hW ba00_w3, keepC hW ba01_w3, keepC hW ba10_w3, keepC hW ba11_w3⟩
  go_cut [6, 7] (fun s6 s7 wx => ∃ g A c, s6 = .pointer (some ⟨g, 0, none⟩) ∧ s7 = .bool ok ∧ wx.cell? ⟨g, 0, none⟩ = some (.int .i64 sd) ∧ wx.cell? ⟨g, 1, none⟩ = some (.slice A ys.length c) ∧ wx.ownsRow w3.heap.size 33 1 (.slice A ys.length c) ys.length (fl ys) ∧ Below w3.heap.size w3 wx ∧ w3.heap.size ≤ g ∧ g < wx.heap.size ∧ (∀ k, (Value.slice A ys.length c).ownBlock = some k → g ≠ k))
  case first =>
    go_region_held3 (fun W => W.cell? ⟨w.heap.size, 0, none⟩ = some (.int .i64 n0) ∧ W.cell? ⟨w.heap.size, 1, none⟩ = some (.slice A0 xs0.length c0) ∧ W.cell? ⟨w.heap.size + 1, 0, none⟩ = some (.int .i64 n1) ∧ W.cell? ⟨w.heap.size + 1, 1, none⟩ = some (.slice A1 xs1.length c1))
      (first | exact hMk.out _ (by repeat (first | assumption | exact Below.refl _ _ | refine below_al ?_ _ | refine below_dr ?_ | refine below_dn ?_ _ | refine below_set ?_ _ _ (by first | exact Nat.le_refl _ | (simp; done) | (simp; omega)))))
      (first
        | (go_at_call_of 29 n0; refine (HT0.out _ (h0.at_ (below_next HBw3.out (by repeat (first | assumption | exact Below.refl _ _ | refine below_al ?_ _ | refine below_dr ?_ | refine below_dn ?_ _ | refine below_set ?_ _ _ (by first | exact Nat.le_refl _ | (simp; done) | (simp; omega))))))).mono ?_; rintro e w4 ⟨A4, rfl, hownw4, hbw4⟩; have rdw4 := Rd.of_own hownw4; have hkw4 : Below w3.heap.size w3 w4 := below_next (by repeat (first | assumption | exact Below.refl _ _ | refine below_al ?_ _ | refine below_dr ?_ | refine below_dn ?_ _ | refine below_set ?_ _ _ (by first | exact Nat.le_refl _ | (simp; done) | (simp; omega)))) hbw4; have hsw4 : w3.heap.size ≤ w4.heap.size := hkw4.size; (try (have ltw3_w4 : w3.heap.size < w4.heap.size := (by first | (have := hbw4.size; simp at this; omega) | (have := hbw4.size; omega)); have q0w3_w4 : w4.cell? ⟨w3.heap.size, 0, none⟩ = some (.int .i64 0) := keepC hbw4 (by first | assumption | (simp [go_sem]; done)); have q1w3_w4 : w4.cell? ⟨w3.heap.size, 1, none⟩ = some (.slice none 0 0) := keepC hbw4 (by first | assumption | (simp [go_sem]; done)); have fzw3_w4 : ∀ o, w4.frozen? ⟨w3.heap.size, o, none⟩ = false := fun o => (hbw4.frozen (p := ⟨w3.heap.size, o, none⟩) (by first | (show _ < _; omega) | (simp; done) | (simp; omega))).trans (by first | (simp [go_sem]; done) | (simp [*]; done)))))
        | (go_at_call_of 29 n1; refine (HT1.out _ (h1.at_ (below_next HBw3.out (by repeat (first | assumption | exact Below.refl _ _ | refine below_al ?_ _ | refine below_dr ?_ | refine below_dn ?_ _ | refine below_set ?_ _ _ (by first | exact Nat.le_refl _ | (simp; done) | (simp; omega))))))).mono ?_; rintro e w5 ⟨A5, rfl, hownw5, hbw5⟩; have rdw5 := Rd.of_own hownw5; have hkw5 : Below w3.heap.size w3 w5 := below_next (by repeat (first | assumption | exact Below.refl _ _ | refine below_al ?_ _ | refine below_dr ?_ | refine below_dn ?_ _ | refine below_set ?_ _ _ (by first | exact Nat.le_refl _ | (simp; done) | (simp; omega)))) hbw5; have hsw5 : w3.heap.size ≤ w5.heap.size := hkw5.size; have hw4_w5 : Below w4.heap.size w4 w5 := below_next (by repeat (first | assumption | exact Below.refl _ _ | refine below_al ?_ _ | refine below_dr ?_ | refine below_dn ?_ _ | refine below_set ?_ _ _ (by first | exact Nat.le_refl _ | (simp; done) | (simp; omega)))) hbw5; (try (have ltw3_w5 : w3.heap.size < w5.heap.size := (by first | (have := hbw5.size; simp at this; omega) | (have := hbw5.size; omega)); have q0w3_w5 : w5.cell? ⟨w3.heap.size, 0, none⟩ = some (.int .i64 0) := keepC hbw5 (by first | assumption | (simp [go_sem]; done)); have q1w3_w5 : w5.cell? ⟨w3.heap.size, 1, none⟩ = some (.slice none 0 0) := keepC hbw5 (by first | assumption | (simp [go_sem]; done)); have fzw3_w5 : ∀ o, w5.frozen? ⟨w3.heap.size, o, none⟩ = false := fun o => (hbw5.frozen (p := ⟨w3.heap.size, o, none⟩) (by first | (show _ < _; omega) | (simp; done) | (simp; omega))).trans (by first | (simp [go_sem]; done) | (simp [*]; done)))); (try (have ltw4_w5 : w4.heap.size < w5.heap.size := (by first | (have := hbw5.size; simp at this; omega) | (have := hbw5.size; omega)); have q0w4_w5 : w5.cell? ⟨w4.heap.size, 0, none⟩ = some (.int .i64 0) := keepC hbw5 (by first | assumption | (simp [go_sem]; done)); have q1w4_w5 : w5.cell? ⟨w4.heap.size, 1, none⟩ = some (.slice none 0 0) := keepC hbw5 (by first | assumption | (simp [go_sem]; done)); have fzw4_w5 : ∀ o, w5.frozen? ⟨w4.heap.size, o, none⟩ = false := fun o => (hbw5.frozen (p := ⟨w4.heap.size, o, none⟩) (by first | (show _ < _; omega) | (simp; done) | (simp; omega))).trans (by first | (simp [go_sem]; done) | (simp [*]; done)))))
        | (go_at_call 45; refine (HS.out A4 _ A5 _ _ (rdw4.at_ (by repeat (first | assumption | exact Below.refl _ _ | refine below_al ?_ _ | refine below_dr ?_ | refine below_dn ?_ _ | refine below_set ?_ _ _ (by first | exact Nat.le_refl _ | (simp; done) | (simp; omega))))) (rdw5.at_ (by repeat (first | assumption | exact Below.refl _ _ | refine below_al ?_ _ | refine below_dr ?_ | refine below_dn ?_ _ | refine below_set ?_ _ _ (by first | exact Nat.le_refl _ | (simp; done) | (simp; omega)))))).mono ?_; rintro e w6 ⟨A6, c6, rfl, hownw6, hbw6⟩; have hkw6 : Below w3.heap.size w3 w6 := below_next (by repeat (first | assumption | exact Below.refl _ _ | refine below_al ?_ _ | refine below_dr ?_ | refine below_dn ?_ _ | refine below_set ?_ _ _ (by first | exact Nat.le_refl _ | (simp; done) | (simp; omega)))) hbw6; have hsw6 : w3.heap.size ≤ w6.heap.size := hkw6.size; have hw4_w6 : Below w4.heap.size w4 w6 := below_next (by repeat (first | assumption | exact Below.refl _ _ | refine below_al ?_ _ | refine below_dr ?_ | refine below_dn ?_ _ | refine below_set ?_ _ _ (by first | exact Nat.le_refl _ | (simp; done) | (simp; omega)))) hbw6; have hw5_w6 : Below w5.heap.size w5 w6 := below_next (by repeat (first | assumption | exact Below.refl _ _ | refine below_al ?_ _ | refine below_dr ?_ | refine below_dn ?_ _ | refine below_set ?_ _ _ (by first | exact Nat.le_refl _ | (simp; done) | (simp; omega)))) hbw6; (try (have ltw3_w6 : w3.heap.size < w6.heap.size := (by first | (have := hbw6.size; simp at this; omega) | (have := hbw6.size; omega)); have q0w3_w6 : w6.cell? ⟨w3.heap.size, 0, none⟩ = some (.int .i64 0) := keepC hbw6 (by first | assumption | (simp [go_sem]; done)); have q1w3_w6 : w6.cell? ⟨w3.heap.size, 1, none⟩ = some (.slice none 0 0) := keepC hbw6 (by first | assumption | (simp [go_sem]; done)); have fzw3_w6 : ∀ o, w6.frozen? ⟨w3.heap.size, o, none⟩ = false := fun o => (hbw6.frozen (p := ⟨w3.heap.size, o, none⟩) (by first | (show _ < _; omega) | (simp; done) | (simp; omega))).trans (by first | (simp [go_sem]; done) | (simp [*]; done)))); (try (have ltw4_w6 : w4.heap.size < w6.heap.size := (by first | (have := hbw6.size; simp at this; omega) | (have := hbw6.size; omega)); have q0w4_w6 : w6.cell? ⟨w4.heap.size, 0, none⟩ = some (.int .i64 0) := keepC hbw6 (by first | assumption | (simp [go_sem]; done)); have q1w4_w6 : w6.cell? ⟨w4.heap.size, 1, none⟩ = some (.slice none 0 0) := keepC hbw6 (by first | assumption | (simp [go_sem]; done)); have fzw4_w6 : ∀ o, w6.frozen? ⟨w4.heap.size, o, none⟩ = false := fun o => (hbw6.frozen (p := ⟨w4.heap.size, o, none⟩) (by first | (show _ < _; omega) | (simp; done) | (simp; omega))).trans (by first | (simp [go_sem]; done) | (simp [*]; done)))); (try (have ltw5_w6 : w5.heap.size < w6.heap.size := (by first | (have := hbw6.size; simp at this; omega) | (have := hbw6.size; omega)); have q0w5_w6 : w6.cell? ⟨w5.heap.size, 0, none⟩ = some (.int .i64 0) := keepC hbw6 (by first | assumption | (simp [go_sem]; done)); have q1w5_w6 : w6.cell? ⟨w5.heap.size, 1, none⟩ = some (.slice none 0 0) := keepC hbw6 (by first | assumption | (simp [go_sem]; done)); have fzw5_w6 : ∀ o, w6.frozen? ⟨w5.heap.size, o, none⟩ = false := fun o => (hbw6.frozen (p := ⟨w5.heap.size, o, none⟩) (by first | (show _ < _; omega) | (simp; done) | (simp; omega))).trans (by first | (simp [go_sem]; done) | (simp [*]; done))))))
    all_goals (go_wp2_with fail; go_meet; exact ⟨_, A6, c6, rfl, rfl, (by first | (simp [go_sem]; done) | (simp [go_sem, q0w3_w6, q1w3_w6]; done) | (simp [go_sem, q0w4_w6, q1w4_w6]; done) | (simp [go_sem, q0w5_w6, q1w5_w6]; done)), (by first | (simp [go_sem]; done) | (simp [go_sem, q0w3_w6, q1w3_w6]; done) | (simp [go_sem, q0w4_w6, q1w4_w6]; done) | (simp [go_sem, q0w5_w6, q1w5_w6]; done)), (by first | exact own_base (hownw6.alloc _) (by first | omega | (simp; done) | (simp; omega)) | exact own_base (ownsRow_setCell_below (ownsRow_setCell_below (hownw6) (by first | (simp; done) | (simp; omega) | (show _ < _; omega)) _) (by first | (simp; done) | (simp; omega) | (show _ < _; omega)) _) (by first | omega | (simp; done) | (simp; omega))), (by repeat (first | assumption | exact Below.refl _ _ | refine below_al ?_ _ | refine below_dr ?_ | refine below_dn ?_ _ | refine below_set ?_ _ _ (by first | exact Nat.le_refl _ | (simp; done) | (simp; omega)))), (by omega), (by first | omega | (simp; done) | (simp; omega)), (fun k hk => by have h1 := (hownw6.lt k hk).1; have h2 := (hownw6.lt k hk).2; (first | omega | (simp at h1; omega)))⟩)
  rename World => w7
  obtain ⟨gw7, A7, c7, rfl, rfl, bW00_w7, bW01_w7, hownw7, hkw7, low7, hiw7, new7⟩ := hcut
  obtain ⟨ba00_w7, ba01_w7, ba10_w7, ba11_w7⟩ := hMk.out _ hkw7
  have lb0w7 : w.heap.size < w7.heap.size := by have := hkw7.size; omega
  have lb1w7 : w.heap.size + 1 < w7.heap.size := by have := hkw7.size; omega
  have HBw7 : Hid (Below w.heap.size w w7) := Lib.hid (HBw3.out.trans (hkw7.mono HBw3.out.size))
  have rw7 : w3.heap.size ≤ w7.heap.size := hkw7.size
  have OLW : Hid (∀ k, (Value.slice A7 ys.length c7).ownBlock = some k → w3.heap.size ≤ k ∧ k < w7.heap.size ∧ gw7 ≠ k) := Lib.hid fun k hk => ⟨(hownw7.lt k hk).1, (hownw7.lt k hk).2, new7 k hk⟩
  have OWWw7 := Lib.hid hownw7
  have lb99w7 : gw7 < w7.heap.size := hiw7
  clear hMk ba00_w3 ba01_w3 ba10_w3 ba11_w3 lb0w3 lb1w3 HBw3 hownw7 new7 hkw7
  go_wp2_with fail
  refine (HT0.out _ (h0.at_ HBw7.out)).mono ?_
  rintro e w8 ⟨A8, rfl, hownw8, hbw8⟩
  have OLX0 : Hid (∀ k, (Value.slice A8 xs0.length xs0.length).ownBlock = some k → w7.heap.size ≤ k ∧ k < w8.heap.size) := Lib.hid hownw8.lt
  have OWX0w8 := Lib.hid hownw8
  have rw8 : w7.heap.size ≤ w8.heap.size := hbw8.size
  have lb0w8 : w.heap.size < w8.heap.size := by have := hbw8.size; omega
  have lb1w8 : w.heap.size + 1 < w8.heap.size := by have := hbw8.size; omega
  have lb2w8 : gw7 < w8.heap.size := by have := hbw8.size; omega
  have ba00_w8 : w8.cell? ⟨w.heap.size, 0, none⟩ = some (.int .i64 n0) := keepC hbw8 ba00_w7
  have ba01_w8 : w8.cell? ⟨w.heap.size, 1, none⟩ = some (.slice A0 xs0.length c0) := keepC hbw8 ba01_w7
  have ba10_w8 : w8.cell? ⟨w.heap.size + 1, 0, none⟩ = some (.int .i64 n1) := keepC hbw8 ba10_w7
  have ba11_w8 : w8.cell? ⟨w.heap.size + 1, 1, none⟩ = some (.slice A1 xs1.length c1) := keepC hbw8 ba11_w7
  have bW00_w8 : w8.cell? ⟨gw7, 0, none⟩ = some (.int .i64 sd) := keepC hbw8 bW00_w7
  have bW01_w8 : w8.cell? ⟨gw7, 1, none⟩ = some (.slice A7 ys.length c7) := keepC hbw8 bW01_w7
  have OWWw8 := Lib.hid (own_below OWWw7.out hbw8)
  have HBw8 : Hid (Below w.heap.size w w8) := Lib.hid (HBw7.out.trans (hbw8.mono HBw7.out.size))
  clear lb0w7 lb1w7 lb99w7 ba00_w7 ba01_w7 ba10_w7 ba11_w7 bW00_w7 bW01_w7 OWWw7 HBw7 hbw8 hownw8
  go_wp2_with fail
  generalize hWw9 : World.alloc w8 _ = w9
  have hbw9 : Below w8.heap.size w8 w9 := by rw [← hWw9]; exact Below.alloc (Below.refl _ _) (by simp; try omega) _
  have sw9 : w8.heap.size + 1 ≤ w9.heap.size := by rw [← hWw9]; simp
  have bx000_w9 : w9.cell? ⟨w8.heap.size, 0, none⟩ = some (.int .i64 n0) := by rw [← hWw9]; simp [go_sem]
  have bx001_w9 : w9.cell? ⟨w8.heap.size, 1, none⟩ = some (.slice A8 xs0.length xs0.length) := by rw [← hWw9]; simp [go_sem]
  have lb0w9 : w.heap.size < w9.heap.size := by have := hbw9.size; omega
  have lb1w9 : w.heap.size + 1 < w9.heap.size := by have := hbw9.size; omega
  have lb2w9 : gw7 < w9.heap.size := by have := hbw9.size; omega
  have ba00_w9 : w9.cell? ⟨w.heap.size, 0, none⟩ = some (.int .i64 n0) := keepC hbw9 ba00_w8
  have ba01_w9 : w9.cell? ⟨w.heap.size, 1, none⟩ = some (.slice A0 xs0.length c0) := keepC hbw9 ba01_w8
  have ba10_w9 : w9.cell? ⟨w.heap.size + 1, 0, none⟩ = some (.int .i64 n1) := keepC hbw9 ba10_w8
  have ba11_w9 : w9.cell? ⟨w.heap.size + 1, 1, none⟩ = some (.slice A1 xs1.length c1) := keepC hbw9 ba11_w8
  have bW00_w9 : w9.cell? ⟨gw7, 0, none⟩ = some (.int .i64 sd) := keepC hbw9 bW00_w8
  have bW01_w9 : w9.cell? ⟨gw7, 1, none⟩ = some (.slice A7 ys.length c7) := keepC hbw9 bW01_w8
  have OWWw9 := Lib.hid (own_below OWWw8.out hbw9)
  have OWX0w9 := Lib.hid (own_below OWX0w8.out hbw9)
  have HBw9 : Hid (Below w.heap.size w w9) := Lib.hid (HBw8.out.trans (hbw9.mono HBw8.out.size))
  clear lb0w8 lb1w8 lb2w8 ba00_w8 ba01_w8 ba10_w8 ba11_w8 bW00_w8 bW01_w8 OWWw8 OWX0w8 HBw8 hWw9 hbw9
  have lb3w9 : w8.heap.size < w9.heap.size := by omega
  refine (HT1.out _ (h1.at_ HBw9.out)).mono ?_
  rintro e w10 ⟨A10, rfl, hownw10, hbw10⟩
  have OLX1 : Hid (∀ k, (Value.slice A10 xs1.length xs1.length).ownBlock = some k → w9.heap.size ≤ k ∧ k < w10.heap.size) := Lib.hid hownw10.lt
  have OWX1w10 := Lib.hid hownw10
  have rw10 : w9.heap.size ≤ w10.heap.size := hbw10.size
  have lb0w10 : w.heap.size < w10.heap.size := by have := hbw10.size; omega
  have lb1w10 : w.heap.size + 1 < w10.heap.size := by have := hbw10.size; omega
  have lb2w10 : gw7 < w10.heap.size := by have := hbw10.size; omega
  have lb3w10 : w8.heap.size < w10.heap.size := by have := hbw10.size; omega
  have ba00_w10 : w10.cell? ⟨w.heap.size, 0, none⟩ = some (.int .i64 n0) := keepC hbw10 ba00_w9
  have ba01_w10 : w10.cell? ⟨w.heap.size, 1, none⟩ = some (.slice A0 xs0.length c0) := keepC hbw10 ba01_w9
  have ba10_w10 : w10.cell? ⟨w.heap.size + 1, 0, none⟩ = some (.int .i64 n1) := keepC hbw10 ba10_w9
  have ba11_w10 : w10.cell? ⟨w.heap.size + 1, 1, none⟩ = some (.slice A1 xs1.length c1) := keepC hbw10 ba11_w9
  have bW00_w10 : w10.cell? ⟨gw7, 0, none⟩ = some (.int .i64 sd) := keepC hbw10 bW00_w9
  have bW01_w10 : w10.cell? ⟨gw7, 1, none⟩ = some (.slice A7 ys.length c7) := keepC hbw10 bW01_w9
  have bx000_w10 : w10.cell? ⟨w8.heap.size, 0, none⟩ = some (.int .i64 n0) := keepC hbw10 bx000_w9
  have bx001_w10 : w10.cell? ⟨w8.heap.size, 1, none⟩ = some (.slice A8 xs0.length xs0.length) := keepC hbw10 bx001_w9
  have OWWw10 := Lib.hid (own_below OWWw9.out hbw10)
  have OWX0w10 := Lib.hid (own_below OWX0w9.out hbw10)
  have HBw10 : Hid (Below w.heap.size w w10) := Lib.hid (HBw9.out.trans (hbw10.mono HBw9.out.size))
  clear lb0w9 lb1w9 lb2w9 lb3w9 ba00_w9 ba01_w9 ba10_w9 ba11_w9 bW00_w9 bW01_w9 bx000_w9 bx001_w9 OWWw9 OWX0w9 HBw9 hbw10 hownw10
  go_wp2_with fail
  generalize hWw11 : World.alloc w10 _ = w11
  have hbw11 : Below w10.heap.size w10 w11 := by rw [← hWw11]; exact Below.alloc (Below.refl _ _) (by simp; try omega) _
  have sw11 : w10.heap.size + 1 ≤ w11.heap.size := by rw [← hWw11]; simp
  have bx100_w11 : w11.cell? ⟨w10.heap.size, 0, none⟩ = some (.int .i64 n1) := by rw [← hWw11]; simp [go_sem]
  have bx101_w11 : w11.cell? ⟨w10.heap.size, 1, none⟩ = some (.slice A10 xs1.length xs1.length) := by rw [← hWw11]; simp [go_sem]
  have lb0w11 : w.heap.size < w11.heap.size := by have := hbw11.size; omega
  have lb1w11 : w.heap.size + 1 < w11.heap.size := by have := hbw11.size; omega
  have lb2w11 : gw7 < w11.heap.size := by have := hbw11.size; omega
  have lb3w11 : w8.heap.size < w11.heap.size := by have := hbw11.size; omega
  have ba00_w11 : w11.cell? ⟨w.heap.size, 0, none⟩ = some (.int .i64 n0) := keepC hbw11 ba00_w10
  have ba01_w11 : w11.cell? ⟨w.heap.size, 1, none⟩ = some (.slice A0 xs0.length c0) := keepC hbw11 ba01_w10
  have ba10_w11 : w11.cell? ⟨w.heap.size + 1, 0, none⟩ = some (.int .i64 n1) := keepC hbw11 ba10_w10
  have ba11_w11 : w11.cell? ⟨w.heap.size + 1, 1, none⟩ = some (.slice A1 xs1.length c1) := keepC hbw11 ba11_w10
  have bW00_w11 : w11.cell? ⟨gw7, 0, none⟩ = some (.int .i64 sd) := keepC hbw11 bW00_w10
  have bW01_w11 : w11.cell? ⟨gw7, 1, none⟩ = some (.slice A7 ys.length c7) := keepC hbw11 bW01_w10
  have bx000_w11 : w11.cell? ⟨w8.heap.size, 0, none⟩ = some (.int .i64 n0) := keepC hbw11 bx000_w10
  have bx001_w11 : w11.cell? ⟨w8.heap.size, 1, none⟩ = some (.slice A8 xs0.length xs0.length) := keepC hbw11 bx001_w10
  have OWWw11 := Lib.hid (own_below OWWw10.out hbw11)
  have OWX0w11 := Lib.hid (own_below OWX0w10.out hbw11)
  have OWX1w11 := Lib.hid (own_below OWX1w10.out hbw11)
  have HBw11 : Hid (Below w.heap.size w w11) := Lib.hid (HBw10.out.trans (hbw11.mono HBw10.out.size))
  clear lb0w10 lb1w10 lb2w10 lb3w10 ba00_w10 ba01_w10 ba10_w10 ba11_w10 bW00_w10 bW01_w10 bx000_w10 bx001_w10 OWWw10 OWX0w10 OWX1w10 HBw10 hWw11 hbw11
  have lb4w11 : w10.heap.size < w11.heap.size := by omega
  refine (HI.out A8 A10 _ (Rd.of_own OWX0w11.out) (Rd.of_own OWX1w11.out)).mono ?_
  rintro e w12 ⟨A12, c12, rfl, hownw12, hbw12⟩
  have OLG : Hid (∀ k, (Value.slice A12 ys.length c12).ownBlock = some k → w11.heap.size ≤ k ∧ k < w12.heap.size) := Lib.hid hownw12.lt
  have OWGw12 := Lib.hid hownw12
  have rw12 : w11.heap.size ≤ w12.heap.size := hbw12.size
  have lb0w12 : w.heap.size < w12.heap.size := by have := hbw12.size; omega
  have lb1w12 : w.heap.size + 1 < w12.heap.size := by have := hbw12.size; omega
  have lb2w12 : gw7 < w12.heap.size := by have := hbw12.size; omega
  have lb3w12 : w8.heap.size < w12.heap.size := by have := hbw12.size; omega
  have lb4w12 : w10.heap.size < w12.heap.size := by have := hbw12.size; omega
  have ba00_w12 : w12.cell? ⟨w.heap.size, 0, none⟩ = some (.int .i64 n0) := keepC hbw12 ba00_w11
  have ba01_w12 : w12.cell? ⟨w.heap.size, 1, none⟩ = some (.slice A0 xs0.length c0) := keepC hbw12 ba01_w11
  have ba10_w12 : w12.cell? ⟨w.heap.size + 1, 0, none⟩ = some (.int .i64 n1) := keepC hbw12 ba10_w11
  have ba11_w12 : w12.cell? ⟨w.heap.size + 1, 1, none⟩ = some (.slice A1 xs1.length c1) := keepC hbw12 ba11_w11
  have bW00_w12 : w12.cell? ⟨gw7, 0, none⟩ = some (.int .i64 sd) := keepC hbw12 bW00_w11
  have bW01_w12 : w12.cell? ⟨gw7, 1, none⟩ = some (.slice A7 ys.length c7) := keepC hbw12 bW01_w11
  have bx000_w12 : w12.cell? ⟨w8.heap.size, 0, none⟩ = some (.int .i64 n0) := keepC hbw12 bx000_w11
  have bx001_w12 : w12.cell? ⟨w8.heap.size, 1, none⟩ = some (.slice A8 xs0.length xs0.length) := keepC hbw12 bx001_w11
  have bx100_w12 : w12.cell? ⟨w10.heap.size, 0, none⟩ = some (.int .i64 n1) := keepC hbw12 bx100_w11
  have bx101_w12 : w12.cell? ⟨w10.heap.size, 1, none⟩ = some (.slice A10 xs1.length xs1.length) := keepC hbw12 bx101_w11
  have OWWw12 := Lib.hid (own_below OWWw11.out hbw12)
  have OWX0w12 := Lib.hid (own_below OWX0w11.out hbw12)
  have OWX1w12 := Lib.hid (own_below OWX1w11.out hbw12)
  have HBw12 : Hid (Below w.heap.size w w12) := Lib.hid (HBw11.out.trans (hbw12.mono HBw11.out.size))
  clear lb0w11 lb1w11 lb2w11 lb3w11 lb4w11 ba00_w11 ba01_w11 ba10_w11 ba11_w11 bW00_w11 bW01_w11 bx000_w11 bx001_w11 bx100_w11 bx101_w11 OWWw11 OWX0w11 OWX1w11 HBw11 hbw12 hownw12
  go_wp2_with fail
  generalize hWw13 : World.alloc w12 _ = w13
  have hbw13 : Below w12.heap.size w12 w13 := by rw [← hWw13]; exact Below.alloc (Below.refl _ _) (by simp; try omega) _
  have sw13 : w12.heap.size + 1 ≤ w13.heap.size := by rw [← hWw13]; simp
  have bG00_w13 : w13.cell? ⟨w12.heap.size, 0, none⟩ = some (.int .i64 sd) := by rw [← hWw13]; simp [go_sem]
  have bG01_w13 : w13.cell? ⟨w12.heap.size, 1, none⟩ = some (.slice A12 ys.length c12) := by rw [← hWw13]; simp [go_sem]
  have lb0w13 : w.heap.size < w13.heap.size := by have := hbw13.size; omega
  have lb1w13 : w.heap.size + 1 < w13.heap.size := by have := hbw13.size; omega
  have lb2w13 : gw7 < w13.heap.size := by have := hbw13.size; omega
  have lb3w13 : w8.heap.size < w13.heap.size := by have := hbw13.size; omega
  have lb4w13 : w10.heap.size < w13.heap.size := by have := hbw13.size; omega
  have ba00_w13 : w13.cell? ⟨w.heap.size, 0, none⟩ = some (.int .i64 n0) := keepC hbw13 ba00_w12
  have ba01_w13 : w13.cell? ⟨w.heap.size, 1, none⟩ = some (.slice A0 xs0.length c0) := keepC hbw13 ba01_w12
  have ba10_w13 : w13.cell? ⟨w.heap.size + 1, 0, none⟩ = some (.int .i64 n1) := keepC hbw13 ba10_w12
  have ba11_w13 : w13.cell? ⟨w.heap.size + 1, 1, none⟩ = some (.slice A1 xs1.length c1) := keepC hbw13 ba11_w12
  have bW00_w13 : w13.cell? ⟨gw7, 0, none⟩ = some (.int .i64 sd) := keepC hbw13 bW00_w12
  have bW01_w13 : w13.cell? ⟨gw7, 1, none⟩ = some (.slice A7 ys.length c7) := keepC hbw13 bW01_w12
  have bx000_w13 : w13.cell? ⟨w8.heap.size, 0, none⟩ = some (.int .i64 n0) := keepC hbw13 bx000_w12
  have bx001_w13 : w13.cell? ⟨w8.heap.size, 1, none⟩ = some (.slice A8 xs0.length xs0.length) := keepC hbw13 bx001_w12
  have bx100_w13 : w13.cell? ⟨w10.heap.size, 0, none⟩ = some (.int .i64 n1) := keepC hbw13 bx100_w12
  have bx101_w13 : w13.cell? ⟨w10.heap.size, 1, none⟩ = some (.slice A10 xs1.length xs1.length) := keepC hbw13 bx101_w12
  have OWWw13 := Lib.hid (own_below OWWw12.out hbw13)
  have OWX0w13 := Lib.hid (own_below OWX0w12.out hbw13)
  have OWX1w13 := Lib.hid (own_below OWX1w12.out hbw13)
  have OWGw13 := Lib.hid (own_below OWGw12.out hbw13)
  have HBw13 : Hid (Below w.heap.size w w13) := Lib.hid (HBw12.out.trans (hbw13.mono HBw12.out.size))
  clear lb0w12 lb1w12 lb2w12 lb3w12 lb4w12 ba00_w12 ba01_w12 ba10_w12 ba11_w12 bW00_w12 bW01_w12 bx000_w12 bx001_w12 bx100_w12 bx101_w12 OWWw12 OWX0w12 OWX1w12 OWGw12 HBw12 hWw13 hbw13
  have lb5w13 : w12.heap.size < w13.heap.size := by omega
  refine (HE.out A12 A7 c12 c7 _ (Rd.of_own OWGw13.out) (Rd.of_own OWWw13.out)).mono ?_
  rintro e w14 ⟨rfl, hbw14⟩
  have lb0w14 : w.heap.size < w14.heap.size := by have := hbw14.size; omega
  have lb1w14 : w.heap.size + 1 < w14.heap.size := by have := hbw14.size; omega
  have lb2w14 : gw7 < w14.heap.size := by have := hbw14.size; omega
  have lb3w14 : w8.heap.size < w14.heap.size := by have := hbw14.size; omega
  have lb4w14 : w10.heap.size < w14.heap.size := by have := hbw14.size; omega
  have lb5w14 : w12.heap.size < w14.heap.size := by have := hbw14.size; omega
  have ba00_w14 : w14.cell? ⟨w.heap.size, 0, none⟩ = some (.int .i64 n0) := keepC hbw14 ba00_w13
  have ba01_w14 : w14.cell? ⟨w.heap.size, 1, none⟩ = some (.slice A0 xs0.length c0) := keepC hbw14 ba01_w13
  have ba10_w14 : w14.cell? ⟨w.heap.size + 1, 0, none⟩ = some (.int .i64 n1) := keepC hbw14 ba10_w13
  have ba11_w14 : w14.cell? ⟨w.heap.size + 1, 1, none⟩ = some (.slice A1 xs1.length c1) := keepC hbw14 ba11_w13
  have bW00_w14 : w14.cell? ⟨gw7, 0, none⟩ = some (.int .i64 sd) := keepC hbw14 bW00_w13
  have bW01_w14 : w14.cell? ⟨gw7, 1, none⟩ = some (.slice A7 ys.length c7) := keepC hbw14 bW01_w13
  have bx000_w14 : w14.cell? ⟨w8.heap.size, 0, none⟩ = some (.int .i64 n0) := keepC hbw14 bx000_w13
  have bx001_w14 : w14.cell? ⟨w8.heap.size, 1, none⟩ = some (.slice A8 xs0.length xs0.length) := keepC hbw14 bx001_w13
  have bx100_w14 : w14.cell? ⟨w10.heap.size, 0, none⟩ = some (.int .i64 n1) := keepC hbw14 bx100_w13
  have bx101_w14 : w14.cell? ⟨w10.heap.size, 1, none⟩ = some (.slice A10 xs1.length xs1.length) := keepC hbw14 bx101_w13
  have bG00_w14 : w14.cell? ⟨w12.heap.size, 0, none⟩ = some (.int .i64 sd) := keepC hbw14 bG00_w13
  have bG01_w14 : w14.cell? ⟨w12.heap.size, 1, none⟩ = some (.slice A12 ys.length c12) := keepC hbw14 bG01_w13
  have OWWw14 := Lib.hid (own_below OWWw13.out hbw14)
  have OWX0w14 := Lib.hid (own_below OWX0w13.out hbw14)
  have OWX1w14 := Lib.hid (own_below OWX1w13.out hbw14)
  have OWGw14 := Lib.hid (own_below OWGw13.out hbw14)
  have HBw14 : Hid (Below w.heap.size w w14) := Lib.hid (HBw13.out.trans (hbw14.mono HBw13.out.size))
  have zw14 : w12.heap.size + 1 ≤ w14.heap.size := by have := hbw14.size; omega
  clear lb0w13 lb1w13 lb2w13 lb3w13 lb4w13 lb5w13 ba00_w13 ba01_w13 ba10_w13 ba11_w13 bW00_w13 bW01_w13 bx000_w13 bx001_w13 bx100_w13 bx101_w13 bG00_w13 bG01_w13 OWWw13 OWX0w13 OWX1w13 OWGw13 HBw13 hbw14
  go_wp2_with fail
  have hMk : Hid (∀ W, Below w14.heap.size w14 W → W.cell? ⟨w.heap.size, 0, none⟩ = some (.int .i64 n0) ∧ W.cell? ⟨w.heap.size, 1, none⟩ = some (.slice A0 xs0.length c0) ∧ W.cell? ⟨w.heap.size + 1, 0, none⟩ = some (.int .i64 n1) ∧ W.cell? ⟨w.heap.size + 1, 1, none⟩ = some (.slice A1 xs1.length c1) ∧ W.cell? ⟨gw7, 0, none⟩ = some (.int .i64 sd) ∧ W.cell? ⟨gw7, 1, none⟩ = some (.slice A7 ys.length c7) ∧ W.cell? ⟨w8.heap.size, 0, none⟩ = some (.int .i64 n0) ∧ W.cell? ⟨w8.heap.size, 1, none⟩ = some (.slice A8 xs0.length xs0.length) ∧ W.cell? ⟨w10.heap.size, 0, none⟩ = some (.int .i64 n1) ∧ W.cell? ⟨w10.heap.size, 1, none⟩ = some (.slice A10 xs1.length xs1.length) ∧ W.cell? ⟨w12.heap.size, 0, none⟩ = some (.int .i64 sd) ∧ W.cell? ⟨w12.heap.size, 1, none⟩ = some (.slice A12 ys.length c12)) := Lib.hid fun W hW => ⟨keepC hW ba00_w14, keepC hW ba01_w14, keepC hW ba10_w14, keepC hW ba11_w14, keepC hW bW00_w14, keepC hW bW01_w14, keepC hW bx000_w14, keepC hW bx001_w14, keepC hW bx100_w14, keepC hW bx101_w14, keepC hW bG00_w14, keepC hW bG01_w14⟩
  go_region_held3 (fun W => W.cell? ⟨w.heap.size, 0, none⟩ = some (.int .i64 n0) ∧ W.cell? ⟨w.heap.size, 1, none⟩ = some (.slice A0 xs0.length c0) ∧ W.cell? ⟨w.heap.size + 1, 0, none⟩ = some (.int .i64 n1) ∧ W.cell? ⟨w.heap.size + 1, 1, none⟩ = some (.slice A1 xs1.length c1) ∧ W.cell? ⟨gw7, 0, none⟩ = some (.int .i64 sd) ∧ W.cell? ⟨gw7, 1, none⟩ = some (.slice A7 ys.length c7) ∧ W.cell? ⟨w8.heap.size, 0, none⟩ = some (.int .i64 n0) ∧ W.cell? ⟨w8.heap.size, 1, none⟩ = some (.slice A8 xs0.length xs0.length) ∧ W.cell? ⟨w10.heap.size, 0, none⟩ = some (.int .i64 n1) ∧ W.cell? ⟨w10.heap.size, 1, none⟩ = some (.slice A10 xs1.length xs1.length) ∧ W.cell? ⟨w12.heap.size, 0, none⟩ = some (.int .i64 sd) ∧ W.cell? ⟨w12.heap.size, 1, none⟩ = some (.slice A12 ys.length c12))
    (first | exact hMk.out _ ((Below.refl _ _).drew) | exact hMk.out _ (by assumption))
    (first
      | (go_at_call 29; refine (HT0.out _ (h0.at_ HBw14.out.drew)).mono ?_; rintro e w15 ⟨A15, rfl, hownw15, hbw15⟩; have hkw15 : Below w14.heap.size w14 w15 := Below.trans (Below.refl _ _).drew hbw15)
      | (go_at_call 31; refine (HX0.out _ _ _ _ _ ((Rd.of_own OWX0w14.out).at_ hkw15) (Rd.of_own hownw15)).mono ?_; rintro e w16 ⟨rfl, hbw16⟩; have hkw16 : Below w14.heap.size w14 w16 := hkw15.trans (hbw16.mono hkw15.size)))
  obtain ⟨ba00_w16, ba01_w16, ba10_w16, ba11_w16, bW00_w16, bW01_w16, bx000_w16, bx001_w16, bx100_w16, bx101_w16, bG00_w16, bG01_w16⟩ := hMk.out _ hkw16
  have lb0w16 : w.heap.size < w16.heap.size := by have := hkw16.size; omega
  have lb1w16 : w.heap.size + 1 < w16.heap.size := by have := hkw16.size; omega
  have lb2w16 : gw7 < w16.heap.size := by have := hkw16.size; omega
  have lb3w16 : w8.heap.size < w16.heap.size := by have := hkw16.size; omega
  have lb4w16 : w10.heap.size < w16.heap.size := by have := hkw16.size; omega
  have lb5w16 : w12.heap.size < w16.heap.size := by have := hkw16.size; omega
  have OWWw16 := Lib.hid (own_below OWWw14.out hkw16)
  have OWX0w16 := Lib.hid (own_below OWX0w14.out hkw16)
  have OWX1w16 := Lib.hid (own_below OWX1w14.out hkw16)
  have OWGw16 := Lib.hid (own_below OWGw14.out hkw16)
  have HBw16 : Hid (Below w.heap.size w w16) := Lib.hid (HBw14.out.trans (hkw16.mono HBw14.out.size))
  have zw16 : w12.heap.size + 1 ≤ w16.heap.size := by have := hkw16.size; omega
  clear hMk ba00_w14 ba01_w14 ba10_w14 ba11_w14 bW00_w14 bW01_w14 bx000_w14 bx001_w14 bx100_w14 bx101_w14 bG00_w14 bG01_w14 hbw15 hkw15 hownw15 lb0w14 lb1w14 lb2w14 lb3w14 lb4w14 lb5w14 OWWw14 OWX0w14 OWX1w14 OWGw14 HBw14 zw14 hbw16 hkw16
  go_wp2_with fail
  have hMk : Hid (∀ W, Below w16.heap.size w16 W → W.cell? ⟨w.heap.size, 0, none⟩ = some (.int .i64 n0) ∧ W.cell? ⟨w.heap.size, 1, none⟩ = some (.slice A0 xs0.length c0) ∧ W.cell? ⟨w.heap.size + 1, 0, none⟩ = some (.int .i64 n1) ∧ W.cell? ⟨w.heap.size + 1, 1, none⟩ = some (.slice A1 xs1.length c1) ∧ W.cell? ⟨gw7, 0, none⟩ = some (.int .i64 sd) ∧ W.cell? ⟨gw7, 1, none⟩ = some (.slice A7 ys.length c7) ∧ W.cell? ⟨w8.heap.size, 0, none⟩ = some (.int .i64 n0) ∧ W.cell? ⟨w8.heap.size, 1, none⟩ = some (.slice A8 xs0.length xs0.length) ∧ W.cell? ⟨w10.heap.size, 0, none⟩ = some (.int .i64 n1) ∧ W.cell? ⟨w10.heap.size, 1, none⟩ = some (.slice A10 xs1.length xs1.length) ∧ W.cell? ⟨w12.heap.size, 0, none⟩ = some (.int .i64 sd) ∧ W.cell? ⟨w12.heap.size, 1, none⟩ = some (.slice A12 ys.length c12)) := Lib.hid fun W hW => ⟨keepC hW ba00_w16, keepC hW ba01_w16, keepC hW ba10_w16, keepC hW ba11_w16, keepC hW bW00_w16, keepC hW bW01_w16, keepC hW bx000_w16, keepC hW bx001_w16, keepC hW bx100_w16, keepC hW bx101_w16, keepC hW bG00_w16, keepC hW bG01_w16⟩
  go_region_held3 (fun W => W.cell? ⟨w.heap.size, 0, none⟩ = some (.int .i64 n0) ∧ W.cell? ⟨w.heap.size, 1, none⟩ = some (.slice A0 xs0.length c0) ∧ W.cell? ⟨w.heap.size + 1, 0, none⟩ = some (.int .i64 n1) ∧ W.cell? ⟨w.heap.size + 1, 1, none⟩ = some (.slice A1 xs1.length c1) ∧ W.cell? ⟨gw7, 0, none⟩ = some (.int .i64 sd) ∧ W.cell? ⟨gw7, 1, none⟩ = some (.slice A7 ys.length c7) ∧ W.cell? ⟨w8.heap.size, 0, none⟩ = some (.int .i64 n0) ∧ W.cell? ⟨w8.heap.size, 1, none⟩ = some (.slice A8 xs0.length xs0.length) ∧ W.cell? ⟨w10.heap.size, 0, none⟩ = some (.int .i64 n1) ∧ W.cell? ⟨w10.heap.size, 1, none⟩ = some (.slice A10 xs1.length xs1.length) ∧ W.cell? ⟨w12.heap.size, 0, none⟩ = some (.int .i64 sd) ∧ W.cell? ⟨w12.heap.size, 1, none⟩ = some (.slice A12 ys.length c12))
    (first | exact hMk.out _ ((Below.refl _ _).drew) | exact hMk.out _ (by assumption))
    (first
      | (go_at_call 29; refine (HT1.out _ (h1.at_ HBw16.out.drew)).mono ?_; rintro e w17 ⟨A17, rfl, hownw17, hbw17⟩; have hkw17 : Below w16.heap.size w16 w17 := Below.trans (Below.refl _ _).drew hbw17)
      | (go_at_call 31; refine (HX1.out _ _ _ _ _ ((Rd.of_own OWX1w16.out).at_ hkw17) (Rd.of_own hownw17)).mono ?_; rintro e w18 ⟨rfl, hbw18⟩; have hkw18 : Below w16.heap.size w16 w18 := hkw17.trans (hbw18.mono hkw17.size)))
  obtain ⟨ba00_w18, ba01_w18, ba10_w18, ba11_w18, bW00_w18, bW01_w18, bx000_w18, bx001_w18, bx100_w18, bx101_w18, bG00_w18, bG01_w18⟩ := hMk.out _ hkw18
  have lb0w18 : w.heap.size < w18.heap.size := by have := hkw18.size; omega
  have lb1w18 : w.heap.size + 1 < w18.heap.size := by have := hkw18.size; omega
  have lb2w18 : gw7 < w18.heap.size := by have := hkw18.size; omega
  have lb3w18 : w8.heap.size < w18.heap.size := by have := hkw18.size; omega
  have lb4w18 : w10.heap.size < w18.heap.size := by have := hkw18.size; omega
  have lb5w18 : w12.heap.size < w18.heap.size := by have := hkw18.size; omega
  have OWWw18 := Lib.hid (own_below OWWw16.out hkw18)
  have OWX0w18 := Lib.hid (own_below OWX0w16.out hkw18)
  have OWX1w18 := Lib.hid (own_below OWX1w16.out hkw18)
  have OWGw18 := Lib.hid (own_below OWGw16.out hkw18)
  have HBw18 : Hid (Below w.heap.size w w18) := Lib.hid (HBw16.out.trans (hkw18.mono HBw16.out.size))
  have zw18 : w12.heap.size + 1 ≤ w18.heap.size := by have := hkw18.size; omega
  clear hMk ba00_w16 ba01_w16 ba10_w16 ba11_w16 bW00_w16 bW01_w16 bx000_w16 bx001_w16 bx100_w16 bx101_w16 bG00_w16 bG01_w16 hbw17 hkw17 hownw17 lb0w16 lb1w16 lb2w16 lb3w16 lb4w16 lb5w16 OWWw16 OWX0w16 OWX1w16 OWGw16 HBw16 zw16 hbw18 hkw18
  go_wp2_with fail
  refine (HMx0.out A8 _ _ w18 (by omega) OWX0w18.out).mono ?_
  rintro e w19 ⟨rfl, hownw19, hgw19⟩
  have ndw19 : ∀ k, (k < w7.heap.size ∨ w8.heap.size ≤ k) → some k ≠ (Value.slice A8 xs0.length xs0.length).ownBlock := fun k hk h => by have := OLX0.out _ h.symm; omega
  have lb0w19 : w.heap.size < w19.heap.size := by have := hgw19.size; omega
  have lb1w19 : w.heap.size + 1 < w19.heap.size := by have := hgw19.size; omega
  have lb2w19 : gw7 < w19.heap.size := by have := hgw19.size; omega
  have lb3w19 : w8.heap.size < w19.heap.size := by have := hgw19.size; omega
  have lb4w19 : w10.heap.size < w19.heap.size := by have := hgw19.size; omega
  have lb5w19 : w12.heap.size < w19.heap.size := by have := hgw19.size; omega
  have ba00_w19 : w19.cell? ⟨w.heap.size, 0, none⟩ = some (.int .i64 n0) := hgw19.cell ba00_w18 (ndw19 (w.heap.size) (by omega))
  have ba01_w19 : w19.cell? ⟨w.heap.size, 1, none⟩ = some (.slice A0 xs0.length c0) := hgw19.cell ba01_w18 (ndw19 (w.heap.size) (by omega))
  have ba10_w19 : w19.cell? ⟨w.heap.size + 1, 0, none⟩ = some (.int .i64 n1) := hgw19.cell ba10_w18 (ndw19 (w.heap.size + 1) (by omega))
  have ba11_w19 : w19.cell? ⟨w.heap.size + 1, 1, none⟩ = some (.slice A1 xs1.length c1) := hgw19.cell ba11_w18 (ndw19 (w.heap.size + 1) (by omega))
  have bW00_w19 : w19.cell? ⟨gw7, 0, none⟩ = some (.int .i64 sd) := hgw19.cell bW00_w18 (ndw19 (gw7) (by omega))
  have bW01_w19 : w19.cell? ⟨gw7, 1, none⟩ = some (.slice A7 ys.length c7) := hgw19.cell bW01_w18 (ndw19 (gw7) (by omega))
  have bx000_w19 : w19.cell? ⟨w8.heap.size, 0, none⟩ = some (.int .i64 n0) := hgw19.cell bx000_w18 (ndw19 (w8.heap.size) (by omega))
  have bx001_w19 : w19.cell? ⟨w8.heap.size, 1, none⟩ = some (.slice A8 xs0.length xs0.length) := hgw19.cell bx001_w18 (ndw19 (w8.heap.size) (by omega))
  have bx100_w19 : w19.cell? ⟨w10.heap.size, 0, none⟩ = some (.int .i64 n1) := hgw19.cell bx100_w18 (ndw19 (w10.heap.size) (by omega))
  have bx101_w19 : w19.cell? ⟨w10.heap.size, 1, none⟩ = some (.slice A10 xs1.length xs1.length) := hgw19.cell bx101_w18 (ndw19 (w10.heap.size) (by omega))
  have bG00_w19 : w19.cell? ⟨w12.heap.size, 0, none⟩ = some (.int .i64 sd) := hgw19.cell bG00_w18 (ndw19 (w12.heap.size) (by omega))
  have bG01_w19 : w19.cell? ⟨w12.heap.size, 1, none⟩ = some (.slice A12 ys.length c12) := hgw19.cell bG01_w18 (ndw19 (w12.heap.size) (by omega))
  have OWWw19 := Lib.hid (OWWw18.out.kept hgw19 (by
    cases hv : (Value.slice A7 ys.length c7).ownBlock with
    | none => exact .inl rfl
    | some k => exact .inr (ndw19 k (by have := OLW.out k hv; omega))))
  have OWX0w19 := Lib.hid hownw19
  have OWX1w19 := Lib.hid (OWX1w18.out.kept hgw19 (by
    cases hv : (Value.slice A10 xs1.length xs1.length).ownBlock with
    | none => exact .inl rfl
    | some k => exact .inr (ndw19 k (by have := OLX1.out k hv; omega))))
  have OWGw19 := Lib.hid (OWGw18.out.kept hgw19 (by
    cases hv : (Value.slice A12 ys.length c12).ownBlock with
    | none => exact .inl rfl
    | some k => exact .inr (ndw19 k (by have := OLG.out k hv; omega))))
  have HBw19 : Hid (Below w.heap.size w w19) := Lib.hid (HBw18.out.grown hgw19 HBw18.out.size (fun k hk => by have := (OLX0.out k hk).1; have := HBw18.out.size; omega))
  have zw19 : w12.heap.size + 1 ≤ w19.heap.size := by have := hgw19.size; omega
  clear ndw19 hgw19 hownw19 lb0w18 lb1w18 lb2w18 lb3w18 lb4w18 lb5w18 ba00_w18 ba01_w18 ba10_w18 ba11_w18 bW00_w18 bW01_w18 bx000_w18 bx001_w18 bx100_w18 bx101_w18 bG00_w18 bG01_w18 OWWw18 OWX0w18 OWX1w18 OWGw18 HBw18 zw18
  go_wp2_with fail
  refine (HMx1.out A10 _ _ w19 (by omega) OWX1w19.out).mono ?_
  rintro e w20 ⟨rfl, hownw20, hgw20⟩
  have ndw20 : ∀ k, (k < w9.heap.size ∨ w10.heap.size ≤ k) → some k ≠ (Value.slice A10 xs1.length xs1.length).ownBlock := fun k hk h => by have := OLX1.out _ h.symm; omega
  have lb0w20 : w.heap.size < w20.heap.size := by have := hgw20.size; omega
  have lb1w20 : w.heap.size + 1 < w20.heap.size := by have := hgw20.size; omega
  have lb2w20 : gw7 < w20.heap.size := by have := hgw20.size; omega
  have lb3w20 : w8.heap.size < w20.heap.size := by have := hgw20.size; omega
  have lb4w20 : w10.heap.size < w20.heap.size := by have := hgw20.size; omega
  have lb5w20 : w12.heap.size < w20.heap.size := by have := hgw20.size; omega
  have ba00_w20 : w20.cell? ⟨w.heap.size, 0, none⟩ = some (.int .i64 n0) := hgw20.cell ba00_w19 (ndw20 (w.heap.size) (by omega))
  have ba01_w20 : w20.cell? ⟨w.heap.size, 1, none⟩ = some (.slice A0 xs0.length c0) := hgw20.cell ba01_w19 (ndw20 (w.heap.size) (by omega))
  have ba10_w20 : w20.cell? ⟨w.heap.size + 1, 0, none⟩ = some (.int .i64 n1) := hgw20.cell ba10_w19 (ndw20 (w.heap.size + 1) (by omega))
  have ba11_w20 : w20.cell? ⟨w.heap.size + 1, 1, none⟩ = some (.slice A1 xs1.length c1) := hgw20.cell ba11_w19 (ndw20 (w.heap.size + 1) (by omega))
  have bW00_w20 : w20.cell? ⟨gw7, 0, none⟩ = some (.int .i64 sd) := hgw20.cell bW00_w19 (ndw20 (gw7) (by omega))
  have bW01_w20 : w20.cell? ⟨gw7, 1, none⟩ = some (.slice A7 ys.length c7) := hgw20.cell bW01_w19 (ndw20 (gw7) (by omega))
  have bx000_w20 : w20.cell? ⟨w8.heap.size, 0, none⟩ = some (.int .i64 n0) := hgw20.cell bx000_w19 (ndw20 (w8.heap.size) (by omega))
  have bx001_w20 : w20.cell? ⟨w8.heap.size, 1, none⟩ = some (.slice A8 xs0.length xs0.length) := hgw20.cell bx001_w19 (ndw20 (w8.heap.size) (by omega))
  have bx100_w20 : w20.cell? ⟨w10.heap.size, 0, none⟩ = some (.int .i64 n1) := hgw20.cell bx100_w19 (ndw20 (w10.heap.size) (by omega))
  have bx101_w20 : w20.cell? ⟨w10.heap.size, 1, none⟩ = some (.slice A10 xs1.length xs1.length) := hgw20.cell bx101_w19 (ndw20 (w10.heap.size) (by omega))
  have bG00_w20 : w20.cell? ⟨w12.heap.size, 0, none⟩ = some (.int .i64 sd) := hgw20.cell bG00_w19 (ndw20 (w12.heap.size) (by omega))
  have bG01_w20 : w20.cell? ⟨w12.heap.size, 1, none⟩ = some (.slice A12 ys.length c12) := hgw20.cell bG01_w19 (ndw20 (w12.heap.size) (by omega))
  have OWWw20 := Lib.hid (OWWw19.out.kept hgw20 (by
    cases hv : (Value.slice A7 ys.length c7).ownBlock with
    | none => exact .inl rfl
    | some k => exact .inr (ndw20 k (by have := OLW.out k hv; omega))))
  have OWX0w20 := Lib.hid (OWX0w19.out.kept hgw20 (by
    cases hv : (Value.slice A8 xs0.length xs0.length).ownBlock with
    | none => exact .inl rfl
    | some k => exact .inr (ndw20 k (by have := OLX0.out k hv; omega))))
  have OWX1w20 := Lib.hid hownw20
  have OWGw20 := Lib.hid (OWGw19.out.kept hgw20 (by
    cases hv : (Value.slice A12 ys.length c12).ownBlock with
    | none => exact .inl rfl
    | some k => exact .inr (ndw20 k (by have := OLG.out k hv; omega))))
  have HBw20 : Hid (Below w.heap.size w w20) := Lib.hid (HBw19.out.grown hgw20 HBw19.out.size (fun k hk => by have := (OLX1.out k hk).1; have := HBw19.out.size; omega))
  have zw20 : w12.heap.size + 1 ≤ w20.heap.size := by have := hgw20.size; omega
  clear ndw20 hgw20 hownw20 lb0w19 lb1w19 lb2w19 lb3w19 lb4w19 lb5w19 ba00_w19 ba01_w19 ba10_w19 ba11_w19 bW00_w19 bW01_w19 bx000_w19 bx001_w19 bx100_w19 bx101_w19 bG00_w19 bG01_w19 OWWw19 OWX0w19 OWX1w19 OWGw19 HBw19 zw19
  go_wp2_with fail
  refine (HE.out A12 A7 c12 c7 _ (Rd.of_own OWGw20.out) (Rd.of_own OWWw20.out)).mono ?_
  rintro e w21 ⟨rfl, hbw21⟩
  have lb0w21 : w.heap.size < w21.heap.size := by have := hbw21.size; omega
  have lb1w21 : w.heap.size + 1 < w21.heap.size := by have := hbw21.size; omega
  have lb2w21 : gw7 < w21.heap.size := by have := hbw21.size; omega
  have lb3w21 : w8.heap.size < w21.heap.size := by have := hbw21.size; omega
  have lb4w21 : w10.heap.size < w21.heap.size := by have := hbw21.size; omega
  have lb5w21 : w12.heap.size < w21.heap.size := by have := hbw21.size; omega
  have ba00_w21 : w21.cell? ⟨w.heap.size, 0, none⟩ = some (.int .i64 n0) := keepC hbw21 ba00_w20
  have ba01_w21 : w21.cell? ⟨w.heap.size, 1, none⟩ = some (.slice A0 xs0.length c0) := keepC hbw21 ba01_w20
  have ba10_w21 : w21.cell? ⟨w.heap.size + 1, 0, none⟩ = some (.int .i64 n1) := keepC hbw21 ba10_w20
  have ba11_w21 : w21.cell? ⟨w.heap.size + 1, 1, none⟩ = some (.slice A1 xs1.length c1) := keepC hbw21 ba11_w20
  have bW00_w21 : w21.cell? ⟨gw7, 0, none⟩ = some (.int .i64 sd) := keepC hbw21 bW00_w20
  have bW01_w21 : w21.cell? ⟨gw7, 1, none⟩ = some (.slice A7 ys.length c7) := keepC hbw21 bW01_w20
  have bx000_w21 : w21.cell? ⟨w8.heap.size, 0, none⟩ = some (.int .i64 n0) := keepC hbw21 bx000_w20
  have bx001_w21 : w21.cell? ⟨w8.heap.size, 1, none⟩ = some (.slice A8 xs0.length xs0.length) := keepC hbw21 bx001_w20
  have bx100_w21 : w21.cell? ⟨w10.heap.size, 0, none⟩ = some (.int .i64 n1) := keepC hbw21 bx100_w20
  have bx101_w21 : w21.cell? ⟨w10.heap.size, 1, none⟩ = some (.slice A10 xs1.length xs1.length) := keepC hbw21 bx101_w20
  have bG00_w21 : w21.cell? ⟨w12.heap.size, 0, none⟩ = some (.int .i64 sd) := keepC hbw21 bG00_w20
  have bG01_w21 : w21.cell? ⟨w12.heap.size, 1, none⟩ = some (.slice A12 ys.length c12) := keepC hbw21 bG01_w20
  have OWWw21 := Lib.hid (own_below OWWw20.out hbw21)
  have OWX0w21 := Lib.hid (own_below OWX0w20.out hbw21)
  have OWX1w21 := Lib.hid (own_below OWX1w20.out hbw21)
  have OWGw21 := Lib.hid (own_below OWGw20.out hbw21)
  have HBw21 : Hid (Below w.heap.size w w21) := Lib.hid (HBw20.out.trans (hbw21.mono HBw20.out.size))
  have zw21 : w12.heap.size + 1 ≤ w21.heap.size := by have := hbw21.size; omega
  clear lb0w20 lb1w20 lb2w20 lb3w20 lb4w20 lb5w20 ba00_w20 ba01_w20 ba10_w20 ba11_w20 bW00_w20 bW01_w20 bx000_w20 bx001_w20 bx100_w20 bx101_w20 bG00_w20 bG01_w20 OWWw20 OWX0w20 OWX1w20 OWGw20 HBw20 zw20 hbw21
  go_wp2_with fail
  refine (HM.out A12 _ _ w21 (by omega) OWGw21.out).mono ?_
  rintro e w22 ⟨rfl, hownw22, hgw22⟩
  have ndw22 : ∀ k, (k < w11.heap.size ∨ w12.heap.size ≤ k) → some k ≠ (Value.slice A12 ys.length c12).ownBlock := fun k hk h => by have := OLG.out _ h.symm; omega
  have lb0w22 : w.heap.size < w22.heap.size := by have := hgw22.size; omega
  have lb1w22 : w.heap.size + 1 < w22.heap.size := by have := hgw22.size; omega
  have lb2w22 : gw7 < w22.heap.size := by have := hgw22.size; omega
  have lb3w22 : w8.heap.size < w22.heap.size := by have := hgw22.size; omega
  have lb4w22 : w10.heap.size < w22.heap.size := by have := hgw22.size; omega
  have lb5w22 : w12.heap.size < w22.heap.size := by have := hgw22.size; omega
  have ba00_w22 : w22.cell? ⟨w.heap.size, 0, none⟩ = some (.int .i64 n0) := hgw22.cell ba00_w21 (ndw22 (w.heap.size) (by omega))
  have ba01_w22 : w22.cell? ⟨w.heap.size, 1, none⟩ = some (.slice A0 xs0.length c0) := hgw22.cell ba01_w21 (ndw22 (w.heap.size) (by omega))
  have ba10_w22 : w22.cell? ⟨w.heap.size + 1, 0, none⟩ = some (.int .i64 n1) := hgw22.cell ba10_w21 (ndw22 (w.heap.size + 1) (by omega))
  have ba11_w22 : w22.cell? ⟨w.heap.size + 1, 1, none⟩ = some (.slice A1 xs1.length c1) := hgw22.cell ba11_w21 (ndw22 (w.heap.size + 1) (by omega))
  have bW00_w22 : w22.cell? ⟨gw7, 0, none⟩ = some (.int .i64 sd) := hgw22.cell bW00_w21 (ndw22 (gw7) (by omega))
  have bW01_w22 : w22.cell? ⟨gw7, 1, none⟩ = some (.slice A7 ys.length c7) := hgw22.cell bW01_w21 (ndw22 (gw7) (by omega))
  have bx000_w22 : w22.cell? ⟨w8.heap.size, 0, none⟩ = some (.int .i64 n0) := hgw22.cell bx000_w21 (ndw22 (w8.heap.size) (by omega))
  have bx001_w22 : w22.cell? ⟨w8.heap.size, 1, none⟩ = some (.slice A8 xs0.length xs0.length) := hgw22.cell bx001_w21 (ndw22 (w8.heap.size) (by omega))
  have bx100_w22 : w22.cell? ⟨w10.heap.size, 0, none⟩ = some (.int .i64 n1) := hgw22.cell bx100_w21 (ndw22 (w10.heap.size) (by omega))
  have bx101_w22 : w22.cell? ⟨w10.heap.size, 1, none⟩ = some (.slice A10 xs1.length xs1.length) := hgw22.cell bx101_w21 (ndw22 (w10.heap.size) (by omega))
  have bG00_w22 : w22.cell? ⟨w12.heap.size, 0, none⟩ = some (.int .i64 sd) := hgw22.cell bG00_w21 (ndw22 (w12.heap.size) (by omega))
  have bG01_w22 : w22.cell? ⟨w12.heap.size, 1, none⟩ = some (.slice A12 ys.length c12) := hgw22.cell bG01_w21 (ndw22 (w12.heap.size) (by omega))
  have OWWw22 := Lib.hid (OWWw21.out.kept hgw22 (by
    cases hv : (Value.slice A7 ys.length c7).ownBlock with
    | none => exact .inl rfl
    | some k => exact .inr (ndw22 k (by have := OLW.out k hv; omega))))
  have OWX0w22 := Lib.hid (OWX0w21.out.kept hgw22 (by
    cases hv : (Value.slice A8 xs0.length xs0.length).ownBlock with
    | none => exact .inl rfl
    | some k => exact .inr (ndw22 k (by have := OLX0.out k hv; omega))))
  have OWX1w22 := Lib.hid (OWX1w21.out.kept hgw22 (by
    cases hv : (Value.slice A10 xs1.length xs1.length).ownBlock with
    | none => exact .inl rfl
    | some k => exact .inr (ndw22 k (by have := OLX1.out k hv; omega))))
  have OWGw22 := Lib.hid hownw22
  have HBw22 : Hid (Below w.heap.size w w22) := Lib.hid (HBw21.out.grown hgw22 HBw21.out.size (fun k hk => by have := (OLG.out k hk).1; have := HBw21.out.size; omega))
  have zw22 : w12.heap.size + 1 ≤ w22.heap.size := by have := hgw22.size; omega
  clear ndw22 hgw22 hownw22 lb0w21 lb1w21 lb2w21 lb3w21 lb4w21 lb5w21 ba00_w21 ba01_w21 ba10_w21 ba11_w21 bW00_w21 bW01_w21 bx000_w21 bx001_w21 bx100_w21 bx101_w21 bG00_w21 bG01_w21 OWWw21 OWX0w21 OWX1w21 OWGw21 HBw21 zw21
  go_wp2_with fail
  refine (HH.out A12 c12 _ (Rd.of_own OWGw22.out)).mono ?_
  rintro e w23 ⟨rfl, hbw23⟩
  have lb0w23 : w.heap.size < w23.heap.size := by have := hbw23.size; omega
  have lb1w23 : w.heap.size + 1 < w23.heap.size := by have := hbw23.size; omega
  have lb2w23 : gw7 < w23.heap.size := by have := hbw23.size; omega
  have lb3w23 : w8.heap.size < w23.heap.size := by have := hbw23.size; omega
  have lb4w23 : w10.heap.size < w23.heap.size := by have := hbw23.size; omega
  have lb5w23 : w12.heap.size < w23.heap.size := by have := hbw23.size; omega
  have ba00_w23 : w23.cell? ⟨w.heap.size, 0, none⟩ = some (.int .i64 n0) := keepC hbw23 ba00_w22
  have ba01_w23 : w23.cell? ⟨w.heap.size, 1, none⟩ = some (.slice A0 xs0.length c0) := keepC hbw23 ba01_w22
  have ba10_w23 : w23.cell? ⟨w.heap.size + 1, 0, none⟩ = some (.int .i64 n1) := keepC hbw23 ba10_w22
  have ba11_w23 : w23.cell? ⟨w.heap.size + 1, 1, none⟩ = some (.slice A1 xs1.length c1) := keepC hbw23 ba11_w22
  have bW00_w23 : w23.cell? ⟨gw7, 0, none⟩ = some (.int .i64 sd) := keepC hbw23 bW00_w22
  have bW01_w23 : w23.cell? ⟨gw7, 1, none⟩ = some (.slice A7 ys.length c7) := keepC hbw23 bW01_w22
  have bx000_w23 : w23.cell? ⟨w8.heap.size, 0, none⟩ = some (.int .i64 n0) := keepC hbw23 bx000_w22
  have bx001_w23 : w23.cell? ⟨w8.heap.size, 1, none⟩ = some (.slice A8 xs0.length xs0.length) := keepC hbw23 bx001_w22
  have bx100_w23 : w23.cell? ⟨w10.heap.size, 0, none⟩ = some (.int .i64 n1) := keepC hbw23 bx100_w22
  have bx101_w23 : w23.cell? ⟨w10.heap.size, 1, none⟩ = some (.slice A10 xs1.length xs1.length) := keepC hbw23 bx101_w22
  have bG00_w23 : w23.cell? ⟨w12.heap.size, 0, none⟩ = some (.int .i64 sd) := keepC hbw23 bG00_w22
  have bG01_w23 : w23.cell? ⟨w12.heap.size, 1, none⟩ = some (.slice A12 ys.length c12) := keepC hbw23 bG01_w22
  have OWWw23 := Lib.hid (own_below OWWw22.out hbw23)
  have OWX0w23 := Lib.hid (own_below OWX0w22.out hbw23)
  have OWX1w23 := Lib.hid (own_below OWX1w22.out hbw23)
  have OWGw23 := Lib.hid (own_below OWGw22.out hbw23)
  have HBw23 : Hid (Below w.heap.size w w23) := Lib.hid (HBw22.out.trans (hbw23.mono HBw22.out.size))
  have zw23 : w12.heap.size + 1 ≤ w23.heap.size := by have := hbw23.size; omega
  clear lb0w22 lb1w22 lb2w22 lb3w22 lb4w22 lb5w22 ba00_w22 ba01_w22 ba10_w22 ba11_w22 bW00_w22 bW01_w22 bx000_w22 bx001_w22 bx100_w22 bx101_w22 bG00_w22 bG01_w22 OWWw22 OWX0w22 OWX1w22 OWGw22 HBw22 zw22 hbw23
  go_wp2_with fail
  go_upto_region 31 with fail
  have hMk : Hid (∀ W, Below w23.heap.size w23 W → W.cell? ⟨w.heap.size, 0, none⟩ = some (.int .i64 n0) ∧ W.cell? ⟨w.heap.size, 1, none⟩ = some (.slice A0 xs0.length c0) ∧ W.cell? ⟨w.heap.size + 1, 0, none⟩ = some (.int .i64 n1) ∧ W.cell? ⟨w.heap.size + 1, 1, none⟩ = some (.slice A1 xs1.length c1) ∧ W.cell? ⟨gw7, 0, none⟩ = some (.int .i64 sd) ∧ W.cell? ⟨gw7, 1, none⟩ = some (.slice A7 ys.length c7) ∧ W.cell? ⟨w8.heap.size, 0, none⟩ = some (.int .i64 n0) ∧ W.cell? ⟨w8.heap.size, 1, none⟩ = some (.slice A8 xs0.length xs0.length) ∧ W.cell? ⟨w10.heap.size, 0, none⟩ = some (.int .i64 n1) ∧ W.cell? ⟨w10.heap.size, 1, none⟩ = some (.slice A10 xs1.length xs1.length) ∧ W.cell? ⟨w12.heap.size, 0, none⟩ = some (.int .i64 sd) ∧ W.cell? ⟨w12.heap.size, 1, none⟩ = some (.slice A12 ys.length c12)) := Lib.hid fun W hW => ⟨keepC hW ba00_w23, keepC hW ba01_w23, keepC hW ba10_w23, keepC hW ba11_w23, keepC hW bW00_w23, keepC hW bW01_w23, keepC hW bx000_w23, keepC hW bx001_w23, keepC hW bx100_w23, keepC hW bx101_w23, keepC hW bG00_w23, keepC hW bG01_w23⟩
  go_cut [15, 16] (fun s15 s16 wx => ∃ g A c, s15 = .pointer (some ⟨g, 0, none⟩) ∧ s16 = .bool ok ∧ wx.cell? ⟨g, 0, none⟩ = some (.int .i64 sd) ∧ wx.cell? ⟨g, 1, none⟩ = some (.slice A ys.length c) ∧ wx.ownsRow w23.heap.size 33 1 (.slice A ys.length c) ys.length (fl ys) ∧ Below w23.heap.size w23 wx ∧ w23.heap.size ≤ g ∧ g < wx.heap.size ∧ (∀ k, (Value.slice A ys.length c).ownBlock = some k → g ≠ k))
  case first =>
    go_region_held3 (fun W => W.cell? ⟨w.heap.size, 0, none⟩ = some (.int .i64 n0) ∧ W.cell? ⟨w.heap.size, 1, none⟩ = some (.slice A0 xs0.length c0) ∧ W.cell? ⟨w.heap.size + 1, 0, none⟩ = some (.int .i64 n1) ∧ W.cell? ⟨w.heap.size + 1, 1, none⟩ = some (.slice A1 xs1.length c1) ∧ W.cell? ⟨gw7, 0, none⟩ = some (.int .i64 sd) ∧ W.cell? ⟨gw7, 1, none⟩ = some (.slice A7 ys.length c7) ∧ W.cell? ⟨w8.heap.size, 0, none⟩ = some (.int .i64 n0) ∧ W.cell? ⟨w8.heap.size, 1, none⟩ = some (.slice A8 xs0.length xs0.length) ∧ W.cell? ⟨w10.heap.size, 0, none⟩ = some (.int .i64 n1) ∧ W.cell? ⟨w10.heap.size, 1, none⟩ = some (.slice A10 xs1.length xs1.length) ∧ W.cell? ⟨w12.heap.size, 0, none⟩ = some (.int .i64 sd) ∧ W.cell? ⟨w12.heap.size, 1, none⟩ = some (.slice A12 ys.length c12))
      (first | exact hMk.out _ (by repeat (first | assumption | exact Below.refl _ _ | refine below_al ?_ _ | refine below_dr ?_ | refine below_dn ?_ _ | refine below_set ?_ _ _ (by first | exact Nat.le_refl _ | (simp; done) | (simp; omega)))))
      (first
        | (go_at_call_of 29 n0; refine (HT0.out _ (h0.at_ (below_next HBw23.out (by repeat (first | assumption | exact Below.refl _ _ | refine below_al ?_ _ | refine below_dr ?_ | refine below_dn ?_ _ | refine below_set ?_ _ _ (by first | exact Nat.le_refl _ | (simp; done) | (simp; omega))))))).mono ?_; rintro e w24 ⟨A24, rfl, hownw24, hbw24⟩; have rdw24 := Rd.of_own hownw24; have hkw24 : Below w23.heap.size w23 w24 := below_next (by repeat (first | assumption | exact Below.refl _ _ | refine below_al ?_ _ | refine below_dr ?_ | refine below_dn ?_ _ | refine below_set ?_ _ _ (by first | exact Nat.le_refl _ | (simp; done) | (simp; omega)))) hbw24; have hsw24 : w23.heap.size ≤ w24.heap.size := hkw24.size; (try (have ltw23_w24 : w23.heap.size < w24.heap.size := (by first | (have := hbw24.size; simp at this; omega) | (have := hbw24.size; omega)); have q0w23_w24 : w24.cell? ⟨w23.heap.size, 0, none⟩ = some (.int .i64 0) := keepC hbw24 (by first | assumption | (simp [go_sem]; done)); have q1w23_w24 : w24.cell? ⟨w23.heap.size, 1, none⟩ = some (.slice none 0 0) := keepC hbw24 (by first | assumption | (simp [go_sem]; done)); have fzw23_w24 : ∀ o, w24.frozen? ⟨w23.heap.size, o, none⟩ = false := fun o => (hbw24.frozen (p := ⟨w23.heap.size, o, none⟩) (by first | (show _ < _; omega) | (simp; done) | (simp; omega))).trans (by first | (simp [go_sem]; done) | (simp [*]; done)))))
        | (go_at_call_of 29 n1; refine (HT1.out _ (h1.at_ (below_next HBw23.out (by repeat (first | assumption | exact Below.refl _ _ | refine below_al ?_ _ | refine below_dr ?_ | refine below_dn ?_ _ | refine below_set ?_ _ _ (by first | exact Nat.le_refl _ | (simp; done) | (simp; omega))))))).mono ?_; rintro e w25 ⟨A25, rfl, hownw25, hbw25⟩; have rdw25 := Rd.of_own hownw25; have hkw25 : Below w23.heap.size w23 w25 := below_next (by repeat (first | assumption | exact Below.refl _ _ | refine below_al ?_ _ | refine below_dr ?_ | refine below_dn ?_ _ | refine below_set ?_ _ _ (by first | exact Nat.le_refl _ | (simp; done) | (simp; omega)))) hbw25; have hsw25 : w23.heap.size ≤ w25.heap.size := hkw25.size; have hw24_w25 : Below w24.heap.size w24 w25 := below_next (by repeat (first | assumption | exact Below.refl _ _ | refine below_al ?_ _ | refine below_dr ?_ | refine below_dn ?_ _ | refine below_set ?_ _ _ (by first | exact Nat.le_refl _ | (simp; done) | (simp; omega)))) hbw25; (try (have ltw23_w25 : w23.heap.size < w25.heap.size := (by first | (have := hbw25.size; simp at this; omega) | (have := hbw25.size; omega)); have q0w23_w25 : w25.cell? ⟨w23.heap.size, 0, none⟩ = some (.int .i64 0) := keepC hbw25 (by first | assumption | (simp [go_sem]; done)); have q1w23_w25 : w25.cell? ⟨w23.heap.size, 1, none⟩ = some (.slice none 0 0) := keepC hbw25 (by first | assumption | (simp [go_sem]; done)); have fzw23_w25 : ∀ o, w25.frozen? ⟨w23.heap.size, o, none⟩ = false := fun o => (hbw25.frozen (p := ⟨w23.heap.size, o, none⟩) (by first | (show _ < _; omega) | (simp; done) | (simp; omega))).trans (by first | (simp [go_sem]; done) | (simp [*]; done)))); (try (have ltw24_w25 : w24.heap.size < w25.heap.size := (by first | (have := hbw25.size; simp at this; omega) | (have := hbw25.size; omega)); have q0w24_w25 : w25.cell? ⟨w24.heap.size, 0, none⟩ = some (.int .i64 0) := keepC hbw25 (by first | assumption | (simp [go_sem]; done)); have q1w24_w25 : w25.cell? ⟨w24.heap.size, 1, none⟩ = some (.slice none 0 0) := keepC hbw25 (by first | assumption | (simp [go_sem]; done)); have fzw24_w25 : ∀ o, w25.frozen? ⟨w24.heap.size, o, none⟩ = false := fun o => (hbw25.frozen (p := ⟨w24.heap.size, o, none⟩) (by first | (show _ < _; omega) | (simp; done) | (simp; omega))).trans (by first | (simp [go_sem]; done) | (simp [*]; done)))))
        | (go_at_call 46; refine (HI.out A24 A25 _ (rdw24.at_ (by repeat (first | assumption | exact Below.refl _ _ | refine below_al ?_ _ | refine below_dr ?_ | refine below_dn ?_ _ | refine below_set ?_ _ _ (by first | exact Nat.le_refl _ | (simp; done) | (simp; omega))))) (rdw25.at_ (by repeat (first | assumption | exact Below.refl _ _ | refine below_al ?_ _ | refine below_dr ?_ | refine below_dn ?_ _ | refine below_set ?_ _ _ (by first | exact Nat.le_refl _ | (simp; done) | (simp; omega)))))).mono ?_; rintro e w26 ⟨A26, c26, rfl, hownw26, hbw26⟩; have hkw26 : Below w23.heap.size w23 w26 := below_next (by repeat (first | assumption | exact Below.refl _ _ | refine below_al ?_ _ | refine below_dr ?_ | refine below_dn ?_ _ | refine below_set ?_ _ _ (by first | exact Nat.le_refl _ | (simp; done) | (simp; omega)))) hbw26; have hsw26 : w23.heap.size ≤ w26.heap.size := hkw26.size; have hw24_w26 : Below w24.heap.size w24 w26 := below_next (by repeat (first | assumption | exact Below.refl _ _ | refine below_al ?_ _ | refine below_dr ?_ | refine below_dn ?_ _ | refine below_set ?_ _ _ (by first | exact Nat.le_refl _ | (simp; done) | (simp; omega)))) hbw26; have hw25_w26 : Below w25.heap.size w25 w26 := below_next (by repeat (first | assumption | exact Below.refl _ _ | refine below_al ?_ _ | refine below_dr ?_ | refine below_dn ?_ _ | refine below_set ?_ _ _ (by first | exact Nat.le_refl _ | (simp; done) | (simp; omega)))) hbw26; (try (have ltw23_w26 : w23.heap.size < w26.heap.size := (by first | (have := hbw26.size; simp at this; omega) | (have := hbw26.size; omega)); have q0w23_w26 : w26.cell? ⟨w23.heap.size, 0, none⟩ = some (.int .i64 0) := keepC hbw26 (by first | assumption | (simp [go_sem]; done)); have q1w23_w26 : w26.cell? ⟨w23.heap.size, 1, none⟩ = some (.slice none 0 0) := keepC hbw26 (by first | assumption | (simp [go_sem]; done)); have fzw23_w26 : ∀ o, w26.frozen? ⟨w23.heap.size, o, none⟩ = false := fun o => (hbw26.frozen (p := ⟨w23.heap.size, o, none⟩) (by first | (show _ < _; omega) | (simp; done) | (simp; omega))).trans (by first | (simp [go_sem]; done) | (simp [*]; done)))); (try (have ltw24_w26 : w24.heap.size < w26.heap.size := (by first | (have := hbw26.size; simp at this; omega) | (have := hbw26.size; omega)); have q0w24_w26 : w26.cell? ⟨w24.heap.size, 0, none⟩ = some (.int .i64 0) := keepC hbw26 (by first | assumption | (simp [go_sem]; done)); have q1w24_w26 : w26.cell? ⟨w24.heap.size, 1, none⟩ = some (.slice none 0 0) := keepC hbw26 (by first | assumption | (simp [go_sem]; done)); have fzw24_w26 : ∀ o, w26.frozen? ⟨w24.heap.size, o, none⟩ = false := fun o => (hbw26.frozen (p := ⟨w24.heap.size, o, none⟩) (by first | (show _ < _; omega) | (simp; done) | (simp; omega))).trans (by first | (simp [go_sem]; done) | (simp [*]; done)))); (try (have ltw25_w26 : w25.heap.size < w26.heap.size := (by first | (have := hbw26.size; simp at this; omega) | (have := hbw26.size; omega)); have q0w25_w26 : w26.cell? ⟨w25.heap.size, 0, none⟩ = some (.int .i64 0) := keepC hbw26 (by first | assumption | (simp [go_sem]; done)); have q1w25_w26 : w26.cell? ⟨w25.heap.size, 1, none⟩ = some (.slice none 0 0) := keepC hbw26 (by first | assumption | (simp [go_sem]; done)); have fzw25_w26 : ∀ o, w26.frozen? ⟨w25.heap.size, o, none⟩ = false := fun o => (hbw26.frozen (p := ⟨w25.heap.size, o, none⟩) (by first | (show _ < _; omega) | (simp; done) | (simp; omega))).trans (by first | (simp [go_sem]; done) | (simp [*]; done))))))
    all_goals (go_wp2_with fail; go_meet; exact ⟨_, A26, c26, rfl, rfl, (by first | (simp [go_sem]; done) | (simp [go_sem, q0w23_w26, q1w23_w26]; done) | (simp [go_sem, q0w24_w26, q1w24_w26]; done) | (simp [go_sem, q0w25_w26, q1w25_w26]; done)), (by first | (simp [go_sem]; done) | (simp [go_sem, q0w23_w26, q1w23_w26]; done) | (simp [go_sem, q0w24_w26, q1w24_w26]; done) | (simp [go_sem, q0w25_w26, q1w25_w26]; done)), (by first | exact own_base (hownw26.alloc _) (by first | omega | (simp; done) | (simp; omega)) | exact own_base (ownsRow_setCell_below (ownsRow_setCell_below (hownw26) (by first | (simp; done) | (simp; omega) | (show _ < _; omega)) _) (by first | (simp; done) | (simp; omega) | (show _ < _; omega)) _) (by first | omega | (simp; done) | (simp; omega))), (by repeat (first | assumption | exact Below.refl _ _ | refine below_al ?_ _ | refine below_dr ?_ | refine below_dn ?_ _ | refine below_set ?_ _ _ (by first | exact Nat.le_refl _ | (simp; done) | (simp; omega)))), (by omega), (by first | omega | (simp; done) | (simp; omega)), (fun k hk => by have h1 := (hownw26.lt k hk).1; have h2 := (hownw26.lt k hk).2; (first | omega | (simp at h1; omega)))⟩)
  rename World => w27
  obtain ⟨gw27, A27, c27, rfl, rfl, bV00_w27, bV01_w27, hownw27, hkw27, low27, hiw27, new27⟩ := hcut
  obtain ⟨ba00_w27, ba01_w27, ba10_w27, ba11_w27, bW00_w27, bW01_w27, bx000_w27, bx001_w27, bx100_w27, bx101_w27, bG00_w27, bG01_w27⟩ := hMk.out _ hkw27
  have lb0w27 : w.heap.size < w27.heap.size := by have := hkw27.size; omega
  have lb1w27 : w.heap.size + 1 < w27.heap.size := by have := hkw27.size; omega
  have lb2w27 : gw7 < w27.heap.size := by have := hkw27.size; omega
  have lb3w27 : w8.heap.size < w27.heap.size := by have := hkw27.size; omega
  have lb4w27 : w10.heap.size < w27.heap.size := by have := hkw27.size; omega
  have lb5w27 : w12.heap.size < w27.heap.size := by have := hkw27.size; omega
  have OWWw27 := Lib.hid (own_below OWWw23.out hkw27)
  have OWX0w27 := Lib.hid (own_below OWX0w23.out hkw27)
  have OWX1w27 := Lib.hid (own_below OWX1w23.out hkw27)
  have OWGw27 := Lib.hid (own_below OWGw23.out hkw27)
  have HBw27 : Hid (Below w.heap.size w w27) := Lib.hid (HBw23.out.trans (hkw27.mono HBw23.out.size))
  have rw27 : w23.heap.size ≤ w27.heap.size := hkw27.size
  have OLV : Hid (∀ k, (Value.slice A27 ys.length c27).ownBlock = some k → w23.heap.size ≤ k ∧ k < w27.heap.size ∧ gw27 ≠ k) := Lib.hid fun k hk => ⟨(hownw27.lt k hk).1, (hownw27.lt k hk).2, new27 k hk⟩
  have OWVw27 := Lib.hid hownw27
  have lb99w27 : gw27 < w27.heap.size := hiw27
  clear hMk ba00_w23 ba01_w23 ba10_w23 ba11_w23 bW00_w23 bW01_w23 bx000_w23 bx001_w23 bx100_w23 bx101_w23 bG00_w23 bG01_w23 lb0w23 lb1w23 lb2w23 lb3w23 lb4w23 lb5w23 OWWw23 OWX0w23 OWX1w23 OWGw23 HBw23 hownw27 new27 hkw27
  go_wp2_with fail
  refine (HE.out A27 A7 c27 c7 _ (Rd.of_own OWVw27.out) (Rd.of_own OWWw27.out)).mono ?_
  rintro e w28 ⟨rfl, hbw28⟩
  have lb0w28 : w.heap.size < w28.heap.size := by have := hbw28.size; omega
  have lb1w28 : w.heap.size + 1 < w28.heap.size := by have := hbw28.size; omega
  have lb2w28 : gw7 < w28.heap.size := by have := hbw28.size; omega
  have lb3w28 : w8.heap.size < w28.heap.size := by have := hbw28.size; omega
  have lb4w28 : w10.heap.size < w28.heap.size := by have := hbw28.size; omega
  have lb5w28 : w12.heap.size < w28.heap.size := by have := hbw28.size; omega
  have lb6w28 : gw27 < w28.heap.size := by have := hbw28.size; omega
  have ba00_w28 : w28.cell? ⟨w.heap.size, 0, none⟩ = some (.int .i64 n0) := keepC hbw28 ba00_w27
  have ba01_w28 : w28.cell? ⟨w.heap.size, 1, none⟩ = some (.slice A0 xs0.length c0) := keepC hbw28 ba01_w27
  have ba10_w28 : w28.cell? ⟨w.heap.size + 1, 0, none⟩ = some (.int .i64 n1) := keepC hbw28 ba10_w27
  have ba11_w28 : w28.cell? ⟨w.heap.size + 1, 1, none⟩ = some (.slice A1 xs1.length c1) := keepC hbw28 ba11_w27
  have bW00_w28 : w28.cell? ⟨gw7, 0, none⟩ = some (.int .i64 sd) := keepC hbw28 bW00_w27
  have bW01_w28 : w28.cell? ⟨gw7, 1, none⟩ = some (.slice A7 ys.length c7) := keepC hbw28 bW01_w27
  have bx000_w28 : w28.cell? ⟨w8.heap.size, 0, none⟩ = some (.int .i64 n0) := keepC hbw28 bx000_w27
  have bx001_w28 : w28.cell? ⟨w8.heap.size, 1, none⟩ = some (.slice A8 xs0.length xs0.length) := keepC hbw28 bx001_w27
  have bx100_w28 : w28.cell? ⟨w10.heap.size, 0, none⟩ = some (.int .i64 n1) := keepC hbw28 bx100_w27
  have bx101_w28 : w28.cell? ⟨w10.heap.size, 1, none⟩ = some (.slice A10 xs1.length xs1.length) := keepC hbw28 bx101_w27
  have bG00_w28 : w28.cell? ⟨w12.heap.size, 0, none⟩ = some (.int .i64 sd) := keepC hbw28 bG00_w27
  have bG01_w28 : w28.cell? ⟨w12.heap.size, 1, none⟩ = some (.slice A12 ys.length c12) := keepC hbw28 bG01_w27
  have bV00_w28 : w28.cell? ⟨gw27, 0, none⟩ = some (.int .i64 sd) := keepC hbw28 bV00_w27
  have bV01_w28 : w28.cell? ⟨gw27, 1, none⟩ = some (.slice A27 ys.length c27) := keepC hbw28 bV01_w27
  have OWWw28 := Lib.hid (own_below OWWw27.out hbw28)
  have OWX0w28 := Lib.hid (own_below OWX0w27.out hbw28)
  have OWX1w28 := Lib.hid (own_below OWX1w27.out hbw28)
  have OWGw28 := Lib.hid (own_below OWGw27.out hbw28)
  have OWVw28 := Lib.hid (own_below OWVw27.out hbw28)
  have HBw28 : Hid (Below w.heap.size w w28) := Lib.hid (HBw27.out.trans (hbw28.mono HBw27.out.size))
  have zw28 : w27.heap.size ≤ w28.heap.size := by have := hbw28.size; omega
  clear lb0w27 lb1w27 lb2w27 lb3w27 lb4w27 lb5w27 lb99w27 ba00_w27 ba01_w27 ba10_w27 ba11_w27 bW00_w27 bW01_w27 bx000_w27 bx001_w27 bx100_w27 bx101_w27 bG00_w27 bG01_w27 bV00_w27 bV01_w27 OWWw27 OWX0w27 OWX1w27 OWGw27 OWVw27 HBw27 hbw28
  go_wp2_with fail
  refine (HH.out A12 c12 _ (Rd.of_own OWGw28.out)).mono ?_
  rintro e w29 ⟨rfl, hbw29⟩
  have lb0w29 : w.heap.size < w29.heap.size := by have := hbw29.size; omega
  have lb1w29 : w.heap.size + 1 < w29.heap.size := by have := hbw29.size; omega
  have lb2w29 : gw7 < w29.heap.size := by have := hbw29.size; omega
  have lb3w29 : w8.heap.size < w29.heap.size := by have := hbw29.size; omega
  have lb4w29 : w10.heap.size < w29.heap.size := by have := hbw29.size; omega
  have lb5w29 : w12.heap.size < w29.heap.size := by have := hbw29.size; omega
  have lb6w29 : gw27 < w29.heap.size := by have := hbw29.size; omega
  have ba00_w29 : w29.cell? ⟨w.heap.size, 0, none⟩ = some (.int .i64 n0) := keepC hbw29 ba00_w28
  have ba01_w29 : w29.cell? ⟨w.heap.size, 1, none⟩ = some (.slice A0 xs0.length c0) := keepC hbw29 ba01_w28
  have ba10_w29 : w29.cell? ⟨w.heap.size + 1, 0, none⟩ = some (.int .i64 n1) := keepC hbw29 ba10_w28
  have ba11_w29 : w29.cell? ⟨w.heap.size + 1, 1, none⟩ = some (.slice A1 xs1.length c1) := keepC hbw29 ba11_w28
  have bW00_w29 : w29.cell? ⟨gw7, 0, none⟩ = some (.int .i64 sd) := keepC hbw29 bW00_w28
  have bW01_w29 : w29.cell? ⟨gw7, 1, none⟩ = some (.slice A7 ys.length c7) := keepC hbw29 bW01_w28
  have bx000_w29 : w29.cell? ⟨w8.heap.size, 0, none⟩ = some (.int .i64 n0) := keepC hbw29 bx000_w28
  have bx001_w29 : w29.cell? ⟨w8.heap.size, 1, none⟩ = some (.slice A8 xs0.length xs0.length) := keepC hbw29 bx001_w28
  have bx100_w29 : w29.cell? ⟨w10.heap.size, 0, none⟩ = some (.int .i64 n1) := keepC hbw29 bx100_w28
  have bx101_w29 : w29.cell? ⟨w10.heap.size, 1, none⟩ = some (.slice A10 xs1.length xs1.length) := keepC hbw29 bx101_w28
  have bG00_w29 : w29.cell? ⟨w12.heap.size, 0, none⟩ = some (.int .i64 sd) := keepC hbw29 bG00_w28
  have bG01_w29 : w29.cell? ⟨w12.heap.size, 1, none⟩ = some (.slice A12 ys.length c12) := keepC hbw29 bG01_w28
  have bV00_w29 : w29.cell? ⟨gw27, 0, none⟩ = some (.int .i64 sd) := keepC hbw29 bV00_w28
  have bV01_w29 : w29.cell? ⟨gw27, 1, none⟩ = some (.slice A27 ys.length c27) := keepC hbw29 bV01_w28
  have OWWw29 := Lib.hid (own_below OWWw28.out hbw29)
  have OWX0w29 := Lib.hid (own_below OWX0w28.out hbw29)
  have OWX1w29 := Lib.hid (own_below OWX1w28.out hbw29)
  have OWGw29 := Lib.hid (own_below OWGw28.out hbw29)
  have OWVw29 := Lib.hid (own_below OWVw28.out hbw29)
  have HBw29 : Hid (Below w.heap.size w w29) := Lib.hid (HBw28.out.trans (hbw29.mono HBw28.out.size))
  have zw29 : w27.heap.size ≤ w29.heap.size := by have := hbw29.size; omega
  clear lb0w28 lb1w28 lb2w28 lb3w28 lb4w28 lb5w28 lb6w28 ba00_w28 ba01_w28 ba10_w28 ba11_w28 bW00_w28 bW01_w28 bx000_w28 bx001_w28 bx100_w28 bx101_w28 bG00_w28 bG01_w28 bV00_w28 bV01_w28 OWWw28 OWX0w28 OWX1w28 OWGw28 OWVw28 HBw28 zw28 hbw29
  go_wp2_with fail
  go_ret
  exact ⟨rfl, HBw29.out⟩

set_option maxRecDepth 100000 in
theorem lifted (os : Os) (started : os.Started) (H : Type) (enc : TypeId × Value → H) :
    ReturnsInHanded {} Try.checked os 10 .any (Rows.fnExactJoinChainsSpec.pre6 enc Try.prog Try.f10 Rows.fnExactJoinChainsRow.domain false) (Rows.fnExactJoinChainsSpec.post enc Try.prog Try.f10 false true false false) := by
  refine returnsInHanded_of_change (C := Try.checked) own started (by kernel_rfl) Try.func10
    (ChangeSpec.witness6 (enc := enc) (C := Try.checked) false ⟨#[], #[.agg #[.int .i64 0, .slice none 0 0], .agg #[.int .i64 0, .slice none 0 0]], []⟩ 8 (by kernel_rfl) (by kernel_rfl) (by kernel_rfl) (by kernel_rfl)) ?_
  intro W base args ds gs before hval0 hW hcnd _
  have hval : ∀ (j : Nat) t v, Try.f10.params[j]? = some t → args[j]? = some v → Value.okWide Try.prog W .any base t v := hval0
  have hW' := hW
  have hlt : ∀ p ∈ before, p.block < W.heap.size := fun p hp => hW.lt p hp
  obtain ⟨p, q, hA0, hV, rfl, hfz, hnd⟩ := hW
  have hA : DataW.TrodAll enc Try.prog W 0 (fun _ => true) true Try.f10.params.toList args.toList ds p := hA0
  rw [Try.params10] at hA hval
  have hA1 := hA
  obtain ⟨v0, vs0, d0, ds0, p0, q0, hargs, rfl, rfl, h0, r0⟩ := trodAll_cons hA
  obtain ⟨v1, vs1, d1, ds1, p1, q1, rfl, rfl, rfl, h1, r1⟩ := trodAll_cons r0
  obtain ⟨rfl, rfl, rfl⟩ := trodAll_nil r1
  obtain rfl : args = #[v0, v1] := by cases args; simp_all
  obtain ⟨rfl, rfl⟩ := trodVars_none hV
  obtain ⟨n0, A0, xs0, c0, rfl, bd0, hx0, hr0, bf0⟩ := open_chain (hval 0 _ _ rfl rfl) h0
  obtain ⟨n1, A1, xs1, c1, rfl, bd1, hx1, hr1, bf1⟩ := open_chain (hval 1 _ _ rfl rfl) h1
  clear hA0 hval0
  refine (walk n0 A0 xs0 c0 n1 A1 xs1 c1 W hr0 hx0 bd0 bf0 hr1 hx1 bd1 bf1).mono fun e W' ⟨he, hb⟩ => ?_
  subst he
  rw [List.append_nil] at hW' hlt
  exact ⟨_, rfl, post_of_below (pa := _) (pv := []) hW' (fun _ _ _ => (trodAll_cons_mk (shut_bool Try.underlying4 _) trodAll_mk0))
    (fun sp hsp => trodAll_below cl_laid hb _ _ _ _ (by kernel_rfl) hA1 hlt hsp) (fun _ _ => rfl) (List.append_nil _).symm hb (ok_one (by kernel_rfl) rfl (okWide_bool_mk Try.underlying4 _))⟩

theorem g0 : Try.prog.funcNamed Rows.fnExactJoinChainsRow.func = some 10 := by kernel_rfl
theorem g1 : Rows.fnExactJoinChainsRow.inPlace = Try.prog.inPlace 10 := by kernel_rfl
theorem g2 : Rows.fnExactJoinChainsRow.unfollowed = Try.prog.unfollowed 10 := by kernel_rfl
theorem g3 : Rows.fnExactJoinChainsRow.recurses = Try.prog.recurses 10 := by kernel_rfl
theorem g4 : Rows.fnExactJoinChainsRow.named = Try.prog.varsNamed 10 := by kernel_rfl
theorem g5 : Rows.fnExactJoinChainsRow.wf (OpenSpec.ofChange Rows.fnExactJoinChainsSpec) = true := by kernel_rfl
theorem g6 : (Try.f10.params.all (Try.prog.readableRec ·)) = true := by kernel_rfl
theorem g7 : Rows.fnExactJoinChainsRow.veiledFits Try.prog Try.f10.params.toList (Try.f10.params.toList ++ Try.f10.resultTypes.toList) = true := by kernel_rfl
theorem g8 : joinedFacts Try.prog 10 Try.f10 Rows.fnExactJoinChainsSpec Rows.fnExactJoinChainsRow = true :=
  gen_facts _ _ _ _ rfl rfl cl_laid cl_maps cl_stops cl_knobs cl_heard cl_enter cl_lifts cl_make g5 g6 rfl rfl rfl g1 g2 g3 g4
    (by as_aux_lemma => kernel_rfl) (by as_aux_lemma => kernel_rfl) (by as_aux_lemma => kernel_rfl) (by as_aux_lemma => kernel_rfl) (by as_aux_lemma => kernel_rfl) (by as_aux_lemma => kernel_rfl) (by as_aux_lemma => kernel_rfl) (by as_aux_lemma => kernel_rfl)
    cl_keys.symm rfl rfl rfl rfl rfl (by as_aux_lemma => kernel_rfl) (by as_aux_lemma => kernel_rfl) g7
theorem g9 : Try.f10.isInstance Try.prog Rows.fnExactJoinChainsRow.origin Rows.fnExactJoinChainsRow.targs := of_decide_eq_true (by kernel_rfl)
theorem g10 : Try.f10.isWrapper Try.prog Rows.fnExactJoinChainsRow.wrapper Rows.fnExactJoinChainsRow.mainSum := by
  unfold Func.isWrapper; first | (rw [if_pos (by decide +kernel)]; kernel_rfl) | (rw [if_neg (by decide +kernel)]; exact ⟨rfl, rfl⟩)
theorem over : Rows.fnExactJoinChainsRow.holds Try.pinned (OpenSpec.ofChange Rows.fnExactJoinChainsSpec) :=
  OpenClaim.holds_of_wide 10 Try.f10 rfl rfl rfl rfl rfl rfl rfl ⟨rfl, rfl, rfl, rfl, rfl⟩ rfl rfl rfl rfl rfl g0 Try.func10 g8 g9 g10 (fun os started H enc _ => lifted os started H enc)
theorem proved : Rows.FnExactJoinChainsSaid := over
end Go.Proofs.Ytddaodjaeommlaa.lawJoinChains
