/-
  impl.PastDraw returns what spec.PastDraw returns, for every seed, chain and number (the law FnExactPastDraw returns true), in memory of its own where it gives a slice, and leaves its arguments as they were. No condition.
-/
import Derived.Test.YtddaodjaeommlaaPd4
import Derived.Test.YtddaodjaeommlaaToi
import Derived.Test.YtddaodjaeommlaaTos
import Derived.Test.YtddaodjaeommlaaOpen
import Derived.Test.YtddaodjaeommlaaOut
import Derived.Deep.RegionHeld3
import Derived.Deep.DeepCutAuto
namespace Go.Proofs.Ytddaodjaeommlaa.lawPastDraw
open Go.ChangeShapes Go.WideShapes Go.ChangeAt Go.RowKit

theorem both (k0 a0 b0 : Int) (n1 : Int) (xs1 : List Nat) (x2 : Int) (bd0 : (-9223372036854775808 ≤ k0 ∧ k0 ≤ 9223372036854775807) ∧ (0 ≤ a0 ∧ a0 < 18446744073709551616) ∧ (0 ≤ b0 ∧ b0 < 18446744073709551616)) (hx1 : xs1.length ≤ 9223372036854775807) (bd1 : -9223372036854775808 ≤ n1 ∧ n1 ≤ 9223372036854775807) (bf1 : ∀ x ∈ xs1, x < 4294967296) (bd2 : -9223372036854775808 ≤ x2 ∧ x2 ≤ 9223372036854775807) : ∃ (rk : Int) (ra : Int) (rb : Int) (ri : Int) (rj : Int) (ok : Bool), (∀ A51 c51 w, Rd w w.heap.size A51 (fl xs1) → Calls Try.prog 70 #[.agg #[.int .i64 k0, .int .u64 a0, .int .u64 b0], .agg #[.int .i64 n1, .slice A51 xs1.length c51], .int .i64 x2] w (fun e w' => e = .returned (.tuple #[.agg #[.int .i64 rk, .int .u64 ra, .int .u64 rb], .int .i64 ri, .int .i64 rj, .bool ok]) ∧ Below w.heap.size w w')) ∧
    (∀ A51 w, Rd w w.heap.size A51 (fl xs1) → Calls Try.prog 71 #[.agg #[.int .i64 k0, .int .u64 a0, .int .u64 b0], .agg #[.int .i64 n1, .slice A51 xs1.length xs1.length], .int .i64 x2] w (fun e w' => e = .returned (.tuple #[.agg #[.int .i64 rk, .int .u64 ra, .int .u64 rb], .int .i64 ri, .int .i64 rj, .bool ok]) ∧ Below w.heap.size w w')) := by
  have _ubd0 := bd0
  have _uhx1 := hx1
  have _ubd1 := bd1
  have _ubf1 := bf1
  have _ubd2 := bd2
  have hz : xs1.length ≤ xs1.length := Nat.le_refl _
  have hb0 := bd0.2.2
  cases h : pastB k0 a0 b0 n1 xs1 x2 with
  | false => exact ⟨0, 0, 0, 0, 0, false, fun A c w hA => specPastDraw_bad k0 a0 b0 n1 x2 A xs1 c w hb0 hx1 hA h, fun A w hA => PastDraw_bad k0 a0 b0 n1 x2 A xs1 xs1.length w hb0 hz hx1 hA h⟩
  | true =>
    obtain ⟨n, M, rfl, rfl, h1, h2, h3, h4, -⟩ := pastB_ok h
    exact ⟨_, _, _, _, _, _, fun A c w hA => specPastDraw_ok k0 a0 b0 n M A xs1 c w hb0 hx1 hA h, fun A w hA => PastDraw_ok k0 a0 b0 n M A xs1 xs1.length w hb0 hz hx1 hA h⟩

set_option maxRecDepth 100000 in
set_option maxHeartbeats 12800000 in
theorem walk (k0 a0 b0 : Int) (n1 : Int) (A1 : Option Addr) (xs1 : List Nat) (c1 : Nat) (x2 : Int) (w : World) (bd0 : (-9223372036854775808 ≤ k0 ∧ k0 ≤ 9223372036854775807) ∧ (0 ≤ a0 ∧ a0 < 18446744073709551616) ∧ (0 ≤ b0 ∧ b0 < 18446744073709551616)) (h1 : Rd w w.heap.size A1 (fl xs1))  (hx1 : xs1.length ≤ 9223372036854775807) (bd1 : -9223372036854775808 ≤ n1 ∧ n1 ≤ 9223372036854775807) (bf1 : ∀ x ∈ xs1, x < 4294967296) (bd2 : -9223372036854775808 ≤ x2 ∧ x2 ≤ 9223372036854775807) :
    Calls Try.prog 19 #[.agg #[.int .i64 k0, .int .u64 a0, .int .u64 b0], .agg #[.int .i64 n1, .slice A1 xs1.length c1], .int .i64 x2] w fun e w' => e = .returned (.bool true) ∧ Below w.heap.size w w' := by
  have HZ1 := Lib.hid fun w => szChain_any n1 A1 xs1.length c1 (1048576) w hx1 (by omega) (by omega)
  by_cases hl1 : (1048576 : Int) - (xs1.length : Int) < 0
  · have HL1 : Hid (leftOf (1048576) xs1.length = -1) := if_pos hl1
    clear hl1 bd0 bd1 bf1 bd2
    go_enter Try.func19, Try.ntmps19
    go_wp2_with fail
    refine (HZ1.out _).mono ?_
    rw [HL1.out]
    rintro e v0 ⟨rfl, hv0⟩
    have hu0 : Below w.heap.size w v0 := Below.trans (Below.alloc (Below.alloc (Below.refl _ _) (by simp; try omega) _) (by simp; try omega) _) (hv0.mono (by simp; try omega))
    have cc00 : v0.cell? ⟨w.heap.size, 0, none⟩ = some (.int .i64 k0) := keepC hv0 (by simp [go_sem])
    have cc01 : v0.cell? ⟨w.heap.size, 1, none⟩ = some (.int .u64 a0) := keepC hv0 (by simp [go_sem])
    have cc02 : v0.cell? ⟨w.heap.size, 2, none⟩ = some (.int .u64 b0) := keepC hv0 (by simp [go_sem])
    have cc10 : v0.cell? ⟨w.heap.size + 1, 0, none⟩ = some (.int .i64 n1) := keepC hv0 (by simp [go_sem])
    have cc11 : v0.cell? ⟨w.heap.size + 1, 1, none⟩ = some (.slice A1 xs1.length c1) := keepC hv0 (by simp [go_sem])
    clear hv0
    go_wp2_with fail
    go_ret
    exact ⟨rfl, hu0⟩
  have HL1 : Hid (leftOf (1048576) xs1.length = 1048576 - xs1.length) := if_neg hl1
  have hy1 : xs1.length ≤ 1048576 := by omega
  obtain ⟨rk, ra, rb, ri, rj, ok, HS0, HI0⟩ := both k0 a0 b0 n1 xs1 x2 bd0 hx1 bd1 bf1 bd2
  have HS := Lib.hid HS0
  have HI := Lib.hid HI0
  clear HS0 HI0
  have HT0 := Lib.hid fun w => toSeed_any k0 a0 b0 w
  have HT1 := Lib.hid fun w h => toChain_any n1 A1 xs1 c1 w hy1 h
  have HX1 := Lib.hid fun A B c d w hA hB => eqChain_yes n1 A B xs1 xs1 c d w (by omega) (sameL_refl xs1) hA hB
  have HQ := Lib.hid fun w => eqSeed_yes rk ra rb w
  clear bd0 bd1 bf1 bd2
  have HBw : Hid (Below w.heap.size w w) := Lib.hid (Below.refl _ _)
  go_enter Try.func19, Try.ntmps19
  go_wp2_with fail
  generalize hWw1 : World.alloc (World.alloc w _) _ = w1
  have hbw1 : Below w.heap.size w w1 := by rw [← hWw1]; exact Below.alloc (Below.alloc (Below.refl _ _) (by simp; try omega) _) (by simp; try omega) _
  have sw1 : w.heap.size + 2 ≤ w1.heap.size := by rw [← hWw1]; simp
  have ba00_w1 : w1.cell? ⟨w.heap.size, 0, none⟩ = some (.int .i64 k0) := by rw [← hWw1]; simp [go_sem]
  have ba01_w1 : w1.cell? ⟨w.heap.size, 1, none⟩ = some (.int .u64 a0) := by rw [← hWw1]; simp [go_sem]
  have ba02_w1 : w1.cell? ⟨w.heap.size, 2, none⟩ = some (.int .u64 b0) := by rw [← hWw1]; simp [go_sem]
  have ba10_w1 : w1.cell? ⟨w.heap.size + 1, 0, none⟩ = some (.int .i64 n1) := by rw [← hWw1]; simp [go_sem]
  have ba11_w1 : w1.cell? ⟨w.heap.size + 1, 1, none⟩ = some (.slice A1 xs1.length c1) := by rw [← hWw1]; simp [go_sem]
  have HBw1 : Hid (Below w.heap.size w w1) := Lib.hid (HBw.out.trans (hbw1.mono HBw.out.size))
  clear HBw hWw1 hbw1
  have lb0w1 : w.heap.size < w1.heap.size := by omega
  have lb1w1 : w.heap.size + 1 < w1.heap.size := by omega
  refine (HZ1.out _).mono ?_
  rw [HL1.out]
  rintro e w2 ⟨rfl, hbw2⟩
  have lb0w2 : w.heap.size < w2.heap.size := by have := hbw2.size; omega
  have lb1w2 : w.heap.size + 1 < w2.heap.size := by have := hbw2.size; omega
  have ba00_w2 : w2.cell? ⟨w.heap.size, 0, none⟩ = some (.int .i64 k0) := keepC hbw2 ba00_w1
  have ba01_w2 : w2.cell? ⟨w.heap.size, 1, none⟩ = some (.int .u64 a0) := keepC hbw2 ba01_w1
  have ba02_w2 : w2.cell? ⟨w.heap.size, 2, none⟩ = some (.int .u64 b0) := keepC hbw2 ba02_w1
  have ba10_w2 : w2.cell? ⟨w.heap.size + 1, 0, none⟩ = some (.int .i64 n1) := keepC hbw2 ba10_w1
  have ba11_w2 : w2.cell? ⟨w.heap.size + 1, 1, none⟩ = some (.slice A1 xs1.length c1) := keepC hbw2 ba11_w1
  have HBw2 : Hid (Below w.heap.size w w2) := Lib.hid (HBw1.out.trans (hbw2.mono HBw1.out.size))
  have zw2 : w.heap.size + 2 ≤ w2.heap.size := by have := hbw2.size; omega
  clear lb0w1 lb1w1 ba00_w1 ba01_w1 ba02_w1 ba10_w1 ba11_w1 HBw1 hbw2
  go_wp2_with fail
  go_upto_region 5 with fail
  have hMk : Hid (∀ W, Below w2.heap.size w2 W → W.cell? ⟨w.heap.size, 0, none⟩ = some (.int .i64 k0) ∧ W.cell? ⟨w.heap.size, 1, none⟩ = some (.int .u64 a0) ∧ W.cell? ⟨w.heap.size, 2, none⟩ = some (.int .u64 b0) ∧ W.cell? ⟨w.heap.size + 1, 0, none⟩ = some (.int .i64 n1) ∧ W.cell? ⟨w.heap.size + 1, 1, none⟩ = some (.slice A1 xs1.length c1)) := Lib.hid fun W hW => ⟨keepC hW ba00_w2, keepC hW ba01_w2, keepC hW ba02_w2, keepC hW ba10_w2, keepC hW ba11_w2⟩
  go_cut [8, 9, 10, 11] (fun s8 s9 s10 s11 wx => ∃ g, s8 = .pointer (some ⟨g, 0, none⟩) ∧ s9 = .int .i64 ri ∧ s10 = .int .i64 rj ∧ s11 = .bool ok ∧ wx.cell? ⟨g, 0, none⟩ = some (.int .i64 rk) ∧ wx.cell? ⟨g, 1, none⟩ = some (.int .u64 ra) ∧ wx.cell? ⟨g, 2, none⟩ = some (.int .u64 rb) ∧ Below w2.heap.size w2 wx ∧ w2.heap.size ≤ g ∧ g < wx.heap.size)
  case first =>
    go_region_held3 (fun W => W.cell? ⟨w.heap.size, 0, none⟩ = some (.int .i64 k0) ∧ W.cell? ⟨w.heap.size, 1, none⟩ = some (.int .u64 a0) ∧ W.cell? ⟨w.heap.size, 2, none⟩ = some (.int .u64 b0) ∧ W.cell? ⟨w.heap.size + 1, 0, none⟩ = some (.int .i64 n1) ∧ W.cell? ⟨w.heap.size + 1, 1, none⟩ = some (.slice A1 xs1.length c1))
      (first | exact hMk.out _ (by repeat (first | assumption | exact Below.refl _ _ | refine below_al ?_ _ | refine below_dr ?_ | refine below_dn ?_ _ | refine below_set ?_ _ _ (by first | exact Nat.le_refl _ | (simp; done) | (simp; omega)))))
      (first
        | (go_at_call 65; refine (HT0.out _).mono ?_; rintro e w3 ⟨rfl, hbw3⟩; have hkw3 : Below w2.heap.size w2 w3 := below_next (by repeat (first | assumption | exact Below.refl _ _ | refine below_al ?_ _ | refine below_dr ?_ | refine below_dn ?_ _ | refine below_set ?_ _ _ (by first | exact Nat.le_refl _ | (simp; done) | (simp; omega)))) hbw3; have hsw3 : w2.heap.size ≤ w3.heap.size := hkw3.size; (try (have ltw2_w3 : w2.heap.size < w3.heap.size := (by first | (have := hbw3.size; simp at this; omega) | (have := hbw3.size; omega)); have q0w2_w3 : w3.cell? ⟨w2.heap.size, 0, none⟩ = some (.int .i64 0) := keepC hbw3 (by first | assumption | (simp [go_sem]; done)); have q1w2_w3 : w3.cell? ⟨w2.heap.size, 1, none⟩ = some (.int .u64 0) := keepC hbw3 (by first | assumption | (simp [go_sem]; done)); have q2w2_w3 : w3.cell? ⟨w2.heap.size, 2, none⟩ = some (.int .u64 0) := keepC hbw3 (by first | assumption | (simp [go_sem]; done)); have fzw2_w3 : ∀ o, w3.frozen? ⟨w2.heap.size, o, none⟩ = false := fun o => (hbw3.frozen (p := ⟨w2.heap.size, o, none⟩) (by first | (show _ < _; omega) | (simp; done) | (simp; omega))).trans (by first | (simp [go_sem]; done) | (simp [*]; done)))))
        | (go_at_call_of 29 n1; refine (HT1.out _ (h1.at_ (below_next HBw2.out (by repeat (first | assumption | exact Below.refl _ _ | refine below_al ?_ _ | refine below_dr ?_ | refine below_dn ?_ _ | refine below_set ?_ _ _ (by first | exact Nat.le_refl _ | (simp; done) | (simp; omega))))))).mono ?_; rintro e w4 ⟨A4, rfl, hownw4, hbw4⟩; have rdw4 := Rd.of_own hownw4; have hkw4 : Below w2.heap.size w2 w4 := below_next (by repeat (first | assumption | exact Below.refl _ _ | refine below_al ?_ _ | refine below_dr ?_ | refine below_dn ?_ _ | refine below_set ?_ _ _ (by first | exact Nat.le_refl _ | (simp; done) | (simp; omega)))) hbw4; have hsw4 : w2.heap.size ≤ w4.heap.size := hkw4.size; have hw3_w4 : Below w3.heap.size w3 w4 := below_next (by repeat (first | assumption | exact Below.refl _ _ | refine below_al ?_ _ | refine below_dr ?_ | refine below_dn ?_ _ | refine below_set ?_ _ _ (by first | exact Nat.le_refl _ | (simp; done) | (simp; omega)))) hbw4; (try (have ltw2_w4 : w2.heap.size < w4.heap.size := (by first | (have := hbw4.size; simp at this; omega) | (have := hbw4.size; omega)); have q0w2_w4 : w4.cell? ⟨w2.heap.size, 0, none⟩ = some (.int .i64 0) := keepC hbw4 (by first | assumption | (simp [go_sem]; done)); have q1w2_w4 : w4.cell? ⟨w2.heap.size, 1, none⟩ = some (.int .u64 0) := keepC hbw4 (by first | assumption | (simp [go_sem]; done)); have q2w2_w4 : w4.cell? ⟨w2.heap.size, 2, none⟩ = some (.int .u64 0) := keepC hbw4 (by first | assumption | (simp [go_sem]; done)); have fzw2_w4 : ∀ o, w4.frozen? ⟨w2.heap.size, o, none⟩ = false := fun o => (hbw4.frozen (p := ⟨w2.heap.size, o, none⟩) (by first | (show _ < _; omega) | (simp; done) | (simp; omega))).trans (by first | (simp [go_sem]; done) | (simp [*]; done)))); (try (have ltw3_w4 : w3.heap.size < w4.heap.size := (by first | (have := hbw4.size; simp at this; omega) | (have := hbw4.size; omega)); have q0w3_w4 : w4.cell? ⟨w3.heap.size, 0, none⟩ = some (.int .i64 0) := keepC hbw4 (by first | assumption | (simp [go_sem]; done)); have q1w3_w4 : w4.cell? ⟨w3.heap.size, 1, none⟩ = some (.int .u64 0) := keepC hbw4 (by first | assumption | (simp [go_sem]; done)); have q2w3_w4 : w4.cell? ⟨w3.heap.size, 2, none⟩ = some (.int .u64 0) := keepC hbw4 (by first | assumption | (simp [go_sem]; done)); have fzw3_w4 : ∀ o, w4.frozen? ⟨w3.heap.size, o, none⟩ = false := fun o => (hbw4.frozen (p := ⟨w3.heap.size, o, none⟩) (by first | (show _ < _; omega) | (simp; done) | (simp; omega))).trans (by first | (simp [go_sem]; done) | (simp [*]; done)))))
        | (go_at_call 70; refine (HS.out A4 _ _ (rdw4.at_ (by repeat (first | assumption | exact Below.refl _ _ | refine below_al ?_ _ | refine below_dr ?_ | refine below_dn ?_ _ | refine below_set ?_ _ _ (by first | exact Nat.le_refl _ | (simp; done) | (simp; omega)))))).mono ?_; rintro e w5 ⟨rfl, hbw5⟩; have hkw5 : Below w2.heap.size w2 w5 := below_next (by repeat (first | assumption | exact Below.refl _ _ | refine below_al ?_ _ | refine below_dr ?_ | refine below_dn ?_ _ | refine below_set ?_ _ _ (by first | exact Nat.le_refl _ | (simp; done) | (simp; omega)))) hbw5; have hsw5 : w2.heap.size ≤ w5.heap.size := hkw5.size; have hw3_w5 : Below w3.heap.size w3 w5 := below_next (by repeat (first | assumption | exact Below.refl _ _ | refine below_al ?_ _ | refine below_dr ?_ | refine below_dn ?_ _ | refine below_set ?_ _ _ (by first | exact Nat.le_refl _ | (simp; done) | (simp; omega)))) hbw5; have hw4_w5 : Below w4.heap.size w4 w5 := below_next (by repeat (first | assumption | exact Below.refl _ _ | refine below_al ?_ _ | refine below_dr ?_ | refine below_dn ?_ _ | refine below_set ?_ _ _ (by first | exact Nat.le_refl _ | (simp; done) | (simp; omega)))) hbw5; (try (have ltw2_w5 : w2.heap.size < w5.heap.size := (by first | (have := hbw5.size; simp at this; omega) | (have := hbw5.size; omega)); have q0w2_w5 : w5.cell? ⟨w2.heap.size, 0, none⟩ = some (.int .i64 0) := keepC hbw5 (by first | assumption | (simp [go_sem]; done)); have q1w2_w5 : w5.cell? ⟨w2.heap.size, 1, none⟩ = some (.int .u64 0) := keepC hbw5 (by first | assumption | (simp [go_sem]; done)); have q2w2_w5 : w5.cell? ⟨w2.heap.size, 2, none⟩ = some (.int .u64 0) := keepC hbw5 (by first | assumption | (simp [go_sem]; done)); have fzw2_w5 : ∀ o, w5.frozen? ⟨w2.heap.size, o, none⟩ = false := fun o => (hbw5.frozen (p := ⟨w2.heap.size, o, none⟩) (by first | (show _ < _; omega) | (simp; done) | (simp; omega))).trans (by first | (simp [go_sem]; done) | (simp [*]; done)))); (try (have ltw3_w5 : w3.heap.size < w5.heap.size := (by first | (have := hbw5.size; simp at this; omega) | (have := hbw5.size; omega)); have q0w3_w5 : w5.cell? ⟨w3.heap.size, 0, none⟩ = some (.int .i64 0) := keepC hbw5 (by first | assumption | (simp [go_sem]; done)); have q1w3_w5 : w5.cell? ⟨w3.heap.size, 1, none⟩ = some (.int .u64 0) := keepC hbw5 (by first | assumption | (simp [go_sem]; done)); have q2w3_w5 : w5.cell? ⟨w3.heap.size, 2, none⟩ = some (.int .u64 0) := keepC hbw5 (by first | assumption | (simp [go_sem]; done)); have fzw3_w5 : ∀ o, w5.frozen? ⟨w3.heap.size, o, none⟩ = false := fun o => (hbw5.frozen (p := ⟨w3.heap.size, o, none⟩) (by first | (show _ < _; omega) | (simp; done) | (simp; omega))).trans (by first | (simp [go_sem]; done) | (simp [*]; done)))); (try (have ltw4_w5 : w4.heap.size < w5.heap.size := (by first | (have := hbw5.size; simp at this; omega) | (have := hbw5.size; omega)); have q0w4_w5 : w5.cell? ⟨w4.heap.size, 0, none⟩ = some (.int .i64 0) := keepC hbw5 (by first | assumption | (simp [go_sem]; done)); have q1w4_w5 : w5.cell? ⟨w4.heap.size, 1, none⟩ = some (.int .u64 0) := keepC hbw5 (by first | assumption | (simp [go_sem]; done)); have q2w4_w5 : w5.cell? ⟨w4.heap.size, 2, none⟩ = some (.int .u64 0) := keepC hbw5 (by first | assumption | (simp [go_sem]; done)); have fzw4_w5 : ∀ o, w5.frozen? ⟨w4.heap.size, o, none⟩ = false := fun o => (hbw5.frozen (p := ⟨w4.heap.size, o, none⟩) (by first | (show _ < _; omega) | (simp; done) | (simp; omega))).trans (by first | (simp [go_sem]; done) | (simp [*]; done))))))
    all_goals (go_wp2_with fail; go_meet; exact ⟨_, rfl, rfl, rfl, rfl, (by first | (simp [go_sem]; done) | (simp [go_sem, q0w2_w5, q1w2_w5, q2w2_w5]; done) | (simp [go_sem, q0w3_w5, q1w3_w5, q2w3_w5]; done) | (simp [go_sem, q0w4_w5, q1w4_w5, q2w4_w5]; done)), (by first | (simp [go_sem]; done) | (simp [go_sem, q0w2_w5, q1w2_w5, q2w2_w5]; done) | (simp [go_sem, q0w3_w5, q1w3_w5, q2w3_w5]; done) | (simp [go_sem, q0w4_w5, q1w4_w5, q2w4_w5]; done)), (by first | (simp [go_sem]; done) | (simp [go_sem, q0w2_w5, q1w2_w5, q2w2_w5]; done) | (simp [go_sem, q0w3_w5, q1w3_w5, q2w3_w5]; done) | (simp [go_sem, q0w4_w5, q1w4_w5, q2w4_w5]; done)), (by repeat (first | assumption | exact Below.refl _ _ | refine below_al ?_ _ | refine below_dr ?_ | refine below_dn ?_ _ | refine below_set ?_ _ _ (by first | exact Nat.le_refl _ | (simp; done) | (simp; omega)))), (by omega), (by first | omega | (simp; done) | (simp; omega))⟩)
  rename World => w6
  obtain ⟨gw6, rfl, rfl, rfl, rfl, bW00_w6, bW01_w6, bW02_w6, hkw6, low6, hiw6⟩ := hcut
  obtain ⟨ba00_w6, ba01_w6, ba02_w6, ba10_w6, ba11_w6⟩ := hMk.out _ hkw6
  have lb0w6 : w.heap.size < w6.heap.size := by have := hkw6.size; omega
  have lb1w6 : w.heap.size + 1 < w6.heap.size := by have := hkw6.size; omega
  have HBw6 : Hid (Below w.heap.size w w6) := Lib.hid (HBw2.out.trans (hkw6.mono HBw2.out.size))
  have rw6 : w2.heap.size ≤ w6.heap.size := hkw6.size
  have lb99w6 : gw6 < w6.heap.size := hiw6
  clear hMk ba00_w2 ba01_w2 ba02_w2 ba10_w2 ba11_w2 lb0w2 lb1w2 HBw2 hkw6
  go_wp2_with fail
  refine (HT1.out _ (h1.at_ HBw6.out)).mono ?_
  rintro e w7 ⟨A7, rfl, hownw7, hbw7⟩
  have OLX1 : Hid (∀ k, (Value.slice A7 xs1.length xs1.length).ownBlock = some k → w6.heap.size ≤ k ∧ k < w7.heap.size) := Lib.hid hownw7.lt
  have OWX1w7 := Lib.hid hownw7
  have rw7 : w6.heap.size ≤ w7.heap.size := hbw7.size
  have lb0w7 : w.heap.size < w7.heap.size := by have := hbw7.size; omega
  have lb1w7 : w.heap.size + 1 < w7.heap.size := by have := hbw7.size; omega
  have lb2w7 : gw6 < w7.heap.size := by have := hbw7.size; omega
  have ba00_w7 : w7.cell? ⟨w.heap.size, 0, none⟩ = some (.int .i64 k0) := keepC hbw7 ba00_w6
  have ba01_w7 : w7.cell? ⟨w.heap.size, 1, none⟩ = some (.int .u64 a0) := keepC hbw7 ba01_w6
  have ba02_w7 : w7.cell? ⟨w.heap.size, 2, none⟩ = some (.int .u64 b0) := keepC hbw7 ba02_w6
  have ba10_w7 : w7.cell? ⟨w.heap.size + 1, 0, none⟩ = some (.int .i64 n1) := keepC hbw7 ba10_w6
  have ba11_w7 : w7.cell? ⟨w.heap.size + 1, 1, none⟩ = some (.slice A1 xs1.length c1) := keepC hbw7 ba11_w6
  have bW00_w7 : w7.cell? ⟨gw6, 0, none⟩ = some (.int .i64 rk) := keepC hbw7 bW00_w6
  have bW01_w7 : w7.cell? ⟨gw6, 1, none⟩ = some (.int .u64 ra) := keepC hbw7 bW01_w6
  have bW02_w7 : w7.cell? ⟨gw6, 2, none⟩ = some (.int .u64 rb) := keepC hbw7 bW02_w6
  have HBw7 : Hid (Below w.heap.size w w7) := Lib.hid (HBw6.out.trans (hbw7.mono HBw6.out.size))
  clear lb0w6 lb1w6 lb99w6 ba00_w6 ba01_w6 ba02_w6 ba10_w6 ba11_w6 bW00_w6 bW01_w6 bW02_w6 HBw6 hbw7 hownw7
  go_wp2_with fail
  generalize hWw8 : World.alloc w7 _ = w8
  have hbw8 : Below w7.heap.size w7 w8 := by rw [← hWw8]; exact Below.alloc (Below.refl _ _) (by simp; try omega) _
  have sw8 : w7.heap.size + 1 ≤ w8.heap.size := by rw [← hWw8]; simp
  have bx100_w8 : w8.cell? ⟨w7.heap.size, 0, none⟩ = some (.int .i64 n1) := by rw [← hWw8]; simp [go_sem]
  have bx101_w8 : w8.cell? ⟨w7.heap.size, 1, none⟩ = some (.slice A7 xs1.length xs1.length) := by rw [← hWw8]; simp [go_sem]
  have lb0w8 : w.heap.size < w8.heap.size := by have := hbw8.size; omega
  have lb1w8 : w.heap.size + 1 < w8.heap.size := by have := hbw8.size; omega
  have lb2w8 : gw6 < w8.heap.size := by have := hbw8.size; omega
  have ba00_w8 : w8.cell? ⟨w.heap.size, 0, none⟩ = some (.int .i64 k0) := keepC hbw8 ba00_w7
  have ba01_w8 : w8.cell? ⟨w.heap.size, 1, none⟩ = some (.int .u64 a0) := keepC hbw8 ba01_w7
  have ba02_w8 : w8.cell? ⟨w.heap.size, 2, none⟩ = some (.int .u64 b0) := keepC hbw8 ba02_w7
  have ba10_w8 : w8.cell? ⟨w.heap.size + 1, 0, none⟩ = some (.int .i64 n1) := keepC hbw8 ba10_w7
  have ba11_w8 : w8.cell? ⟨w.heap.size + 1, 1, none⟩ = some (.slice A1 xs1.length c1) := keepC hbw8 ba11_w7
  have bW00_w8 : w8.cell? ⟨gw6, 0, none⟩ = some (.int .i64 rk) := keepC hbw8 bW00_w7
  have bW01_w8 : w8.cell? ⟨gw6, 1, none⟩ = some (.int .u64 ra) := keepC hbw8 bW01_w7
  have bW02_w8 : w8.cell? ⟨gw6, 2, none⟩ = some (.int .u64 rb) := keepC hbw8 bW02_w7
  have OWX1w8 := Lib.hid (own_below OWX1w7.out hbw8)
  have HBw8 : Hid (Below w.heap.size w w8) := Lib.hid (HBw7.out.trans (hbw8.mono HBw7.out.size))
  clear lb0w7 lb1w7 lb2w7 ba00_w7 ba01_w7 ba02_w7 ba10_w7 ba11_w7 bW00_w7 bW01_w7 bW02_w7 OWX1w7 HBw7 hWw8 hbw8
  have lb3w8 : w7.heap.size < w8.heap.size := by omega
  go_upto_region 7 with fail
  have hMk : Hid (∀ W, Below w8.heap.size w8 W → W.cell? ⟨w.heap.size, 0, none⟩ = some (.int .i64 k0) ∧ W.cell? ⟨w.heap.size, 1, none⟩ = some (.int .u64 a0) ∧ W.cell? ⟨w.heap.size, 2, none⟩ = some (.int .u64 b0) ∧ W.cell? ⟨w.heap.size + 1, 0, none⟩ = some (.int .i64 n1) ∧ W.cell? ⟨w.heap.size + 1, 1, none⟩ = some (.slice A1 xs1.length c1) ∧ W.cell? ⟨gw6, 0, none⟩ = some (.int .i64 rk) ∧ W.cell? ⟨gw6, 1, none⟩ = some (.int .u64 ra) ∧ W.cell? ⟨gw6, 2, none⟩ = some (.int .u64 rb) ∧ W.cell? ⟨w7.heap.size, 0, none⟩ = some (.int .i64 n1) ∧ W.cell? ⟨w7.heap.size, 1, none⟩ = some (.slice A7 xs1.length xs1.length)) := Lib.hid fun W hW => ⟨keepC hW ba00_w8, keepC hW ba01_w8, keepC hW ba02_w8, keepC hW ba10_w8, keepC hW ba11_w8, keepC hW bW00_w8, keepC hW bW01_w8, keepC hW bW02_w8, keepC hW bx100_w8, keepC hW bx101_w8⟩
  go_cut [13, 14, 15, 16] (fun s13 s14 s15 s16 wx => ∃ g, s13 = .pointer (some ⟨g, 0, none⟩) ∧ s14 = .int .i64 ri ∧ s15 = .int .i64 rj ∧ s16 = .bool ok ∧ wx.cell? ⟨g, 0, none⟩ = some (.int .i64 rk) ∧ wx.cell? ⟨g, 1, none⟩ = some (.int .u64 ra) ∧ wx.cell? ⟨g, 2, none⟩ = some (.int .u64 rb) ∧ Below w8.heap.size w8 wx ∧ w8.heap.size ≤ g ∧ g < wx.heap.size)
  case first =>
    go_region_held3 (fun W => W.cell? ⟨w.heap.size, 0, none⟩ = some (.int .i64 k0) ∧ W.cell? ⟨w.heap.size, 1, none⟩ = some (.int .u64 a0) ∧ W.cell? ⟨w.heap.size, 2, none⟩ = some (.int .u64 b0) ∧ W.cell? ⟨w.heap.size + 1, 0, none⟩ = some (.int .i64 n1) ∧ W.cell? ⟨w.heap.size + 1, 1, none⟩ = some (.slice A1 xs1.length c1) ∧ W.cell? ⟨gw6, 0, none⟩ = some (.int .i64 rk) ∧ W.cell? ⟨gw6, 1, none⟩ = some (.int .u64 ra) ∧ W.cell? ⟨gw6, 2, none⟩ = some (.int .u64 rb) ∧ W.cell? ⟨w7.heap.size, 0, none⟩ = some (.int .i64 n1) ∧ W.cell? ⟨w7.heap.size, 1, none⟩ = some (.slice A7 xs1.length xs1.length))
      (first | exact hMk.out _ (by repeat (first | assumption | exact Below.refl _ _ | refine below_al ?_ _ | refine below_dr ?_ | refine below_dn ?_ _ | refine below_set ?_ _ _ (by first | exact Nat.le_refl _ | (simp; done) | (simp; omega)))))
      (first
        | (go_at_call 65; refine (HT0.out _).mono ?_; rintro e w9 ⟨rfl, hbw9⟩; have hkw9 : Below w8.heap.size w8 w9 := below_next (by repeat (first | assumption | exact Below.refl _ _ | refine below_al ?_ _ | refine below_dr ?_ | refine below_dn ?_ _ | refine below_set ?_ _ _ (by first | exact Nat.le_refl _ | (simp; done) | (simp; omega)))) hbw9; have hsw9 : w8.heap.size ≤ w9.heap.size := hkw9.size; (try (have ltw8_w9 : w8.heap.size < w9.heap.size := (by first | (have := hbw9.size; simp at this; omega) | (have := hbw9.size; omega)); have q0w8_w9 : w9.cell? ⟨w8.heap.size, 0, none⟩ = some (.int .i64 0) := keepC hbw9 (by first | assumption | (simp [go_sem]; done)); have q1w8_w9 : w9.cell? ⟨w8.heap.size, 1, none⟩ = some (.int .u64 0) := keepC hbw9 (by first | assumption | (simp [go_sem]; done)); have q2w8_w9 : w9.cell? ⟨w8.heap.size, 2, none⟩ = some (.int .u64 0) := keepC hbw9 (by first | assumption | (simp [go_sem]; done)); have fzw8_w9 : ∀ o, w9.frozen? ⟨w8.heap.size, o, none⟩ = false := fun o => (hbw9.frozen (p := ⟨w8.heap.size, o, none⟩) (by first | (show _ < _; omega) | (simp; done) | (simp; omega))).trans (by first | (simp [go_sem]; done) | (simp [*]; done)))))
        | (go_at_call 71; refine (HI.out A7 _ ((Rd.of_own OWX1w8.out).at_ (by repeat (first | assumption | exact Below.refl _ _ | refine below_al ?_ _ | refine below_dr ?_ | refine below_dn ?_ _ | refine below_set ?_ _ _ (by first | exact Nat.le_refl _ | (simp; done) | (simp; omega)))))).mono ?_; rintro e w10 ⟨rfl, hbw10⟩; have hkw10 : Below w8.heap.size w8 w10 := below_next (by repeat (first | assumption | exact Below.refl _ _ | refine below_al ?_ _ | refine below_dr ?_ | refine below_dn ?_ _ | refine below_set ?_ _ _ (by first | exact Nat.le_refl _ | (simp; done) | (simp; omega)))) hbw10; have hsw10 : w8.heap.size ≤ w10.heap.size := hkw10.size; have hw9_w10 : Below w9.heap.size w9 w10 := below_next (by repeat (first | assumption | exact Below.refl _ _ | refine below_al ?_ _ | refine below_dr ?_ | refine below_dn ?_ _ | refine below_set ?_ _ _ (by first | exact Nat.le_refl _ | (simp; done) | (simp; omega)))) hbw10; (try (have ltw8_w10 : w8.heap.size < w10.heap.size := (by first | (have := hbw10.size; simp at this; omega) | (have := hbw10.size; omega)); have q0w8_w10 : w10.cell? ⟨w8.heap.size, 0, none⟩ = some (.int .i64 0) := keepC hbw10 (by first | assumption | (simp [go_sem]; done)); have q1w8_w10 : w10.cell? ⟨w8.heap.size, 1, none⟩ = some (.int .u64 0) := keepC hbw10 (by first | assumption | (simp [go_sem]; done)); have q2w8_w10 : w10.cell? ⟨w8.heap.size, 2, none⟩ = some (.int .u64 0) := keepC hbw10 (by first | assumption | (simp [go_sem]; done)); have fzw8_w10 : ∀ o, w10.frozen? ⟨w8.heap.size, o, none⟩ = false := fun o => (hbw10.frozen (p := ⟨w8.heap.size, o, none⟩) (by first | (show _ < _; omega) | (simp; done) | (simp; omega))).trans (by first | (simp [go_sem]; done) | (simp [*]; done)))); (try (have ltw9_w10 : w9.heap.size < w10.heap.size := (by first | (have := hbw10.size; simp at this; omega) | (have := hbw10.size; omega)); have q0w9_w10 : w10.cell? ⟨w9.heap.size, 0, none⟩ = some (.int .i64 0) := keepC hbw10 (by first | assumption | (simp [go_sem]; done)); have q1w9_w10 : w10.cell? ⟨w9.heap.size, 1, none⟩ = some (.int .u64 0) := keepC hbw10 (by first | assumption | (simp [go_sem]; done)); have q2w9_w10 : w10.cell? ⟨w9.heap.size, 2, none⟩ = some (.int .u64 0) := keepC hbw10 (by first | assumption | (simp [go_sem]; done)); have fzw9_w10 : ∀ o, w10.frozen? ⟨w9.heap.size, o, none⟩ = false := fun o => (hbw10.frozen (p := ⟨w9.heap.size, o, none⟩) (by first | (show _ < _; omega) | (simp; done) | (simp; omega))).trans (by first | (simp [go_sem]; done) | (simp [*]; done))))))
    all_goals (go_wp2_with fail; go_meet; exact ⟨_, rfl, rfl, rfl, rfl, (by first | (simp [go_sem]; done) | (simp [go_sem, q0w8_w10, q1w8_w10, q2w8_w10]; done) | (simp [go_sem, q0w9_w10, q1w9_w10, q2w9_w10]; done)), (by first | (simp [go_sem]; done) | (simp [go_sem, q0w8_w10, q1w8_w10, q2w8_w10]; done) | (simp [go_sem, q0w9_w10, q1w9_w10, q2w9_w10]; done)), (by first | (simp [go_sem]; done) | (simp [go_sem, q0w8_w10, q1w8_w10, q2w8_w10]; done) | (simp [go_sem, q0w9_w10, q1w9_w10, q2w9_w10]; done)), (by repeat (first | assumption | exact Below.refl _ _ | refine below_al ?_ _ | refine below_dr ?_ | refine below_dn ?_ _ | refine below_set ?_ _ _ (by first | exact Nat.le_refl _ | (simp; done) | (simp; omega)))), (by omega), (by first | omega | (simp; done) | (simp; omega))⟩)
  rename World => w11
  obtain ⟨gw11, rfl, rfl, rfl, rfl, bG00_w11, bG01_w11, bG02_w11, hkw11, low11, hiw11⟩ := hcut
  obtain ⟨ba00_w11, ba01_w11, ba02_w11, ba10_w11, ba11_w11, bW00_w11, bW01_w11, bW02_w11, bx100_w11, bx101_w11⟩ := hMk.out _ hkw11
  have lb0w11 : w.heap.size < w11.heap.size := by have := hkw11.size; omega
  have lb1w11 : w.heap.size + 1 < w11.heap.size := by have := hkw11.size; omega
  have lb2w11 : gw6 < w11.heap.size := by have := hkw11.size; omega
  have lb3w11 : w7.heap.size < w11.heap.size := by have := hkw11.size; omega
  have OWX1w11 := Lib.hid (own_below OWX1w8.out hkw11)
  have HBw11 : Hid (Below w.heap.size w w11) := Lib.hid (HBw8.out.trans (hkw11.mono HBw8.out.size))
  have rw11 : w8.heap.size ≤ w11.heap.size := hkw11.size
  have lb99w11 : gw11 < w11.heap.size := hiw11
  clear hMk ba00_w8 ba01_w8 ba02_w8 ba10_w8 ba11_w8 bW00_w8 bW01_w8 bW02_w8 bx100_w8 bx101_w8 lb0w8 lb1w8 lb2w8 lb3w8 OWX1w8 HBw8 hkw11
  go_wp2_with fail
  go_wp2_with fail
  refine (HQ.out _).mono ?_
  rintro e w12 ⟨rfl, hbw12⟩
  have lb0w12 : w.heap.size < w12.heap.size := by have := hbw12.size; omega
  have lb1w12 : w.heap.size + 1 < w12.heap.size := by have := hbw12.size; omega
  have lb2w12 : gw6 < w12.heap.size := by have := hbw12.size; omega
  have lb3w12 : w7.heap.size < w12.heap.size := by have := hbw12.size; omega
  have lb4w12 : gw11 < w12.heap.size := by have := hbw12.size; omega
  have ba00_w12 : w12.cell? ⟨w.heap.size, 0, none⟩ = some (.int .i64 k0) := keepC hbw12 ba00_w11
  have ba01_w12 : w12.cell? ⟨w.heap.size, 1, none⟩ = some (.int .u64 a0) := keepC hbw12 ba01_w11
  have ba02_w12 : w12.cell? ⟨w.heap.size, 2, none⟩ = some (.int .u64 b0) := keepC hbw12 ba02_w11
  have ba10_w12 : w12.cell? ⟨w.heap.size + 1, 0, none⟩ = some (.int .i64 n1) := keepC hbw12 ba10_w11
  have ba11_w12 : w12.cell? ⟨w.heap.size + 1, 1, none⟩ = some (.slice A1 xs1.length c1) := keepC hbw12 ba11_w11
  have bW00_w12 : w12.cell? ⟨gw6, 0, none⟩ = some (.int .i64 rk) := keepC hbw12 bW00_w11
  have bW01_w12 : w12.cell? ⟨gw6, 1, none⟩ = some (.int .u64 ra) := keepC hbw12 bW01_w11
  have bW02_w12 : w12.cell? ⟨gw6, 2, none⟩ = some (.int .u64 rb) := keepC hbw12 bW02_w11
  have bx100_w12 : w12.cell? ⟨w7.heap.size, 0, none⟩ = some (.int .i64 n1) := keepC hbw12 bx100_w11
  have bx101_w12 : w12.cell? ⟨w7.heap.size, 1, none⟩ = some (.slice A7 xs1.length xs1.length) := keepC hbw12 bx101_w11
  have bG00_w12 : w12.cell? ⟨gw11, 0, none⟩ = some (.int .i64 rk) := keepC hbw12 bG00_w11
  have bG01_w12 : w12.cell? ⟨gw11, 1, none⟩ = some (.int .u64 ra) := keepC hbw12 bG01_w11
  have bG02_w12 : w12.cell? ⟨gw11, 2, none⟩ = some (.int .u64 rb) := keepC hbw12 bG02_w11
  have OWX1w12 := Lib.hid (own_below OWX1w11.out hbw12)
  have HBw12 : Hid (Below w.heap.size w w12) := Lib.hid (HBw11.out.trans (hbw12.mono HBw11.out.size))
  have zw12 : w11.heap.size ≤ w12.heap.size := by have := hbw12.size; omega
  clear lb0w11 lb1w11 lb2w11 lb3w11 lb99w11 ba00_w11 ba01_w11 ba02_w11 ba10_w11 ba11_w11 bW00_w11 bW01_w11 bW02_w11 bx100_w11 bx101_w11 bG00_w11 bG01_w11 bG02_w11 OWX1w11 HBw11 hbw12
  go_wp2_with fail
  have hMk : Hid (∀ W, Below w12.heap.size w12 W → W.cell? ⟨w.heap.size, 0, none⟩ = some (.int .i64 k0) ∧ W.cell? ⟨w.heap.size, 1, none⟩ = some (.int .u64 a0) ∧ W.cell? ⟨w.heap.size, 2, none⟩ = some (.int .u64 b0) ∧ W.cell? ⟨w.heap.size + 1, 0, none⟩ = some (.int .i64 n1) ∧ W.cell? ⟨w.heap.size + 1, 1, none⟩ = some (.slice A1 xs1.length c1) ∧ W.cell? ⟨gw6, 0, none⟩ = some (.int .i64 rk) ∧ W.cell? ⟨gw6, 1, none⟩ = some (.int .u64 ra) ∧ W.cell? ⟨gw6, 2, none⟩ = some (.int .u64 rb) ∧ W.cell? ⟨w7.heap.size, 0, none⟩ = some (.int .i64 n1) ∧ W.cell? ⟨w7.heap.size, 1, none⟩ = some (.slice A7 xs1.length xs1.length) ∧ W.cell? ⟨gw11, 0, none⟩ = some (.int .i64 rk) ∧ W.cell? ⟨gw11, 1, none⟩ = some (.int .u64 ra) ∧ W.cell? ⟨gw11, 2, none⟩ = some (.int .u64 rb)) := Lib.hid fun W hW => ⟨keepC hW ba00_w12, keepC hW ba01_w12, keepC hW ba02_w12, keepC hW ba10_w12, keepC hW ba11_w12, keepC hW bW00_w12, keepC hW bW01_w12, keepC hW bW02_w12, keepC hW bx100_w12, keepC hW bx101_w12, keepC hW bG00_w12, keepC hW bG01_w12, keepC hW bG02_w12⟩
  go_region_held3 (fun W => W.cell? ⟨w.heap.size, 0, none⟩ = some (.int .i64 k0) ∧ W.cell? ⟨w.heap.size, 1, none⟩ = some (.int .u64 a0) ∧ W.cell? ⟨w.heap.size, 2, none⟩ = some (.int .u64 b0) ∧ W.cell? ⟨w.heap.size + 1, 0, none⟩ = some (.int .i64 n1) ∧ W.cell? ⟨w.heap.size + 1, 1, none⟩ = some (.slice A1 xs1.length c1) ∧ W.cell? ⟨gw6, 0, none⟩ = some (.int .i64 rk) ∧ W.cell? ⟨gw6, 1, none⟩ = some (.int .u64 ra) ∧ W.cell? ⟨gw6, 2, none⟩ = some (.int .u64 rb) ∧ W.cell? ⟨w7.heap.size, 0, none⟩ = some (.int .i64 n1) ∧ W.cell? ⟨w7.heap.size, 1, none⟩ = some (.slice A7 xs1.length xs1.length) ∧ W.cell? ⟨gw11, 0, none⟩ = some (.int .i64 rk) ∧ W.cell? ⟨gw11, 1, none⟩ = some (.int .u64 ra) ∧ W.cell? ⟨gw11, 2, none⟩ = some (.int .u64 rb))
    (first | exact hMk.out _ ((Below.refl _ _).drew) | exact hMk.out _ (by assumption))
    (first
      | (go_at_call 29; refine (HT1.out _ (h1.at_ HBw12.out.drew)).mono ?_; rintro e w13 ⟨A13, rfl, hownw13, hbw13⟩; have hkw13 : Below w12.heap.size w12 w13 := Below.trans (Below.refl _ _).drew hbw13)
      | (go_at_call 31; refine (HX1.out _ _ _ _ _ ((Rd.of_own OWX1w12.out).at_ hkw13) (Rd.of_own hownw13)).mono ?_; rintro e w14 ⟨rfl, hbw14⟩; have hkw14 : Below w12.heap.size w12 w14 := hkw13.trans (hbw14.mono hkw13.size)))
  obtain ⟨ba00_w14, ba01_w14, ba02_w14, ba10_w14, ba11_w14, bW00_w14, bW01_w14, bW02_w14, bx100_w14, bx101_w14, bG00_w14, bG01_w14, bG02_w14⟩ := hMk.out _ hkw14
  have lb0w14 : w.heap.size < w14.heap.size := by have := hkw14.size; omega
  have lb1w14 : w.heap.size + 1 < w14.heap.size := by have := hkw14.size; omega
  have lb2w14 : gw6 < w14.heap.size := by have := hkw14.size; omega
  have lb3w14 : w7.heap.size < w14.heap.size := by have := hkw14.size; omega
  have lb4w14 : gw11 < w14.heap.size := by have := hkw14.size; omega
  have OWX1w14 := Lib.hid (own_below OWX1w12.out hkw14)
  have HBw14 : Hid (Below w.heap.size w w14) := Lib.hid (HBw12.out.trans (hkw14.mono HBw12.out.size))
  have zw14 : w11.heap.size ≤ w14.heap.size := by have := hkw14.size; omega
  clear hMk ba00_w12 ba01_w12 ba02_w12 ba10_w12 ba11_w12 bW00_w12 bW01_w12 bW02_w12 bx100_w12 bx101_w12 bG00_w12 bG01_w12 bG02_w12 hbw13 hkw13 hownw13 lb0w12 lb1w12 lb2w12 lb3w12 lb4w12 OWX1w12 HBw12 zw12 hbw14 hkw14
  go_wp2_with fail
  go_ret
  exact ⟨rfl, HBw14.out⟩

set_option maxRecDepth 100000 in
theorem lifted (os : Os) (started : os.Started) (H : Type) (enc : TypeId × Value → H) :
    ReturnsInHanded {} Try.checked os 19 .any (Rows.fnExactPastDrawSpec.pre6 enc Try.prog Try.f19 Rows.fnExactPastDrawRow.domain false) (Rows.fnExactPastDrawSpec.post enc Try.prog Try.f19 false true false false) := by
  refine returnsInHanded_of_change (C := Try.checked) own started (by kernel_rfl) Try.func19
    (ChangeSpec.witness6 (enc := enc) (C := Try.checked) false ⟨#[], #[.agg #[.int .i64 0, .int .u64 0, .int .u64 0], .agg #[.int .i64 0, .slice none 0 0], .int .i64 0], []⟩ 8 (by kernel_rfl) (by kernel_rfl) (by kernel_rfl) (by kernel_rfl)) ?_
  intro W base args ds gs before hval0 hW hcnd _
  have hval : ∀ (j : Nat) t v, Try.f19.params[j]? = some t → args[j]? = some v → Value.okWide Try.prog W .any base t v := hval0
  have hW' := hW
  have hlt : ∀ p ∈ before, p.block < W.heap.size := fun p hp => hW.lt p hp
  obtain ⟨p, q, hA0, hV, rfl, hfz, hnd⟩ := hW
  have hA : DataW.TrodAll enc Try.prog W 0 (fun _ => true) true Try.f19.params.toList args.toList ds p := hA0
  rw [Try.params19] at hA hval
  have hA1 := hA
  obtain ⟨v0, vs0, d0, ds0, p0, q0, hargs, rfl, rfl, h0, r0⟩ := trodAll_cons hA
  obtain ⟨v1, vs1, d1, ds1, p1, q1, rfl, rfl, rfl, h1, r1⟩ := trodAll_cons r0
  obtain ⟨v2, vs2, d2, ds2, p2, q2, rfl, rfl, rfl, h2, r2⟩ := trodAll_cons r1
  obtain ⟨rfl, rfl, rfl⟩ := trodAll_nil r2
  obtain rfl : args = #[v0, v1, v2] := by cases args; simp_all
  obtain ⟨rfl, rfl⟩ := trodVars_none hV
  obtain ⟨k0, a0, b0, rfl, bd0⟩ := open_seed (hval 0 _ _ rfl rfl) h0
  obtain ⟨n1, A1, xs1, c1, rfl, bd1, hx1, hr1, bf1⟩ := open_chain (hval 1 _ _ rfl rfl) h1
  obtain ⟨x2, rfl, -, -, wf2⟩ := open_int Try.underlying2 (hval 2 _ _ rfl rfl) h2
  have bd2 := int_bd wf2
  clear hA0 hval0
  refine (walk k0 a0 b0 n1 A1 xs1 c1 x2 W bd0 hr1 hx1 bd1 bf1 bd2).mono fun e W' ⟨he, hb⟩ => ?_
  subst he
  rw [List.append_nil] at hW' hlt
  exact ⟨_, rfl, post_of_below (pa := _) (pv := []) hW' (fun _ _ _ => (trodAll_cons_mk (shut_bool Try.underlying4 _) trodAll_mk0))
    (fun sp hsp => trodAll_below cl_laid hb _ _ _ _ (by kernel_rfl) hA1 hlt hsp) (fun _ _ => rfl) (List.append_nil _).symm hb (ok_one (by kernel_rfl) rfl (okWide_bool_mk Try.underlying4 _))⟩

theorem g0 : Try.prog.funcNamed Rows.fnExactPastDrawRow.func = some 19 := by kernel_rfl
theorem g1 : Rows.fnExactPastDrawRow.inPlace = Try.prog.inPlace 19 := by kernel_rfl
theorem g2 : Rows.fnExactPastDrawRow.unfollowed = Try.prog.unfollowed 19 := by kernel_rfl
theorem g3 : Rows.fnExactPastDrawRow.recurses = Try.prog.recurses 19 := by kernel_rfl
theorem g4 : Rows.fnExactPastDrawRow.named = Try.prog.varsNamed 19 := by kernel_rfl
theorem g5 : Rows.fnExactPastDrawRow.wf (OpenSpec.ofChange Rows.fnExactPastDrawSpec) = true := by kernel_rfl
theorem g6 : (Try.f19.params.all (Try.prog.readableRec ·)) = true := by kernel_rfl
theorem g7 : Rows.fnExactPastDrawRow.veiledFits Try.prog Try.f19.params.toList (Try.f19.params.toList ++ Try.f19.resultTypes.toList) = true := by kernel_rfl
theorem g8 : joinedFacts Try.prog 19 Try.f19 Rows.fnExactPastDrawSpec Rows.fnExactPastDrawRow = true :=
  gen_facts _ _ _ _ rfl rfl cl_laid cl_maps cl_stops cl_knobs cl_heard cl_enter cl_lifts cl_make g5 g6 rfl rfl rfl g1 g2 g3 g4
    (by as_aux_lemma => kernel_rfl) (by as_aux_lemma => kernel_rfl) (by as_aux_lemma => kernel_rfl) (by as_aux_lemma => kernel_rfl) (by as_aux_lemma => kernel_rfl) (by as_aux_lemma => kernel_rfl) (by as_aux_lemma => kernel_rfl) (by as_aux_lemma => kernel_rfl)
    cl_keys.symm rfl rfl rfl rfl rfl (by as_aux_lemma => kernel_rfl) (by as_aux_lemma => kernel_rfl) g7
theorem g9 : Try.f19.isInstance Try.prog Rows.fnExactPastDrawRow.origin Rows.fnExactPastDrawRow.targs := of_decide_eq_true (by kernel_rfl)
theorem g10 : Try.f19.isWrapper Try.prog Rows.fnExactPastDrawRow.wrapper Rows.fnExactPastDrawRow.mainSum := by
  unfold Func.isWrapper; first | (rw [if_pos (by decide +kernel)]; kernel_rfl) | (rw [if_neg (by decide +kernel)]; exact ⟨rfl, rfl⟩)
theorem over : Rows.fnExactPastDrawRow.holds Try.pinned (OpenSpec.ofChange Rows.fnExactPastDrawSpec) :=
  OpenClaim.holds_of_wide 19 Try.f19 rfl rfl rfl rfl rfl rfl rfl ⟨rfl, rfl, rfl, rfl, rfl⟩ rfl rfl rfl rfl rfl g0 Try.func19 g8 g9 g10 (fun os started H enc _ => lifted os started H enc)
theorem proved : Rows.FnExactPastDrawSaid := over
end Go.Proofs.Ytddaodjaeommlaa.lawPastDraw
