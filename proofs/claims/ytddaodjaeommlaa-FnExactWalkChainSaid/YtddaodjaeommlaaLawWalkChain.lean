/-
  impl.WalkChain returns what spec.WalkChain returns, for every seed, chain, state and number of steps (the law FnExactWalkChain returns true), in memory of its own where it gives a slice, and leaves its arguments as they were. No condition.
-/
import Derived.Test.YtddaodjaeommlaaWk2
import Derived.Test.YtddaodjaeommlaaToi
import Derived.Test.YtddaodjaeommlaaTos
import Derived.Test.YtddaodjaeommlaaOpen
import Derived.Test.YtddaodjaeommlaaOut
import Derived.Deep.RegionHeld3
import Derived.Deep.DeepCutAuto
namespace Go.Proofs.Ytddaodjaeommlaa.lawWalkChain
open Go.ChangeShapes Go.WideShapes Go.ChangeAt Go.RowKit

theorem both (k0 a0 b0 : Int) (n1 : Int) (xs1 : List Nat) (x2 : Int) (x3 : Int) (bd0 : (-9223372036854775808 ≤ k0 ∧ k0 ≤ 9223372036854775807) ∧ (0 ≤ a0 ∧ a0 < 18446744073709551616) ∧ (0 ≤ b0 ∧ b0 < 18446744073709551616)) (hx1 : xs1.length ≤ 9223372036854775807) (bd1 : -9223372036854775808 ≤ n1 ∧ n1 ≤ 9223372036854775807) (bf1 : ∀ x ∈ xs1, x < 4294967296) (bd2 : -9223372036854775808 ≤ x2 ∧ x2 ≤ 9223372036854775807) (bd3 : -9223372036854775808 ≤ x3 ∧ x3 ≤ 9223372036854775807) : ∃ (rk : Int) (ra : Int) (rb : Int) (ys : List Int) (ok : Bool), ys.length ≤ 1048576 ∧ (∀ A51 c51 w, Rd w w.heap.size A51 (fl xs1) → Calls Try.prog 64 #[.agg #[.int .i64 k0, .int .u64 a0, .int .u64 b0], .agg #[.int .i64 n1, .slice A51 xs1.length c51], .int .i64 x2, .int .i64 x3] w (fun e w' => ∃ A c, e = .returned (.tuple #[.agg #[.int .i64 rk, .int .u64 ra, .int .u64 rb], .slice A ys.length c, .bool ok]) ∧ w'.ownsRow w.heap.size 2 1 (.slice A ys.length c) ys.length (il ys) ∧ Below w.heap.size w w')) ∧
    (∀ A51 w, Rd w w.heap.size A51 (fl xs1) → Calls Try.prog 66 #[.agg #[.int .i64 k0, .int .u64 a0, .int .u64 b0], .agg #[.int .i64 n1, .slice A51 xs1.length xs1.length], .int .i64 x2, .int .i64 x3] w (fun e w' => ∃ A c, e = .returned (.tuple #[.agg #[.int .i64 rk, .int .u64 ra, .int .u64 rb], .slice A ys.length c, .bool ok]) ∧ w'.ownsRow w.heap.size 2 1 (.slice A ys.length c) ys.length (il ys) ∧ Below w.heap.size w w')) := by
  have _ubd0 := bd0
  have _uhx1 := hx1
  have _ubd1 := bd1
  have _ubf1 := bf1
  have _ubd2 := bd2
  have _ubd3 := bd3
  have hz : xs1.length ≤ xs1.length := Nat.le_refl _
  have hb0 := bd0.2.2
  cases h : walkB k0 a0 b0 n1 xs1 x2 x3 with
  | false => exact ⟨0, 0, 0, [], false, by simp, fun A c w hA => specWalkChain_bad k0 a0 b0 n1 x2 x3 A xs1 c w hb0 hx1 hA h, fun A w hA => WalkChain_bad k0 a0 b0 n1 x2 x3 A xs1 xs1.length w hb0 hz hx1 hA h⟩
  | true =>
    obtain ⟨n, i, N, rfl, rfl, rfl, h1, h2, h3, h4, -⟩ := walkB_ok h
    exact ⟨_, _, _, _, true, by rw [walkL_len]; omega, fun A c w hA => specWalkChain_ok k0 a0 b0 n i N A xs1 c w hb0 hx1 hA h, fun A w hA => WalkChain_ok k0 a0 b0 n i N A xs1 xs1.length w hb0 hz hx1 hA h⟩

set_option maxRecDepth 100000 in
set_option maxHeartbeats 12800000 in
theorem walk (k0 a0 b0 : Int) (n1 : Int) (A1 : Option Addr) (xs1 : List Nat) (c1 : Nat) (x2 : Int) (x3 : Int) (w : World) (bd0 : (-9223372036854775808 ≤ k0 ∧ k0 ≤ 9223372036854775807) ∧ (0 ≤ a0 ∧ a0 < 18446744073709551616) ∧ (0 ≤ b0 ∧ b0 < 18446744073709551616)) (h1 : Rd w w.heap.size A1 (fl xs1))  (hx1 : xs1.length ≤ 9223372036854775807) (bd1 : -9223372036854775808 ≤ n1 ∧ n1 ≤ 9223372036854775807) (bf1 : ∀ x ∈ xs1, x < 4294967296) (bd2 : -9223372036854775808 ≤ x2 ∧ x2 ≤ 9223372036854775807) (bd3 : -9223372036854775808 ≤ x3 ∧ x3 ≤ 9223372036854775807) :
    Calls Try.prog 17 #[.agg #[.int .i64 k0, .int .u64 a0, .int .u64 b0], .agg #[.int .i64 n1, .slice A1 xs1.length c1], .int .i64 x2, .int .i64 x3] w fun e w' => e = .returned (.bool true) ∧ Below w.heap.size w w' := by
  have HZ1 := Lib.hid fun w => szChain_any n1 A1 xs1.length c1 (1048576) w hx1 (by omega) (by omega)
  by_cases hl1 : (1048576 : Int) - (xs1.length : Int) < 0
  · have HL1 : Hid (leftOf (1048576) xs1.length = -1) := if_pos hl1
    clear hl1 bd0 bd1 bf1 bd2 bd3
    go_enter Try.func17, Try.ntmps17
    go_wp2_with fail
    refine (HZ1.out _).mono ?_
    rw [HL1.out]
    rintro e v0 ⟨rfl, hv0⟩
    have hu0 : Below w.heap.size w v0 := Below.trans (Below.alloc (Below.alloc (Below.refl _ _) (by simp; try omega) _) (by simp; try omega) _) (hv0.mono (by simp; try omega))
    have cc00 : v0.cell? ⟨w.heap.size, 0, none⟩ = some (.int .i64 k0) := keepC hv0 (by simp [go_sem])
    have cc01 : v0.cell? ⟨w.heap.size, 1, none⟩ = some (.int .u64 a0) := keepC hv0 (by simp [go_sem])
    have cc02 : v0.cell? ⟨w.heap.size, 2, none⟩ = some (.int .u64 b0) := keepC hv0 (by simp [go_sem])
    have cc10 : v0.cell? ⟨w.heap.size + 1, 0, none⟩ = some (.int .i64 n1) := keepC hv0 (by simp [go_sem])
    have cc11 : v0.cell? ⟨w.heap.size + 1, 1, none⟩ = some (.slice A1 xs1.length c1) := keepC hv0 (by simp [go_sem])
    clear hv0
    go_wp2_with fail
    go_ret
    exact ⟨rfl, hu0⟩
  have HL1 : Hid (leftOf (1048576) xs1.length = 1048576 - xs1.length) := if_neg hl1
  have hy1 : xs1.length ≤ 1048576 := by omega
  obtain ⟨rk, ra, rb, ys, ok, hm, HS0, HI0⟩ := both k0 a0 b0 n1 xs1 x2 x3 bd0 hx1 bd1 bf1 bd2 bd3
  have HS := Lib.hid HS0
  have HI := Lib.hid HI0
  clear HS0 HI0
  have HT0 := Lib.hid fun w => toSeed_any k0 a0 b0 w
  have HT1 := Lib.hid fun w h => toChain_any n1 A1 xs1 c1 w hy1 h
  have HX1 := Lib.hid fun A B c d w hA hB => eqChain_yes n1 A B xs1 xs1 c d w (by omega) (sameL_refl xs1) hA hB
  have HMx1 := Lib.hid fun A base c w hb ho => markChain_any n1 A base xs1.length (fl xs1) c (1) w hy1 (by omega) (by omega) hb ho
  have HE := Lib.hid fun A B c d w hA hB => eqInt64S_yes A B ys c d w (by omega) hA hB
  have HM := Lib.hid fun A base c w ho => markInt64S_any A base ys.length (il ys) c 1 w hm (by omega) (by omega) ho
  have HH := Lib.hid fun A c w hr => heldInt64S_any A ys.length c 1 w hm (by omega) (by omega) hr
  have HQ := Lib.hid fun w => eqSeed_yes rk ra rb w
  clear bd0 bd1 bf1 bd2 bd3
  have HBw : Hid (Below w.heap.size w w) := Lib.hid (Below.refl _ _)
  go_enter Try.func17, Try.ntmps17
  go_wp2_with fail
  generalize hWw1 : World.alloc (World.alloc w _) _ = w1
  have hbw1 : Below w.heap.size w w1 := by rw [← hWw1]; exact Below.alloc (Below.alloc (Below.refl _ _) (by simp; try omega) _) (by simp; try omega) _
  have sw1 : w.heap.size + 2 ≤ w1.heap.size := by rw [← hWw1]; simp
  have ba00_w1 : w1.cell? ⟨w.heap.size, 0, none⟩ = some (.int .i64 k0) := by rw [← hWw1]; simp [go_sem]
  have ba01_w1 : w1.cell? ⟨w.heap.size, 1, none⟩ = some (.int .u64 a0) := by rw [← hWw1]; simp [go_sem]
  have ba02_w1 : w1.cell? ⟨w.heap.size, 2, none⟩ = some (.int .u64 b0) := by rw [← hWw1]; simp [go_sem]
  have ba10_w1 : w1.cell? ⟨w.heap.size + 1, 0, none⟩ = some (.int .i64 n1) := by rw [← hWw1]; simp [go_sem]
  have ba11_w1 : w1.cell? ⟨w.heap.size + 1, 1, none⟩ = some (.slice A1 xs1.length c1) := by rw [← hWw1]; simp [go_sem]
  have HBw1 : Hid (Below w.heap.size w w1) := Lib.hid (HBw.out.trans (hbw1.mono HBw.out.size))
  clear HBw hWw1 hbw1
  have lb0w1 : w.heap.size < w1.heap.size := by omega
  have lb1w1 : w.heap.size + 1 < w1.heap.size := by omega
  refine (HZ1.out _).mono ?_
  rw [HL1.out]
  rintro e w2 ⟨rfl, hbw2⟩
  have lb0w2 : w.heap.size < w2.heap.size := by have := hbw2.size; omega
  have lb1w2 : w.heap.size + 1 < w2.heap.size := by have := hbw2.size; omega
  have ba00_w2 : w2.cell? ⟨w.heap.size, 0, none⟩ = some (.int .i64 k0) := keepC hbw2 ba00_w1
  have ba01_w2 : w2.cell? ⟨w.heap.size, 1, none⟩ = some (.int .u64 a0) := keepC hbw2 ba01_w1
  have ba02_w2 : w2.cell? ⟨w.heap.size, 2, none⟩ = some (.int .u64 b0) := keepC hbw2 ba02_w1
  have ba10_w2 : w2.cell? ⟨w.heap.size + 1, 0, none⟩ = some (.int .i64 n1) := keepC hbw2 ba10_w1
  have ba11_w2 : w2.cell? ⟨w.heap.size + 1, 1, none⟩ = some (.slice A1 xs1.length c1) := keepC hbw2 ba11_w1
  have HBw2 : Hid (Below w.heap.size w w2) := Lib.hid (HBw1.out.trans (hbw2.mono HBw1.out.size))
  have zw2 : w.heap.size + 2 ≤ w2.heap.size := by have := hbw2.size; omega
  clear lb0w1 lb1w1 ba00_w1 ba01_w1 ba02_w1 ba10_w1 ba11_w1 HBw1 hbw2
  go_wp2_with fail
  go_upto_region 5 with fail
  have hMk : Hid (∀ W, Below w2.heap.size w2 W → W.cell? ⟨w.heap.size, 0, none⟩ = some (.int .i64 k0) ∧ W.cell? ⟨w.heap.size, 1, none⟩ = some (.int .u64 a0) ∧ W.cell? ⟨w.heap.size, 2, none⟩ = some (.int .u64 b0) ∧ W.cell? ⟨w.heap.size + 1, 0, none⟩ = some (.int .i64 n1) ∧ W.cell? ⟨w.heap.size + 1, 1, none⟩ = some (.slice A1 xs1.length c1)) := Lib.hid fun W hW => ⟨keepC hW ba00_w2, keepC hW ba01_w2, keepC hW ba02_w2, keepC hW ba10_w2, keepC hW ba11_w2⟩
  go_cut [10, 11, 12] (fun s10 s11 s12 wx => ∃ g A c, s10 = .pointer (some ⟨g, 0, none⟩) ∧ s11 = .slice A ys.length c ∧ s12 = .bool ok ∧ wx.cell? ⟨g, 0, none⟩ = some (.int .i64 rk) ∧ wx.cell? ⟨g, 1, none⟩ = some (.int .u64 ra) ∧ wx.cell? ⟨g, 2, none⟩ = some (.int .u64 rb) ∧ wx.ownsRow w2.heap.size 2 1 (.slice A ys.length c) ys.length (il ys) ∧ Below w2.heap.size w2 wx ∧ w2.heap.size ≤ g ∧ g < wx.heap.size ∧ (∀ k, (Value.slice A ys.length c).ownBlock = some k → g ≠ k))
  case first =>
    go_region_held3 (fun W => W.cell? ⟨w.heap.size, 0, none⟩ = some (.int .i64 k0) ∧ W.cell? ⟨w.heap.size, 1, none⟩ = some (.int .u64 a0) ∧ W.cell? ⟨w.heap.size, 2, none⟩ = some (.int .u64 b0) ∧ W.cell? ⟨w.heap.size + 1, 0, none⟩ = some (.int .i64 n1) ∧ W.cell? ⟨w.heap.size + 1, 1, none⟩ = some (.slice A1 xs1.length c1))
      (first | exact hMk.out _ (by repeat (first | assumption | exact Below.refl _ _ | refine below_al ?_ _ | refine below_dr ?_ | refine below_dn ?_ _ | refine below_set ?_ _ _ (by first | exact Nat.le_refl _ | (simp; done) | (simp; omega)))))
      (first
        | (go_at_call 65; refine (HT0.out _).mono ?_; rintro e w3 ⟨rfl, hbw3⟩; have hkw3 : Below w2.heap.size w2 w3 := below_next (by repeat (first | assumption | exact Below.refl _ _ | refine below_al ?_ _ | refine below_dr ?_ | refine below_dn ?_ _ | refine below_set ?_ _ _ (by first | exact Nat.le_refl _ | (simp; done) | (simp; omega)))) hbw3; have hsw3 : w2.heap.size ≤ w3.heap.size := hkw3.size; (try (have ltw2_w3 : w2.heap.size < w3.heap.size := (by first | (have := hbw3.size; simp at this; omega) | (have := hbw3.size; omega)); have q0w2_w3 : w3.cell? ⟨w2.heap.size, 0, none⟩ = some (.int .i64 0) := keepC hbw3 (by first | assumption | (simp [go_sem]; done)); have q1w2_w3 : w3.cell? ⟨w2.heap.size, 1, none⟩ = some (.int .u64 0) := keepC hbw3 (by first | assumption | (simp [go_sem]; done)); have q2w2_w3 : w3.cell? ⟨w2.heap.size, 2, none⟩ = some (.int .u64 0) := keepC hbw3 (by first | assumption | (simp [go_sem]; done)); have fzw2_w3 : ∀ o, w3.frozen? ⟨w2.heap.size, o, none⟩ = false := fun o => (hbw3.frozen (p := ⟨w2.heap.size, o, none⟩) (by first | (show _ < _; omega) | (simp; done) | (simp; omega))).trans (by first | (simp [go_sem]; done) | (simp [*]; done)))))
        | (go_at_call_of 29 n1; refine (HT1.out _ (h1.at_ (below_next HBw2.out (by repeat (first | assumption | exact Below.refl _ _ | refine below_al ?_ _ | refine below_dr ?_ | refine below_dn ?_ _ | refine below_set ?_ _ _ (by first | exact Nat.le_refl _ | (simp; done) | (simp; omega))))))).mono ?_; rintro e w4 ⟨A4, rfl, hownw4, hbw4⟩; have rdw4 := Rd.of_own hownw4; have hkw4 : Below w2.heap.size w2 w4 := below_next (by repeat (first | assumption | exact Below.refl _ _ | refine below_al ?_ _ | refine below_dr ?_ | refine below_dn ?_ _ | refine below_set ?_ _ _ (by first | exact Nat.le_refl _ | (simp; done) | (simp; omega)))) hbw4; have hsw4 : w2.heap.size ≤ w4.heap.size := hkw4.size; have hw3_w4 : Below w3.heap.size w3 w4 := below_next (by repeat (first | assumption | exact Below.refl _ _ | refine below_al ?_ _ | refine below_dr ?_ | refine below_dn ?_ _ | refine below_set ?_ _ _ (by first | exact Nat.le_refl _ | (simp; done) | (simp; omega)))) hbw4; (try (have ltw2_w4 : w2.heap.size < w4.heap.size := (by first | (have := hbw4.size; simp at this; omega) | (have := hbw4.size; omega)); have q0w2_w4 : w4.cell? ⟨w2.heap.size, 0, none⟩ = some (.int .i64 0) := keepC hbw4 (by first | assumption | (simp [go_sem]; done)); have q1w2_w4 : w4.cell? ⟨w2.heap.size, 1, none⟩ = some (.int .u64 0) := keepC hbw4 (by first | assumption | (simp [go_sem]; done)); have q2w2_w4 : w4.cell? ⟨w2.heap.size, 2, none⟩ = some (.int .u64 0) := keepC hbw4 (by first | assumption | (simp [go_sem]; done)); have fzw2_w4 : ∀ o, w4.frozen? ⟨w2.heap.size, o, none⟩ = false := fun o => (hbw4.frozen (p := ⟨w2.heap.size, o, none⟩) (by first | (show _ < _; omega) | (simp; done) | (simp; omega))).trans (by first | (simp [go_sem]; done) | (simp [*]; done)))); (try (have ltw3_w4 : w3.heap.size < w4.heap.size := (by first | (have := hbw4.size; simp at this; omega) | (have := hbw4.size; omega)); have q0w3_w4 : w4.cell? ⟨w3.heap.size, 0, none⟩ = some (.int .i64 0) := keepC hbw4 (by first | assumption | (simp [go_sem]; done)); have q1w3_w4 : w4.cell? ⟨w3.heap.size, 1, none⟩ = some (.int .u64 0) := keepC hbw4 (by first | assumption | (simp [go_sem]; done)); have q2w3_w4 : w4.cell? ⟨w3.heap.size, 2, none⟩ = some (.int .u64 0) := keepC hbw4 (by first | assumption | (simp [go_sem]; done)); have fzw3_w4 : ∀ o, w4.frozen? ⟨w3.heap.size, o, none⟩ = false := fun o => (hbw4.frozen (p := ⟨w3.heap.size, o, none⟩) (by first | (show _ < _; omega) | (simp; done) | (simp; omega))).trans (by first | (simp [go_sem]; done) | (simp [*]; done)))))
        | (go_at_call 64; refine (HS.out A4 _ _ (rdw4.at_ (by repeat (first | assumption | exact Below.refl _ _ | refine below_al ?_ _ | refine below_dr ?_ | refine below_dn ?_ _ | refine below_set ?_ _ _ (by first | exact Nat.le_refl _ | (simp; done) | (simp; omega)))))).mono ?_; rintro e w5 ⟨A5, c5, rfl, hownw5, hbw5⟩; have hkw5 : Below w2.heap.size w2 w5 := below_next (by repeat (first | assumption | exact Below.refl _ _ | refine below_al ?_ _ | refine below_dr ?_ | refine below_dn ?_ _ | refine below_set ?_ _ _ (by first | exact Nat.le_refl _ | (simp; done) | (simp; omega)))) hbw5; have hsw5 : w2.heap.size ≤ w5.heap.size := hkw5.size; have hw3_w5 : Below w3.heap.size w3 w5 := below_next (by repeat (first | assumption | exact Below.refl _ _ | refine below_al ?_ _ | refine below_dr ?_ | refine below_dn ?_ _ | refine below_set ?_ _ _ (by first | exact Nat.le_refl _ | (simp; done) | (simp; omega)))) hbw5; have hw4_w5 : Below w4.heap.size w4 w5 := below_next (by repeat (first | assumption | exact Below.refl _ _ | refine below_al ?_ _ | refine below_dr ?_ | refine below_dn ?_ _ | refine below_set ?_ _ _ (by first | exact Nat.le_refl _ | (simp; done) | (simp; omega)))) hbw5; (try (have ltw2_w5 : w2.heap.size < w5.heap.size := (by first | (have := hbw5.size; simp at this; omega) | (have := hbw5.size; omega)); have q0w2_w5 : w5.cell? ⟨w2.heap.size, 0, none⟩ = some (.int .i64 0) := keepC hbw5 (by first | assumption | (simp [go_sem]; done)); have q1w2_w5 : w5.cell? ⟨w2.heap.size, 1, none⟩ = some (.int .u64 0) := keepC hbw5 (by first | assumption | (simp [go_sem]; done)); have q2w2_w5 : w5.cell? ⟨w2.heap.size, 2, none⟩ = some (.int .u64 0) := keepC hbw5 (by first | assumption | (simp [go_sem]; done)); have fzw2_w5 : ∀ o, w5.frozen? ⟨w2.heap.size, o, none⟩ = false := fun o => (hbw5.frozen (p := ⟨w2.heap.size, o, none⟩) (by first | (show _ < _; omega) | (simp; done) | (simp; omega))).trans (by first | (simp [go_sem]; done) | (simp [*]; done)))); (try (have ltw3_w5 : w3.heap.size < w5.heap.size := (by first | (have := hbw5.size; simp at this; omega) | (have := hbw5.size; omega)); have q0w3_w5 : w5.cell? ⟨w3.heap.size, 0, none⟩ = some (.int .i64 0) := keepC hbw5 (by first | assumption | (simp [go_sem]; done)); have q1w3_w5 : w5.cell? ⟨w3.heap.size, 1, none⟩ = some (.int .u64 0) := keepC hbw5 (by first | assumption | (simp [go_sem]; done)); have q2w3_w5 : w5.cell? ⟨w3.heap.size, 2, none⟩ = some (.int .u64 0) := keepC hbw5 (by first | assumption | (simp [go_sem]; done)); have fzw3_w5 : ∀ o, w5.frozen? ⟨w3.heap.size, o, none⟩ = false := fun o => (hbw5.frozen (p := ⟨w3.heap.size, o, none⟩) (by first | (show _ < _; omega) | (simp; done) | (simp; omega))).trans (by first | (simp [go_sem]; done) | (simp [*]; done)))); (try (have ltw4_w5 : w4.heap.size < w5.heap.size := (by first | (have := hbw5.size; simp at this; omega) | (have := hbw5.size; omega)); have q0w4_w5 : w5.cell? ⟨w4.heap.size, 0, none⟩ = some (.int .i64 0) := keepC hbw5 (by first | assumption | (simp [go_sem]; done)); have q1w4_w5 : w5.cell? ⟨w4.heap.size, 1, none⟩ = some (.int .u64 0) := keepC hbw5 (by first | assumption | (simp [go_sem]; done)); have q2w4_w5 : w5.cell? ⟨w4.heap.size, 2, none⟩ = some (.int .u64 0) := keepC hbw5 (by first | assumption | (simp [go_sem]; done)); have fzw4_w5 : ∀ o, w5.frozen? ⟨w4.heap.size, o, none⟩ = false := fun o => (hbw5.frozen (p := ⟨w4.heap.size, o, none⟩) (by first | (show _ < _; omega) | (simp; done) | (simp; omega))).trans (by first | (simp [go_sem]; done) | (simp [*]; done))))))
    all_goals (go_wp2_with fail; go_meet; exact ⟨_, A5, c5, rfl, rfl, rfl, (by first | (simp [go_sem]; done) | (simp [go_sem, q0w2_w5, q1w2_w5, q2w2_w5]; done) | (simp [go_sem, q0w3_w5, q1w3_w5, q2w3_w5]; done) | (simp [go_sem, q0w4_w5, q1w4_w5, q2w4_w5]; done)), (by first | (simp [go_sem]; done) | (simp [go_sem, q0w2_w5, q1w2_w5, q2w2_w5]; done) | (simp [go_sem, q0w3_w5, q1w3_w5, q2w3_w5]; done) | (simp [go_sem, q0w4_w5, q1w4_w5, q2w4_w5]; done)), (by first | (simp [go_sem]; done) | (simp [go_sem, q0w2_w5, q1w2_w5, q2w2_w5]; done) | (simp [go_sem, q0w3_w5, q1w3_w5, q2w3_w5]; done) | (simp [go_sem, q0w4_w5, q1w4_w5, q2w4_w5]; done)), (by first | exact own_base (hownw5.alloc _) (by first | omega | (simp; done) | (simp; omega)) | exact own_base (ownsRow_setCell_below (ownsRow_setCell_below (ownsRow_setCell_below (hownw5) (by first | (simp; done) | (simp; omega) | (show _ < _; omega)) _) (by first | (simp; done) | (simp; omega) | (show _ < _; omega)) _) (by first | (simp; done) | (simp; omega) | (show _ < _; omega)) _) (by first | omega | (simp; done) | (simp; omega))), (by repeat (first | assumption | exact Below.refl _ _ | refine below_al ?_ _ | refine below_dr ?_ | refine below_dn ?_ _ | refine below_set ?_ _ _ (by first | exact Nat.le_refl _ | (simp; done) | (simp; omega)))), (by omega), (by first | omega | (simp; done) | (simp; omega)), (fun k hk => by have h1 := (hownw5.lt k hk).1; have h2 := (hownw5.lt k hk).2; (first | omega | (simp at h1; omega)))⟩)
  rename World => w6
  obtain ⟨gw6, A6, c6, rfl, rfl, rfl, bW00_w6, bW01_w6, bW02_w6, hownw6, hkw6, low6, hiw6, new6⟩ := hcut
  obtain ⟨ba00_w6, ba01_w6, ba02_w6, ba10_w6, ba11_w6⟩ := hMk.out _ hkw6
  have lb0w6 : w.heap.size < w6.heap.size := by have := hkw6.size; omega
  have lb1w6 : w.heap.size + 1 < w6.heap.size := by have := hkw6.size; omega
  have HBw6 : Hid (Below w.heap.size w w6) := Lib.hid (HBw2.out.trans (hkw6.mono HBw2.out.size))
  have rw6 : w2.heap.size ≤ w6.heap.size := hkw6.size
  have OLW : Hid (∀ k, (Value.slice A6 ys.length c6).ownBlock = some k → w2.heap.size ≤ k ∧ k < w6.heap.size ∧ gw6 ≠ k) := Lib.hid fun k hk => ⟨(hownw6.lt k hk).1, (hownw6.lt k hk).2, new6 k hk⟩
  have OWWw6 := Lib.hid hownw6
  have lb99w6 : gw6 < w6.heap.size := hiw6
  clear hMk ba00_w2 ba01_w2 ba02_w2 ba10_w2 ba11_w2 lb0w2 lb1w2 HBw2 hownw6 new6 hkw6
  go_wp2_with fail
  refine (HT1.out _ (h1.at_ HBw6.out)).mono ?_
  rintro e w7 ⟨A7, rfl, hownw7, hbw7⟩
  have OLX1 : Hid (∀ k, (Value.slice A7 xs1.length xs1.length).ownBlock = some k → w6.heap.size ≤ k ∧ k < w7.heap.size) := Lib.hid hownw7.lt
  have OWX1w7 := Lib.hid hownw7
  have rw7 : w6.heap.size ≤ w7.heap.size := hbw7.size
  have lb0w7 : w.heap.size < w7.heap.size := by have := hbw7.size; omega
  have lb1w7 : w.heap.size + 1 < w7.heap.size := by have := hbw7.size; omega
  have lb2w7 : gw6 < w7.heap.size := by have := hbw7.size; omega
  have ba00_w7 : w7.cell? ⟨w.heap.size, 0, none⟩ = some (.int .i64 k0) := keepC hbw7 ba00_w6
  have ba01_w7 : w7.cell? ⟨w.heap.size, 1, none⟩ = some (.int .u64 a0) := keepC hbw7 ba01_w6
  have ba02_w7 : w7.cell? ⟨w.heap.size, 2, none⟩ = some (.int .u64 b0) := keepC hbw7 ba02_w6
  have ba10_w7 : w7.cell? ⟨w.heap.size + 1, 0, none⟩ = some (.int .i64 n1) := keepC hbw7 ba10_w6
  have ba11_w7 : w7.cell? ⟨w.heap.size + 1, 1, none⟩ = some (.slice A1 xs1.length c1) := keepC hbw7 ba11_w6
  have bW00_w7 : w7.cell? ⟨gw6, 0, none⟩ = some (.int .i64 rk) := keepC hbw7 bW00_w6
  have bW01_w7 : w7.cell? ⟨gw6, 1, none⟩ = some (.int .u64 ra) := keepC hbw7 bW01_w6
  have bW02_w7 : w7.cell? ⟨gw6, 2, none⟩ = some (.int .u64 rb) := keepC hbw7 bW02_w6
  have OWWw7 := Lib.hid (own_below OWWw6.out hbw7)
  have HBw7 : Hid (Below w.heap.size w w7) := Lib.hid (HBw6.out.trans (hbw7.mono HBw6.out.size))
  clear lb0w6 lb1w6 lb99w6 ba00_w6 ba01_w6 ba02_w6 ba10_w6 ba11_w6 bW00_w6 bW01_w6 bW02_w6 OWWw6 HBw6 hbw7 hownw7
  go_wp2_with fail
  generalize hWw8 : World.alloc w7 _ = w8
  have hbw8 : Below w7.heap.size w7 w8 := by rw [← hWw8]; exact Below.alloc (Below.refl _ _) (by simp; try omega) _
  have sw8 : w7.heap.size + 1 ≤ w8.heap.size := by rw [← hWw8]; simp
  have bx100_w8 : w8.cell? ⟨w7.heap.size, 0, none⟩ = some (.int .i64 n1) := by rw [← hWw8]; simp [go_sem]
  have bx101_w8 : w8.cell? ⟨w7.heap.size, 1, none⟩ = some (.slice A7 xs1.length xs1.length) := by rw [← hWw8]; simp [go_sem]
  have lb0w8 : w.heap.size < w8.heap.size := by have := hbw8.size; omega
  have lb1w8 : w.heap.size + 1 < w8.heap.size := by have := hbw8.size; omega
  have lb2w8 : gw6 < w8.heap.size := by have := hbw8.size; omega
  have ba00_w8 : w8.cell? ⟨w.heap.size, 0, none⟩ = some (.int .i64 k0) := keepC hbw8 ba00_w7
  have ba01_w8 : w8.cell? ⟨w.heap.size, 1, none⟩ = some (.int .u64 a0) := keepC hbw8 ba01_w7
  have ba02_w8 : w8.cell? ⟨w.heap.size, 2, none⟩ = some (.int .u64 b0) := keepC hbw8 ba02_w7
  have ba10_w8 : w8.cell? ⟨w.heap.size + 1, 0, none⟩ = some (.int .i64 n1) := keepC hbw8 ba10_w7
  have ba11_w8 : w8.cell? ⟨w.heap.size + 1, 1, none⟩ = some (.slice A1 xs1.length c1) := keepC hbw8 ba11_w7
  have bW00_w8 : w8.cell? ⟨gw6, 0, none⟩ = some (.int .i64 rk) := keepC hbw8 bW00_w7
  have bW01_w8 : w8.cell? ⟨gw6, 1, none⟩ = some (.int .u64 ra) := keepC hbw8 bW01_w7
  have bW02_w8 : w8.cell? ⟨gw6, 2, none⟩ = some (.int .u64 rb) := keepC hbw8 bW02_w7
  have OWWw8 := Lib.hid (own_below OWWw7.out hbw8)
  have OWX1w8 := Lib.hid (own_below OWX1w7.out hbw8)
  have HBw8 : Hid (Below w.heap.size w w8) := Lib.hid (HBw7.out.trans (hbw8.mono HBw7.out.size))
  clear lb0w7 lb1w7 lb2w7 ba00_w7 ba01_w7 ba02_w7 ba10_w7 ba11_w7 bW00_w7 bW01_w7 bW02_w7 OWWw7 OWX1w7 HBw7 hWw8 hbw8
  have lb3w8 : w7.heap.size < w8.heap.size := by omega
  go_upto_region 7 with fail
  have hMk : Hid (∀ W, Below w8.heap.size w8 W → W.cell? ⟨w.heap.size, 0, none⟩ = some (.int .i64 k0) ∧ W.cell? ⟨w.heap.size, 1, none⟩ = some (.int .u64 a0) ∧ W.cell? ⟨w.heap.size, 2, none⟩ = some (.int .u64 b0) ∧ W.cell? ⟨w.heap.size + 1, 0, none⟩ = some (.int .i64 n1) ∧ W.cell? ⟨w.heap.size + 1, 1, none⟩ = some (.slice A1 xs1.length c1) ∧ W.cell? ⟨gw6, 0, none⟩ = some (.int .i64 rk) ∧ W.cell? ⟨gw6, 1, none⟩ = some (.int .u64 ra) ∧ W.cell? ⟨gw6, 2, none⟩ = some (.int .u64 rb) ∧ W.cell? ⟨w7.heap.size, 0, none⟩ = some (.int .i64 n1) ∧ W.cell? ⟨w7.heap.size, 1, none⟩ = some (.slice A7 xs1.length xs1.length)) := Lib.hid fun W hW => ⟨keepC hW ba00_w8, keepC hW ba01_w8, keepC hW ba02_w8, keepC hW ba10_w8, keepC hW ba11_w8, keepC hW bW00_w8, keepC hW bW01_w8, keepC hW bW02_w8, keepC hW bx100_w8, keepC hW bx101_w8⟩
  go_cut [14, 15, 16] (fun s14 s15 s16 wx => ∃ g A c, s14 = .pointer (some ⟨g, 0, none⟩) ∧ s15 = .slice A ys.length c ∧ s16 = .bool ok ∧ wx.cell? ⟨g, 0, none⟩ = some (.int .i64 rk) ∧ wx.cell? ⟨g, 1, none⟩ = some (.int .u64 ra) ∧ wx.cell? ⟨g, 2, none⟩ = some (.int .u64 rb) ∧ wx.ownsRow w8.heap.size 2 1 (.slice A ys.length c) ys.length (il ys) ∧ Below w8.heap.size w8 wx ∧ w8.heap.size ≤ g ∧ g < wx.heap.size ∧ (∀ k, (Value.slice A ys.length c).ownBlock = some k → g ≠ k))
  case first =>
    go_region_held3 (fun W => W.cell? ⟨w.heap.size, 0, none⟩ = some (.int .i64 k0) ∧ W.cell? ⟨w.heap.size, 1, none⟩ = some (.int .u64 a0) ∧ W.cell? ⟨w.heap.size, 2, none⟩ = some (.int .u64 b0) ∧ W.cell? ⟨w.heap.size + 1, 0, none⟩ = some (.int .i64 n1) ∧ W.cell? ⟨w.heap.size + 1, 1, none⟩ = some (.slice A1 xs1.length c1) ∧ W.cell? ⟨gw6, 0, none⟩ = some (.int .i64 rk) ∧ W.cell? ⟨gw6, 1, none⟩ = some (.int .u64 ra) ∧ W.cell? ⟨gw6, 2, none⟩ = some (.int .u64 rb) ∧ W.cell? ⟨w7.heap.size, 0, none⟩ = some (.int .i64 n1) ∧ W.cell? ⟨w7.heap.size, 1, none⟩ = some (.slice A7 xs1.length xs1.length))
      (first | exact hMk.out _ (by repeat (first | assumption | exact Below.refl _ _ | refine below_al ?_ _ | refine below_dr ?_ | refine below_dn ?_ _ | refine below_set ?_ _ _ (by first | exact Nat.le_refl _ | (simp; done) | (simp; omega)))))
      (first
        | (go_at_call 65; refine (HT0.out _).mono ?_; rintro e w9 ⟨rfl, hbw9⟩; have hkw9 : Below w8.heap.size w8 w9 := below_next (by repeat (first | assumption | exact Below.refl _ _ | refine below_al ?_ _ | refine below_dr ?_ | refine below_dn ?_ _ | refine below_set ?_ _ _ (by first | exact Nat.le_refl _ | (simp; done) | (simp; omega)))) hbw9; have hsw9 : w8.heap.size ≤ w9.heap.size := hkw9.size; (try (have ltw8_w9 : w8.heap.size < w9.heap.size := (by first | (have := hbw9.size; simp at this; omega) | (have := hbw9.size; omega)); have q0w8_w9 : w9.cell? ⟨w8.heap.size, 0, none⟩ = some (.int .i64 0) := keepC hbw9 (by first | assumption | (simp [go_sem]; done)); have q1w8_w9 : w9.cell? ⟨w8.heap.size, 1, none⟩ = some (.int .u64 0) := keepC hbw9 (by first | assumption | (simp [go_sem]; done)); have q2w8_w9 : w9.cell? ⟨w8.heap.size, 2, none⟩ = some (.int .u64 0) := keepC hbw9 (by first | assumption | (simp [go_sem]; done)); have fzw8_w9 : ∀ o, w9.frozen? ⟨w8.heap.size, o, none⟩ = false := fun o => (hbw9.frozen (p := ⟨w8.heap.size, o, none⟩) (by first | (show _ < _; omega) | (simp; done) | (simp; omega))).trans (by first | (simp [go_sem]; done) | (simp [*]; done)))))
        | (go_at_call 66; refine (HI.out A7 _ ((Rd.of_own OWX1w8.out).at_ (by repeat (first | assumption | exact Below.refl _ _ | refine below_al ?_ _ | refine below_dr ?_ | refine below_dn ?_ _ | refine below_set ?_ _ _ (by first | exact Nat.le_refl _ | (simp; done) | (simp; omega)))))).mono ?_; rintro e w10 ⟨A10, c10, rfl, hownw10, hbw10⟩; have hkw10 : Below w8.heap.size w8 w10 := below_next (by repeat (first | assumption | exact Below.refl _ _ | refine below_al ?_ _ | refine below_dr ?_ | refine below_dn ?_ _ | refine below_set ?_ _ _ (by first | exact Nat.le_refl _ | (simp; done) | (simp; omega)))) hbw10; have hsw10 : w8.heap.size ≤ w10.heap.size := hkw10.size; have hw9_w10 : Below w9.heap.size w9 w10 := below_next (by repeat (first | assumption | exact Below.refl _ _ | refine below_al ?_ _ | refine below_dr ?_ | refine below_dn ?_ _ | refine below_set ?_ _ _ (by first | exact Nat.le_refl _ | (simp; done) | (simp; omega)))) hbw10; (try (have ltw8_w10 : w8.heap.size < w10.heap.size := (by first | (have := hbw10.size; simp at this; omega) | (have := hbw10.size; omega)); have q0w8_w10 : w10.cell? ⟨w8.heap.size, 0, none⟩ = some (.int .i64 0) := keepC hbw10 (by first | assumption | (simp [go_sem]; done)); have q1w8_w10 : w10.cell? ⟨w8.heap.size, 1, none⟩ = some (.int .u64 0) := keepC hbw10 (by first | assumption | (simp [go_sem]; done)); have q2w8_w10 : w10.cell? ⟨w8.heap.size, 2, none⟩ = some (.int .u64 0) := keepC hbw10 (by first | assumption | (simp [go_sem]; done)); have fzw8_w10 : ∀ o, w10.frozen? ⟨w8.heap.size, o, none⟩ = false := fun o => (hbw10.frozen (p := ⟨w8.heap.size, o, none⟩) (by first | (show _ < _; omega) | (simp; done) | (simp; omega))).trans (by first | (simp [go_sem]; done) | (simp [*]; done)))); (try (have ltw9_w10 : w9.heap.size < w10.heap.size := (by first | (have := hbw10.size; simp at this; omega) | (have := hbw10.size; omega)); have q0w9_w10 : w10.cell? ⟨w9.heap.size, 0, none⟩ = some (.int .i64 0) := keepC hbw10 (by first | assumption | (simp [go_sem]; done)); have q1w9_w10 : w10.cell? ⟨w9.heap.size, 1, none⟩ = some (.int .u64 0) := keepC hbw10 (by first | assumption | (simp [go_sem]; done)); have q2w9_w10 : w10.cell? ⟨w9.heap.size, 2, none⟩ = some (.int .u64 0) := keepC hbw10 (by first | assumption | (simp [go_sem]; done)); have fzw9_w10 : ∀ o, w10.frozen? ⟨w9.heap.size, o, none⟩ = false := fun o => (hbw10.frozen (p := ⟨w9.heap.size, o, none⟩) (by first | (show _ < _; omega) | (simp; done) | (simp; omega))).trans (by first | (simp [go_sem]; done) | (simp [*]; done))))))
    all_goals (go_wp2_with fail; go_meet; exact ⟨_, A10, c10, rfl, rfl, rfl, (by first | (simp [go_sem]; done) | (simp [go_sem, q0w8_w10, q1w8_w10, q2w8_w10]; done) | (simp [go_sem, q0w9_w10, q1w9_w10, q2w9_w10]; done)), (by first | (simp [go_sem]; done) | (simp [go_sem, q0w8_w10, q1w8_w10, q2w8_w10]; done) | (simp [go_sem, q0w9_w10, q1w9_w10, q2w9_w10]; done)), (by first | (simp [go_sem]; done) | (simp [go_sem, q0w8_w10, q1w8_w10, q2w8_w10]; done) | (simp [go_sem, q0w9_w10, q1w9_w10, q2w9_w10]; done)), (by first | exact own_base (hownw10.alloc _) (by first | omega | (simp; done) | (simp; omega)) | exact own_base (ownsRow_setCell_below (ownsRow_setCell_below (ownsRow_setCell_below (hownw10) (by first | (simp; done) | (simp; omega) | (show _ < _; omega)) _) (by first | (simp; done) | (simp; omega) | (show _ < _; omega)) _) (by first | (simp; done) | (simp; omega) | (show _ < _; omega)) _) (by first | omega | (simp; done) | (simp; omega))), (by repeat (first | assumption | exact Below.refl _ _ | refine below_al ?_ _ | refine below_dr ?_ | refine below_dn ?_ _ | refine below_set ?_ _ _ (by first | exact Nat.le_refl _ | (simp; done) | (simp; omega)))), (by omega), (by first | omega | (simp; done) | (simp; omega)), (fun k hk => by have h1 := (hownw10.lt k hk).1; have h2 := (hownw10.lt k hk).2; (first | omega | (simp at h1; omega)))⟩)
  rename World => w11
  obtain ⟨gw11, A11, c11, rfl, rfl, rfl, bG00_w11, bG01_w11, bG02_w11, hownw11, hkw11, low11, hiw11, new11⟩ := hcut
  obtain ⟨ba00_w11, ba01_w11, ba02_w11, ba10_w11, ba11_w11, bW00_w11, bW01_w11, bW02_w11, bx100_w11, bx101_w11⟩ := hMk.out _ hkw11
  have lb0w11 : w.heap.size < w11.heap.size := by have := hkw11.size; omega
  have lb1w11 : w.heap.size + 1 < w11.heap.size := by have := hkw11.size; omega
  have lb2w11 : gw6 < w11.heap.size := by have := hkw11.size; omega
  have lb3w11 : w7.heap.size < w11.heap.size := by have := hkw11.size; omega
  have OWWw11 := Lib.hid (own_below OWWw8.out hkw11)
  have OWX1w11 := Lib.hid (own_below OWX1w8.out hkw11)
  have HBw11 : Hid (Below w.heap.size w w11) := Lib.hid (HBw8.out.trans (hkw11.mono HBw8.out.size))
  have rw11 : w8.heap.size ≤ w11.heap.size := hkw11.size
  have OLG : Hid (∀ k, (Value.slice A11 ys.length c11).ownBlock = some k → w8.heap.size ≤ k ∧ k < w11.heap.size ∧ gw11 ≠ k) := Lib.hid fun k hk => ⟨(hownw11.lt k hk).1, (hownw11.lt k hk).2, new11 k hk⟩
  have OWGw11 := Lib.hid hownw11
  have lb99w11 : gw11 < w11.heap.size := hiw11
  clear hMk ba00_w8 ba01_w8 ba02_w8 ba10_w8 ba11_w8 bW00_w8 bW01_w8 bW02_w8 bx100_w8 bx101_w8 lb0w8 lb1w8 lb2w8 lb3w8 OWWw8 OWX1w8 HBw8 hownw11 new11 hkw11
  go_wp2_with fail
  go_wp2_with fail
  refine (HQ.out _).mono ?_
  rintro e w12 ⟨rfl, hbw12⟩
  have lb0w12 : w.heap.size < w12.heap.size := by have := hbw12.size; omega
  have lb1w12 : w.heap.size + 1 < w12.heap.size := by have := hbw12.size; omega
  have lb2w12 : gw6 < w12.heap.size := by have := hbw12.size; omega
  have lb3w12 : w7.heap.size < w12.heap.size := by have := hbw12.size; omega
  have lb4w12 : gw11 < w12.heap.size := by have := hbw12.size; omega
  have ba00_w12 : w12.cell? ⟨w.heap.size, 0, none⟩ = some (.int .i64 k0) := keepC hbw12 ba00_w11
  have ba01_w12 : w12.cell? ⟨w.heap.size, 1, none⟩ = some (.int .u64 a0) := keepC hbw12 ba01_w11
  have ba02_w12 : w12.cell? ⟨w.heap.size, 2, none⟩ = some (.int .u64 b0) := keepC hbw12 ba02_w11
  have ba10_w12 : w12.cell? ⟨w.heap.size + 1, 0, none⟩ = some (.int .i64 n1) := keepC hbw12 ba10_w11
  have ba11_w12 : w12.cell? ⟨w.heap.size + 1, 1, none⟩ = some (.slice A1 xs1.length c1) := keepC hbw12 ba11_w11
  have bW00_w12 : w12.cell? ⟨gw6, 0, none⟩ = some (.int .i64 rk) := keepC hbw12 bW00_w11
  have bW01_w12 : w12.cell? ⟨gw6, 1, none⟩ = some (.int .u64 ra) := keepC hbw12 bW01_w11
  have bW02_w12 : w12.cell? ⟨gw6, 2, none⟩ = some (.int .u64 rb) := keepC hbw12 bW02_w11
  have bx100_w12 : w12.cell? ⟨w7.heap.size, 0, none⟩ = some (.int .i64 n1) := keepC hbw12 bx100_w11
  have bx101_w12 : w12.cell? ⟨w7.heap.size, 1, none⟩ = some (.slice A7 xs1.length xs1.length) := keepC hbw12 bx101_w11
  have bG00_w12 : w12.cell? ⟨gw11, 0, none⟩ = some (.int .i64 rk) := keepC hbw12 bG00_w11
  have bG01_w12 : w12.cell? ⟨gw11, 1, none⟩ = some (.int .u64 ra) := keepC hbw12 bG01_w11
  have bG02_w12 : w12.cell? ⟨gw11, 2, none⟩ = some (.int .u64 rb) := keepC hbw12 bG02_w11
  have OWWw12 := Lib.hid (own_below OWWw11.out hbw12)
  have OWX1w12 := Lib.hid (own_below OWX1w11.out hbw12)
  have OWGw12 := Lib.hid (own_below OWGw11.out hbw12)
  have HBw12 : Hid (Below w.heap.size w w12) := Lib.hid (HBw11.out.trans (hbw12.mono HBw11.out.size))
  have zw12 : w11.heap.size ≤ w12.heap.size := by have := hbw12.size; omega
  clear lb0w11 lb1w11 lb2w11 lb3w11 lb99w11 ba00_w11 ba01_w11 ba02_w11 ba10_w11 ba11_w11 bW00_w11 bW01_w11 bW02_w11 bx100_w11 bx101_w11 bG00_w11 bG01_w11 bG02_w11 OWWw11 OWX1w11 OWGw11 HBw11 hbw12
  go_wp2_with fail
  refine (HE.out A11 A6 c11 c6 _ (Rd.of_own OWGw12.out) (Rd.of_own OWWw12.out)).mono ?_
  rintro e w13 hqw13
  obtain ⟨rfl, hbw13⟩ := hqw13.below
  have lb0w13 : w.heap.size < w13.heap.size := by have := hbw13.size; omega
  have lb1w13 : w.heap.size + 1 < w13.heap.size := by have := hbw13.size; omega
  have lb2w13 : gw6 < w13.heap.size := by have := hbw13.size; omega
  have lb3w13 : w7.heap.size < w13.heap.size := by have := hbw13.size; omega
  have lb4w13 : gw11 < w13.heap.size := by have := hbw13.size; omega
  have ba00_w13 : w13.cell? ⟨w.heap.size, 0, none⟩ = some (.int .i64 k0) := keepC hbw13 ba00_w12
  have ba01_w13 : w13.cell? ⟨w.heap.size, 1, none⟩ = some (.int .u64 a0) := keepC hbw13 ba01_w12
  have ba02_w13 : w13.cell? ⟨w.heap.size, 2, none⟩ = some (.int .u64 b0) := keepC hbw13 ba02_w12
  have ba10_w13 : w13.cell? ⟨w.heap.size + 1, 0, none⟩ = some (.int .i64 n1) := keepC hbw13 ba10_w12
  have ba11_w13 : w13.cell? ⟨w.heap.size + 1, 1, none⟩ = some (.slice A1 xs1.length c1) := keepC hbw13 ba11_w12
  have bW00_w13 : w13.cell? ⟨gw6, 0, none⟩ = some (.int .i64 rk) := keepC hbw13 bW00_w12
  have bW01_w13 : w13.cell? ⟨gw6, 1, none⟩ = some (.int .u64 ra) := keepC hbw13 bW01_w12
  have bW02_w13 : w13.cell? ⟨gw6, 2, none⟩ = some (.int .u64 rb) := keepC hbw13 bW02_w12
  have bx100_w13 : w13.cell? ⟨w7.heap.size, 0, none⟩ = some (.int .i64 n1) := keepC hbw13 bx100_w12
  have bx101_w13 : w13.cell? ⟨w7.heap.size, 1, none⟩ = some (.slice A7 xs1.length xs1.length) := keepC hbw13 bx101_w12
  have bG00_w13 : w13.cell? ⟨gw11, 0, none⟩ = some (.int .i64 rk) := keepC hbw13 bG00_w12
  have bG01_w13 : w13.cell? ⟨gw11, 1, none⟩ = some (.int .u64 ra) := keepC hbw13 bG01_w12
  have bG02_w13 : w13.cell? ⟨gw11, 2, none⟩ = some (.int .u64 rb) := keepC hbw13 bG02_w12
  have OWWw13 := Lib.hid (own_below OWWw12.out hbw13)
  have OWX1w13 := Lib.hid (own_below OWX1w12.out hbw13)
  have OWGw13 := Lib.hid (own_below OWGw12.out hbw13)
  have HBw13 : Hid (Below w.heap.size w w13) := Lib.hid (HBw12.out.trans (hbw13.mono HBw12.out.size))
  have zw13 : w11.heap.size ≤ w13.heap.size := by have := hbw13.size; omega
  clear lb0w12 lb1w12 lb2w12 lb3w12 lb4w12 ba00_w12 ba01_w12 ba02_w12 ba10_w12 ba11_w12 bW00_w12 bW01_w12 bW02_w12 bx100_w12 bx101_w12 bG00_w12 bG01_w12 bG02_w12 OWWw12 OWX1w12 OWGw12 HBw12 zw12 hbw13 hqw13
  go_wp2_with fail
  have hMk : Hid (∀ W, Below w13.heap.size w13 W → W.cell? ⟨w.heap.size, 0, none⟩ = some (.int .i64 k0) ∧ W.cell? ⟨w.heap.size, 1, none⟩ = some (.int .u64 a0) ∧ W.cell? ⟨w.heap.size, 2, none⟩ = some (.int .u64 b0) ∧ W.cell? ⟨w.heap.size + 1, 0, none⟩ = some (.int .i64 n1) ∧ W.cell? ⟨w.heap.size + 1, 1, none⟩ = some (.slice A1 xs1.length c1) ∧ W.cell? ⟨gw6, 0, none⟩ = some (.int .i64 rk) ∧ W.cell? ⟨gw6, 1, none⟩ = some (.int .u64 ra) ∧ W.cell? ⟨gw6, 2, none⟩ = some (.int .u64 rb) ∧ W.cell? ⟨w7.heap.size, 0, none⟩ = some (.int .i64 n1) ∧ W.cell? ⟨w7.heap.size, 1, none⟩ = some (.slice A7 xs1.length xs1.length) ∧ W.cell? ⟨gw11, 0, none⟩ = some (.int .i64 rk) ∧ W.cell? ⟨gw11, 1, none⟩ = some (.int .u64 ra) ∧ W.cell? ⟨gw11, 2, none⟩ = some (.int .u64 rb)) := Lib.hid fun W hW => ⟨keepC hW ba00_w13, keepC hW ba01_w13, keepC hW ba02_w13, keepC hW ba10_w13, keepC hW ba11_w13, keepC hW bW00_w13, keepC hW bW01_w13, keepC hW bW02_w13, keepC hW bx100_w13, keepC hW bx101_w13, keepC hW bG00_w13, keepC hW bG01_w13, keepC hW bG02_w13⟩
  go_region_held3 (fun W => W.cell? ⟨w.heap.size, 0, none⟩ = some (.int .i64 k0) ∧ W.cell? ⟨w.heap.size, 1, none⟩ = some (.int .u64 a0) ∧ W.cell? ⟨w.heap.size, 2, none⟩ = some (.int .u64 b0) ∧ W.cell? ⟨w.heap.size + 1, 0, none⟩ = some (.int .i64 n1) ∧ W.cell? ⟨w.heap.size + 1, 1, none⟩ = some (.slice A1 xs1.length c1) ∧ W.cell? ⟨gw6, 0, none⟩ = some (.int .i64 rk) ∧ W.cell? ⟨gw6, 1, none⟩ = some (.int .u64 ra) ∧ W.cell? ⟨gw6, 2, none⟩ = some (.int .u64 rb) ∧ W.cell? ⟨w7.heap.size, 0, none⟩ = some (.int .i64 n1) ∧ W.cell? ⟨w7.heap.size, 1, none⟩ = some (.slice A7 xs1.length xs1.length) ∧ W.cell? ⟨gw11, 0, none⟩ = some (.int .i64 rk) ∧ W.cell? ⟨gw11, 1, none⟩ = some (.int .u64 ra) ∧ W.cell? ⟨gw11, 2, none⟩ = some (.int .u64 rb))
    (first | exact hMk.out _ ((Below.refl _ _).drew) | exact hMk.out _ (by assumption))
    (first
      | (go_at_call 29; refine (HT1.out _ (h1.at_ HBw13.out.drew)).mono ?_; rintro e w14 ⟨A14, rfl, hownw14, hbw14⟩; have hkw14 : Below w13.heap.size w13 w14 := Below.trans (Below.refl _ _).drew hbw14)
      | (go_at_call 31; refine (HX1.out _ _ _ _ _ ((Rd.of_own OWX1w13.out).at_ hkw14) (Rd.of_own hownw14)).mono ?_; rintro e w15 ⟨rfl, hbw15⟩; have hkw15 : Below w13.heap.size w13 w15 := hkw14.trans (hbw15.mono hkw14.size)))
  obtain ⟨ba00_w15, ba01_w15, ba02_w15, ba10_w15, ba11_w15, bW00_w15, bW01_w15, bW02_w15, bx100_w15, bx101_w15, bG00_w15, bG01_w15, bG02_w15⟩ := hMk.out _ hkw15
  have lb0w15 : w.heap.size < w15.heap.size := by have := hkw15.size; omega
  have lb1w15 : w.heap.size + 1 < w15.heap.size := by have := hkw15.size; omega
  have lb2w15 : gw6 < w15.heap.size := by have := hkw15.size; omega
  have lb3w15 : w7.heap.size < w15.heap.size := by have := hkw15.size; omega
  have lb4w15 : gw11 < w15.heap.size := by have := hkw15.size; omega
  have OWWw15 := Lib.hid (own_below OWWw13.out hkw15)
  have OWX1w15 := Lib.hid (own_below OWX1w13.out hkw15)
  have OWGw15 := Lib.hid (own_below OWGw13.out hkw15)
  have HBw15 : Hid (Below w.heap.size w w15) := Lib.hid (HBw13.out.trans (hkw15.mono HBw13.out.size))
  have zw15 : w11.heap.size ≤ w15.heap.size := by have := hkw15.size; omega
  clear hMk ba00_w13 ba01_w13 ba02_w13 ba10_w13 ba11_w13 bW00_w13 bW01_w13 bW02_w13 bx100_w13 bx101_w13 bG00_w13 bG01_w13 bG02_w13 hbw14 hkw14 hownw14 lb0w13 lb1w13 lb2w13 lb3w13 lb4w13 OWWw13 OWX1w13 OWGw13 HBw13 zw13 hbw15 hkw15
  go_wp2_with fail
  refine (HMx1.out A7 _ _ w15 (by omega) OWX1w15.out).mono ?_
  rintro e w16 ⟨rfl, hownw16, hgw16⟩
  have ndw16 : ∀ k, (k < w6.heap.size ∨ w7.heap.size ≤ k) → some k ≠ (Value.slice A7 xs1.length xs1.length).ownBlock := fun k hk h => by have := OLX1.out _ h.symm; omega
  have lb0w16 : w.heap.size < w16.heap.size := by have := hgw16.size; omega
  have lb1w16 : w.heap.size + 1 < w16.heap.size := by have := hgw16.size; omega
  have lb2w16 : gw6 < w16.heap.size := by have := hgw16.size; omega
  have lb3w16 : w7.heap.size < w16.heap.size := by have := hgw16.size; omega
  have lb4w16 : gw11 < w16.heap.size := by have := hgw16.size; omega
  have ba00_w16 : w16.cell? ⟨w.heap.size, 0, none⟩ = some (.int .i64 k0) := hgw16.cell ba00_w15 (ndw16 (w.heap.size) (by omega))
  have ba01_w16 : w16.cell? ⟨w.heap.size, 1, none⟩ = some (.int .u64 a0) := hgw16.cell ba01_w15 (ndw16 (w.heap.size) (by omega))
  have ba02_w16 : w16.cell? ⟨w.heap.size, 2, none⟩ = some (.int .u64 b0) := hgw16.cell ba02_w15 (ndw16 (w.heap.size) (by omega))
  have ba10_w16 : w16.cell? ⟨w.heap.size + 1, 0, none⟩ = some (.int .i64 n1) := hgw16.cell ba10_w15 (ndw16 (w.heap.size + 1) (by omega))
  have ba11_w16 : w16.cell? ⟨w.heap.size + 1, 1, none⟩ = some (.slice A1 xs1.length c1) := hgw16.cell ba11_w15 (ndw16 (w.heap.size + 1) (by omega))
  have bW00_w16 : w16.cell? ⟨gw6, 0, none⟩ = some (.int .i64 rk) := hgw16.cell bW00_w15 (ndw16 (gw6) (by omega))
  have bW01_w16 : w16.cell? ⟨gw6, 1, none⟩ = some (.int .u64 ra) := hgw16.cell bW01_w15 (ndw16 (gw6) (by omega))
  have bW02_w16 : w16.cell? ⟨gw6, 2, none⟩ = some (.int .u64 rb) := hgw16.cell bW02_w15 (ndw16 (gw6) (by omega))
  have bx100_w16 : w16.cell? ⟨w7.heap.size, 0, none⟩ = some (.int .i64 n1) := hgw16.cell bx100_w15 (ndw16 (w7.heap.size) (by omega))
  have bx101_w16 : w16.cell? ⟨w7.heap.size, 1, none⟩ = some (.slice A7 xs1.length xs1.length) := hgw16.cell bx101_w15 (ndw16 (w7.heap.size) (by omega))
  have bG00_w16 : w16.cell? ⟨gw11, 0, none⟩ = some (.int .i64 rk) := hgw16.cell bG00_w15 (ndw16 (gw11) (by omega))
  have bG01_w16 : w16.cell? ⟨gw11, 1, none⟩ = some (.int .u64 ra) := hgw16.cell bG01_w15 (ndw16 (gw11) (by omega))
  have bG02_w16 : w16.cell? ⟨gw11, 2, none⟩ = some (.int .u64 rb) := hgw16.cell bG02_w15 (ndw16 (gw11) (by omega))
  have OWWw16 := Lib.hid (OWWw15.out.kept hgw16 (by
    cases hv : (Value.slice A6 ys.length c6).ownBlock with
    | none => exact .inl rfl
    | some k => exact .inr (ndw16 k (by have := OLW.out k hv; omega))))
  have OWX1w16 := Lib.hid hownw16
  have OWGw16 := Lib.hid (OWGw15.out.kept hgw16 (by
    cases hv : (Value.slice A11 ys.length c11).ownBlock with
    | none => exact .inl rfl
    | some k => exact .inr (ndw16 k (by have := OLG.out k hv; omega))))
  have HBw16 : Hid (Below w.heap.size w w16) := Lib.hid (HBw15.out.grown hgw16 HBw15.out.size (fun k hk => by have := (OLX1.out k hk).1; have := HBw15.out.size; omega))
  have zw16 : w11.heap.size ≤ w16.heap.size := by have := hgw16.size; omega
  clear ndw16 hgw16 hownw16 lb0w15 lb1w15 lb2w15 lb3w15 lb4w15 ba00_w15 ba01_w15 ba02_w15 ba10_w15 ba11_w15 bW00_w15 bW01_w15 bW02_w15 bx100_w15 bx101_w15 bG00_w15 bG01_w15 bG02_w15 OWWw15 OWX1w15 OWGw15 HBw15 zw15
  go_wp2_with fail
  refine (HQ.out _).mono ?_
  rintro e w17 ⟨rfl, hbw17⟩
  have lb0w17 : w.heap.size < w17.heap.size := by have := hbw17.size; omega
  have lb1w17 : w.heap.size + 1 < w17.heap.size := by have := hbw17.size; omega
  have lb2w17 : gw6 < w17.heap.size := by have := hbw17.size; omega
  have lb3w17 : w7.heap.size < w17.heap.size := by have := hbw17.size; omega
  have lb4w17 : gw11 < w17.heap.size := by have := hbw17.size; omega
  have ba00_w17 : w17.cell? ⟨w.heap.size, 0, none⟩ = some (.int .i64 k0) := keepC hbw17 ba00_w16
  have ba01_w17 : w17.cell? ⟨w.heap.size, 1, none⟩ = some (.int .u64 a0) := keepC hbw17 ba01_w16
  have ba02_w17 : w17.cell? ⟨w.heap.size, 2, none⟩ = some (.int .u64 b0) := keepC hbw17 ba02_w16
  have ba10_w17 : w17.cell? ⟨w.heap.size + 1, 0, none⟩ = some (.int .i64 n1) := keepC hbw17 ba10_w16
  have ba11_w17 : w17.cell? ⟨w.heap.size + 1, 1, none⟩ = some (.slice A1 xs1.length c1) := keepC hbw17 ba11_w16
  have bW00_w17 : w17.cell? ⟨gw6, 0, none⟩ = some (.int .i64 rk) := keepC hbw17 bW00_w16
  have bW01_w17 : w17.cell? ⟨gw6, 1, none⟩ = some (.int .u64 ra) := keepC hbw17 bW01_w16
  have bW02_w17 : w17.cell? ⟨gw6, 2, none⟩ = some (.int .u64 rb) := keepC hbw17 bW02_w16
  have bx100_w17 : w17.cell? ⟨w7.heap.size, 0, none⟩ = some (.int .i64 n1) := keepC hbw17 bx100_w16
  have bx101_w17 : w17.cell? ⟨w7.heap.size, 1, none⟩ = some (.slice A7 xs1.length xs1.length) := keepC hbw17 bx101_w16
  have bG00_w17 : w17.cell? ⟨gw11, 0, none⟩ = some (.int .i64 rk) := keepC hbw17 bG00_w16
  have bG01_w17 : w17.cell? ⟨gw11, 1, none⟩ = some (.int .u64 ra) := keepC hbw17 bG01_w16
  have bG02_w17 : w17.cell? ⟨gw11, 2, none⟩ = some (.int .u64 rb) := keepC hbw17 bG02_w16
  have OWWw17 := Lib.hid (own_below OWWw16.out hbw17)
  have OWX1w17 := Lib.hid (own_below OWX1w16.out hbw17)
  have OWGw17 := Lib.hid (own_below OWGw16.out hbw17)
  have HBw17 : Hid (Below w.heap.size w w17) := Lib.hid (HBw16.out.trans (hbw17.mono HBw16.out.size))
  have zw17 : w11.heap.size ≤ w17.heap.size := by have := hbw17.size; omega
  clear lb0w16 lb1w16 lb2w16 lb3w16 lb4w16 ba00_w16 ba01_w16 ba02_w16 ba10_w16 ba11_w16 bW00_w16 bW01_w16 bW02_w16 bx100_w16 bx101_w16 bG00_w16 bG01_w16 bG02_w16 OWWw16 OWX1w16 OWGw16 HBw16 zw16 hbw17
  go_wp2_with fail
  refine (HE.out A11 A6 c11 c6 _ (Rd.of_own OWGw17.out) (Rd.of_own OWWw17.out)).mono ?_
  rintro e w18 hqw18
  obtain ⟨rfl, hbw18⟩ := hqw18.below
  have lb0w18 : w.heap.size < w18.heap.size := by have := hbw18.size; omega
  have lb1w18 : w.heap.size + 1 < w18.heap.size := by have := hbw18.size; omega
  have lb2w18 : gw6 < w18.heap.size := by have := hbw18.size; omega
  have lb3w18 : w7.heap.size < w18.heap.size := by have := hbw18.size; omega
  have lb4w18 : gw11 < w18.heap.size := by have := hbw18.size; omega
  have ba00_w18 : w18.cell? ⟨w.heap.size, 0, none⟩ = some (.int .i64 k0) := keepC hbw18 ba00_w17
  have ba01_w18 : w18.cell? ⟨w.heap.size, 1, none⟩ = some (.int .u64 a0) := keepC hbw18 ba01_w17
  have ba02_w18 : w18.cell? ⟨w.heap.size, 2, none⟩ = some (.int .u64 b0) := keepC hbw18 ba02_w17
  have ba10_w18 : w18.cell? ⟨w.heap.size + 1, 0, none⟩ = some (.int .i64 n1) := keepC hbw18 ba10_w17
  have ba11_w18 : w18.cell? ⟨w.heap.size + 1, 1, none⟩ = some (.slice A1 xs1.length c1) := keepC hbw18 ba11_w17
  have bW00_w18 : w18.cell? ⟨gw6, 0, none⟩ = some (.int .i64 rk) := keepC hbw18 bW00_w17
  have bW01_w18 : w18.cell? ⟨gw6, 1, none⟩ = some (.int .u64 ra) := keepC hbw18 bW01_w17
  have bW02_w18 : w18.cell? ⟨gw6, 2, none⟩ = some (.int .u64 rb) := keepC hbw18 bW02_w17
  have bx100_w18 : w18.cell? ⟨w7.heap.size, 0, none⟩ = some (.int .i64 n1) := keepC hbw18 bx100_w17
  have bx101_w18 : w18.cell? ⟨w7.heap.size, 1, none⟩ = some (.slice A7 xs1.length xs1.length) := keepC hbw18 bx101_w17
  have bG00_w18 : w18.cell? ⟨gw11, 0, none⟩ = some (.int .i64 rk) := keepC hbw18 bG00_w17
  have bG01_w18 : w18.cell? ⟨gw11, 1, none⟩ = some (.int .u64 ra) := keepC hbw18 bG01_w17
  have bG02_w18 : w18.cell? ⟨gw11, 2, none⟩ = some (.int .u64 rb) := keepC hbw18 bG02_w17
  have OWWw18 := Lib.hid (own_below OWWw17.out hbw18)
  have OWX1w18 := Lib.hid (own_below OWX1w17.out hbw18)
  have OWGw18 := Lib.hid (own_below OWGw17.out hbw18)
  have HBw18 : Hid (Below w.heap.size w w18) := Lib.hid (HBw17.out.trans (hbw18.mono HBw17.out.size))
  have zw18 : w11.heap.size ≤ w18.heap.size := by have := hbw18.size; omega
  clear lb0w17 lb1w17 lb2w17 lb3w17 lb4w17 ba00_w17 ba01_w17 ba02_w17 ba10_w17 ba11_w17 bW00_w17 bW01_w17 bW02_w17 bx100_w17 bx101_w17 bG00_w17 bG01_w17 bG02_w17 OWWw17 OWX1w17 OWGw17 HBw17 zw17 hbw18 hqw18
  go_wp2_with fail
  refine (HM.out A11 _ _ w18 OWGw18.out).mono ?_
  rintro e w19 ⟨rfl, hownw19, hgw19⟩
  have ndw19 : ∀ k, (k < w8.heap.size ∨ w11.heap.size ≤ k) → some k ≠ (Value.slice A11 ys.length c11).ownBlock := fun k hk h => by have := OLG.out _ h.symm; omega
  have lb0w19 : w.heap.size < w19.heap.size := by have := hgw19.size; omega
  have lb1w19 : w.heap.size + 1 < w19.heap.size := by have := hgw19.size; omega
  have lb2w19 : gw6 < w19.heap.size := by have := hgw19.size; omega
  have lb3w19 : w7.heap.size < w19.heap.size := by have := hgw19.size; omega
  have lb4w19 : gw11 < w19.heap.size := by have := hgw19.size; omega
  have ba00_w19 : w19.cell? ⟨w.heap.size, 0, none⟩ = some (.int .i64 k0) := hgw19.cell ba00_w18 (ndw19 (w.heap.size) (by omega))
  have ba01_w19 : w19.cell? ⟨w.heap.size, 1, none⟩ = some (.int .u64 a0) := hgw19.cell ba01_w18 (ndw19 (w.heap.size) (by omega))
  have ba02_w19 : w19.cell? ⟨w.heap.size, 2, none⟩ = some (.int .u64 b0) := hgw19.cell ba02_w18 (ndw19 (w.heap.size) (by omega))
  have ba10_w19 : w19.cell? ⟨w.heap.size + 1, 0, none⟩ = some (.int .i64 n1) := hgw19.cell ba10_w18 (ndw19 (w.heap.size + 1) (by omega))
  have ba11_w19 : w19.cell? ⟨w.heap.size + 1, 1, none⟩ = some (.slice A1 xs1.length c1) := hgw19.cell ba11_w18 (ndw19 (w.heap.size + 1) (by omega))
  have bW00_w19 : w19.cell? ⟨gw6, 0, none⟩ = some (.int .i64 rk) := hgw19.cell bW00_w18 (ndw19 (gw6) (by omega))
  have bW01_w19 : w19.cell? ⟨gw6, 1, none⟩ = some (.int .u64 ra) := hgw19.cell bW01_w18 (ndw19 (gw6) (by omega))
  have bW02_w19 : w19.cell? ⟨gw6, 2, none⟩ = some (.int .u64 rb) := hgw19.cell bW02_w18 (ndw19 (gw6) (by omega))
  have bx100_w19 : w19.cell? ⟨w7.heap.size, 0, none⟩ = some (.int .i64 n1) := hgw19.cell bx100_w18 (ndw19 (w7.heap.size) (by omega))
  have bx101_w19 : w19.cell? ⟨w7.heap.size, 1, none⟩ = some (.slice A7 xs1.length xs1.length) := hgw19.cell bx101_w18 (ndw19 (w7.heap.size) (by omega))
  have bG00_w19 : w19.cell? ⟨gw11, 0, none⟩ = some (.int .i64 rk) := hgw19.cell bG00_w18 (fun h => (OLG.out _ h.symm).2.2 rfl)
  have bG01_w19 : w19.cell? ⟨gw11, 1, none⟩ = some (.int .u64 ra) := hgw19.cell bG01_w18 (fun h => (OLG.out _ h.symm).2.2 rfl)
  have bG02_w19 : w19.cell? ⟨gw11, 2, none⟩ = some (.int .u64 rb) := hgw19.cell bG02_w18 (fun h => (OLG.out _ h.symm).2.2 rfl)
  have OWWw19 := Lib.hid (OWWw18.out.kept hgw19 (by
    cases hv : (Value.slice A6 ys.length c6).ownBlock with
    | none => exact .inl rfl
    | some k => exact .inr (ndw19 k (by have := OLW.out k hv; omega))))
  have OWX1w19 := Lib.hid (OWX1w18.out.kept hgw19 (by
    cases hv : (Value.slice A7 xs1.length xs1.length).ownBlock with
    | none => exact .inl rfl
    | some k => exact .inr (ndw19 k (by have := OLX1.out k hv; omega))))
  have OWGw19 := Lib.hid hownw19
  have HBw19 : Hid (Below w.heap.size w w19) := Lib.hid (HBw18.out.grown hgw19 HBw18.out.size (fun k hk => by have := (OLG.out k hk).1; have := HBw18.out.size; omega))
  have zw19 : w11.heap.size ≤ w19.heap.size := by have := hgw19.size; omega
  clear ndw19 hgw19 hownw19 lb0w18 lb1w18 lb2w18 lb3w18 lb4w18 ba00_w18 ba01_w18 ba02_w18 ba10_w18 ba11_w18 bW00_w18 bW01_w18 bW02_w18 bx100_w18 bx101_w18 bG00_w18 bG01_w18 bG02_w18 OWWw18 OWX1w18 OWGw18 HBw18 zw18
  go_wp2_with fail
  refine (HH.out A11 c11 _ (Rd.of_own OWGw19.out)).mono ?_
  rintro e w20 hqw20
  obtain ⟨rfl, hbw20⟩ := hqw20.below
  have lb0w20 : w.heap.size < w20.heap.size := by have := hbw20.size; omega
  have lb1w20 : w.heap.size + 1 < w20.heap.size := by have := hbw20.size; omega
  have lb2w20 : gw6 < w20.heap.size := by have := hbw20.size; omega
  have lb3w20 : w7.heap.size < w20.heap.size := by have := hbw20.size; omega
  have lb4w20 : gw11 < w20.heap.size := by have := hbw20.size; omega
  have ba00_w20 : w20.cell? ⟨w.heap.size, 0, none⟩ = some (.int .i64 k0) := keepC hbw20 ba00_w19
  have ba01_w20 : w20.cell? ⟨w.heap.size, 1, none⟩ = some (.int .u64 a0) := keepC hbw20 ba01_w19
  have ba02_w20 : w20.cell? ⟨w.heap.size, 2, none⟩ = some (.int .u64 b0) := keepC hbw20 ba02_w19
  have ba10_w20 : w20.cell? ⟨w.heap.size + 1, 0, none⟩ = some (.int .i64 n1) := keepC hbw20 ba10_w19
  have ba11_w20 : w20.cell? ⟨w.heap.size + 1, 1, none⟩ = some (.slice A1 xs1.length c1) := keepC hbw20 ba11_w19
  have bW00_w20 : w20.cell? ⟨gw6, 0, none⟩ = some (.int .i64 rk) := keepC hbw20 bW00_w19
  have bW01_w20 : w20.cell? ⟨gw6, 1, none⟩ = some (.int .u64 ra) := keepC hbw20 bW01_w19
  have bW02_w20 : w20.cell? ⟨gw6, 2, none⟩ = some (.int .u64 rb) := keepC hbw20 bW02_w19
  have bx100_w20 : w20.cell? ⟨w7.heap.size, 0, none⟩ = some (.int .i64 n1) := keepC hbw20 bx100_w19
  have bx101_w20 : w20.cell? ⟨w7.heap.size, 1, none⟩ = some (.slice A7 xs1.length xs1.length) := keepC hbw20 bx101_w19
  have bG00_w20 : w20.cell? ⟨gw11, 0, none⟩ = some (.int .i64 rk) := keepC hbw20 bG00_w19
  have bG01_w20 : w20.cell? ⟨gw11, 1, none⟩ = some (.int .u64 ra) := keepC hbw20 bG01_w19
  have bG02_w20 : w20.cell? ⟨gw11, 2, none⟩ = some (.int .u64 rb) := keepC hbw20 bG02_w19
  have OWWw20 := Lib.hid (own_below OWWw19.out hbw20)
  have OWX1w20 := Lib.hid (own_below OWX1w19.out hbw20)
  have OWGw20 := Lib.hid (own_below OWGw19.out hbw20)
  have HBw20 : Hid (Below w.heap.size w w20) := Lib.hid (HBw19.out.trans (hbw20.mono HBw19.out.size))
  have zw20 : w11.heap.size ≤ w20.heap.size := by have := hbw20.size; omega
  clear lb0w19 lb1w19 lb2w19 lb3w19 lb4w19 ba00_w19 ba01_w19 ba02_w19 ba10_w19 ba11_w19 bW00_w19 bW01_w19 bW02_w19 bx100_w19 bx101_w19 bG00_w19 bG01_w19 bG02_w19 OWWw19 OWX1w19 OWGw19 HBw19 zw19 hbw20 hqw20
  go_wp2_with fail
  go_upto_region 24 with fail
  have hMk : Hid (∀ W, Below w20.heap.size w20 W → W.cell? ⟨w.heap.size, 0, none⟩ = some (.int .i64 k0) ∧ W.cell? ⟨w.heap.size, 1, none⟩ = some (.int .u64 a0) ∧ W.cell? ⟨w.heap.size, 2, none⟩ = some (.int .u64 b0) ∧ W.cell? ⟨w.heap.size + 1, 0, none⟩ = some (.int .i64 n1) ∧ W.cell? ⟨w.heap.size + 1, 1, none⟩ = some (.slice A1 xs1.length c1) ∧ W.cell? ⟨gw6, 0, none⟩ = some (.int .i64 rk) ∧ W.cell? ⟨gw6, 1, none⟩ = some (.int .u64 ra) ∧ W.cell? ⟨gw6, 2, none⟩ = some (.int .u64 rb) ∧ W.cell? ⟨w7.heap.size, 0, none⟩ = some (.int .i64 n1) ∧ W.cell? ⟨w7.heap.size, 1, none⟩ = some (.slice A7 xs1.length xs1.length) ∧ W.cell? ⟨gw11, 0, none⟩ = some (.int .i64 rk) ∧ W.cell? ⟨gw11, 1, none⟩ = some (.int .u64 ra) ∧ W.cell? ⟨gw11, 2, none⟩ = some (.int .u64 rb)) := Lib.hid fun W hW => ⟨keepC hW ba00_w20, keepC hW ba01_w20, keepC hW ba02_w20, keepC hW ba10_w20, keepC hW ba11_w20, keepC hW bW00_w20, keepC hW bW01_w20, keepC hW bW02_w20, keepC hW bx100_w20, keepC hW bx101_w20, keepC hW bG00_w20, keepC hW bG01_w20, keepC hW bG02_w20⟩
  go_cut [20, 21, 22] (fun s20 s21 s22 wx => ∃ g A c, s20 = .pointer (some ⟨g, 0, none⟩) ∧ s21 = .slice A ys.length c ∧ s22 = .bool ok ∧ wx.cell? ⟨g, 0, none⟩ = some (.int .i64 rk) ∧ wx.cell? ⟨g, 1, none⟩ = some (.int .u64 ra) ∧ wx.cell? ⟨g, 2, none⟩ = some (.int .u64 rb) ∧ wx.ownsRow w20.heap.size 2 1 (.slice A ys.length c) ys.length (il ys) ∧ Below w20.heap.size w20 wx ∧ w20.heap.size ≤ g ∧ g < wx.heap.size ∧ (∀ k, (Value.slice A ys.length c).ownBlock = some k → g ≠ k))
  case first =>
    go_region_held3 (fun W => W.cell? ⟨w.heap.size, 0, none⟩ = some (.int .i64 k0) ∧ W.cell? ⟨w.heap.size, 1, none⟩ = some (.int .u64 a0) ∧ W.cell? ⟨w.heap.size, 2, none⟩ = some (.int .u64 b0) ∧ W.cell? ⟨w.heap.size + 1, 0, none⟩ = some (.int .i64 n1) ∧ W.cell? ⟨w.heap.size + 1, 1, none⟩ = some (.slice A1 xs1.length c1) ∧ W.cell? ⟨gw6, 0, none⟩ = some (.int .i64 rk) ∧ W.cell? ⟨gw6, 1, none⟩ = some (.int .u64 ra) ∧ W.cell? ⟨gw6, 2, none⟩ = some (.int .u64 rb) ∧ W.cell? ⟨w7.heap.size, 0, none⟩ = some (.int .i64 n1) ∧ W.cell? ⟨w7.heap.size, 1, none⟩ = some (.slice A7 xs1.length xs1.length) ∧ W.cell? ⟨gw11, 0, none⟩ = some (.int .i64 rk) ∧ W.cell? ⟨gw11, 1, none⟩ = some (.int .u64 ra) ∧ W.cell? ⟨gw11, 2, none⟩ = some (.int .u64 rb))
      (first | exact hMk.out _ (by repeat (first | assumption | exact Below.refl _ _ | refine below_al ?_ _ | refine below_dr ?_ | refine below_dn ?_ _ | refine below_set ?_ _ _ (by first | exact Nat.le_refl _ | (simp; done) | (simp; omega)))))
      (first
        | (go_at_call 65; refine (HT0.out _).mono ?_; rintro e w21 ⟨rfl, hbw21⟩; have hkw21 : Below w20.heap.size w20 w21 := below_next (by repeat (first | assumption | exact Below.refl _ _ | refine below_al ?_ _ | refine below_dr ?_ | refine below_dn ?_ _ | refine below_set ?_ _ _ (by first | exact Nat.le_refl _ | (simp; done) | (simp; omega)))) hbw21; have hsw21 : w20.heap.size ≤ w21.heap.size := hkw21.size; (try (have ltw20_w21 : w20.heap.size < w21.heap.size := (by first | (have := hbw21.size; simp at this; omega) | (have := hbw21.size; omega)); have q0w20_w21 : w21.cell? ⟨w20.heap.size, 0, none⟩ = some (.int .i64 0) := keepC hbw21 (by first | assumption | (simp [go_sem]; done)); have q1w20_w21 : w21.cell? ⟨w20.heap.size, 1, none⟩ = some (.int .u64 0) := keepC hbw21 (by first | assumption | (simp [go_sem]; done)); have q2w20_w21 : w21.cell? ⟨w20.heap.size, 2, none⟩ = some (.int .u64 0) := keepC hbw21 (by first | assumption | (simp [go_sem]; done)); have fzw20_w21 : ∀ o, w21.frozen? ⟨w20.heap.size, o, none⟩ = false := fun o => (hbw21.frozen (p := ⟨w20.heap.size, o, none⟩) (by first | (show _ < _; omega) | (simp; done) | (simp; omega))).trans (by first | (simp [go_sem]; done) | (simp [*]; done)))))
        | (go_at_call_of 29 n1; refine (HT1.out _ (h1.at_ (below_next HBw20.out (by repeat (first | assumption | exact Below.refl _ _ | refine below_al ?_ _ | refine below_dr ?_ | refine below_dn ?_ _ | refine below_set ?_ _ _ (by first | exact Nat.le_refl _ | (simp; done) | (simp; omega))))))).mono ?_; rintro e w22 ⟨A22, rfl, hownw22, hbw22⟩; have rdw22 := Rd.of_own hownw22; have hkw22 : Below w20.heap.size w20 w22 := below_next (by repeat (first | assumption | exact Below.refl _ _ | refine below_al ?_ _ | refine below_dr ?_ | refine below_dn ?_ _ | refine below_set ?_ _ _ (by first | exact Nat.le_refl _ | (simp; done) | (simp; omega)))) hbw22; have hsw22 : w20.heap.size ≤ w22.heap.size := hkw22.size; have hw21_w22 : Below w21.heap.size w21 w22 := below_next (by repeat (first | assumption | exact Below.refl _ _ | refine below_al ?_ _ | refine below_dr ?_ | refine below_dn ?_ _ | refine below_set ?_ _ _ (by first | exact Nat.le_refl _ | (simp; done) | (simp; omega)))) hbw22; (try (have ltw20_w22 : w20.heap.size < w22.heap.size := (by first | (have := hbw22.size; simp at this; omega) | (have := hbw22.size; omega)); have q0w20_w22 : w22.cell? ⟨w20.heap.size, 0, none⟩ = some (.int .i64 0) := keepC hbw22 (by first | assumption | (simp [go_sem]; done)); have q1w20_w22 : w22.cell? ⟨w20.heap.size, 1, none⟩ = some (.int .u64 0) := keepC hbw22 (by first | assumption | (simp [go_sem]; done)); have q2w20_w22 : w22.cell? ⟨w20.heap.size, 2, none⟩ = some (.int .u64 0) := keepC hbw22 (by first | assumption | (simp [go_sem]; done)); have fzw20_w22 : ∀ o, w22.frozen? ⟨w20.heap.size, o, none⟩ = false := fun o => (hbw22.frozen (p := ⟨w20.heap.size, o, none⟩) (by first | (show _ < _; omega) | (simp; done) | (simp; omega))).trans (by first | (simp [go_sem]; done) | (simp [*]; done)))); (try (have ltw21_w22 : w21.heap.size < w22.heap.size := (by first | (have := hbw22.size; simp at this; omega) | (have := hbw22.size; omega)); have q0w21_w22 : w22.cell? ⟨w21.heap.size, 0, none⟩ = some (.int .i64 0) := keepC hbw22 (by first | assumption | (simp [go_sem]; done)); have q1w21_w22 : w22.cell? ⟨w21.heap.size, 1, none⟩ = some (.int .u64 0) := keepC hbw22 (by first | assumption | (simp [go_sem]; done)); have q2w21_w22 : w22.cell? ⟨w21.heap.size, 2, none⟩ = some (.int .u64 0) := keepC hbw22 (by first | assumption | (simp [go_sem]; done)); have fzw21_w22 : ∀ o, w22.frozen? ⟨w21.heap.size, o, none⟩ = false := fun o => (hbw22.frozen (p := ⟨w21.heap.size, o, none⟩) (by first | (show _ < _; omega) | (simp; done) | (simp; omega))).trans (by first | (simp [go_sem]; done) | (simp [*]; done)))))
        | (go_at_call 66; refine (HI.out A22 _ (rdw22.at_ (by repeat (first | assumption | exact Below.refl _ _ | refine below_al ?_ _ | refine below_dr ?_ | refine below_dn ?_ _ | refine below_set ?_ _ _ (by first | exact Nat.le_refl _ | (simp; done) | (simp; omega)))))).mono ?_; rintro e w23 ⟨A23, c23, rfl, hownw23, hbw23⟩; have hkw23 : Below w20.heap.size w20 w23 := below_next (by repeat (first | assumption | exact Below.refl _ _ | refine below_al ?_ _ | refine below_dr ?_ | refine below_dn ?_ _ | refine below_set ?_ _ _ (by first | exact Nat.le_refl _ | (simp; done) | (simp; omega)))) hbw23; have hsw23 : w20.heap.size ≤ w23.heap.size := hkw23.size; have hw21_w23 : Below w21.heap.size w21 w23 := below_next (by repeat (first | assumption | exact Below.refl _ _ | refine below_al ?_ _ | refine below_dr ?_ | refine below_dn ?_ _ | refine below_set ?_ _ _ (by first | exact Nat.le_refl _ | (simp; done) | (simp; omega)))) hbw23; have hw22_w23 : Below w22.heap.size w22 w23 := below_next (by repeat (first | assumption | exact Below.refl _ _ | refine below_al ?_ _ | refine below_dr ?_ | refine below_dn ?_ _ | refine below_set ?_ _ _ (by first | exact Nat.le_refl _ | (simp; done) | (simp; omega)))) hbw23; (try (have ltw20_w23 : w20.heap.size < w23.heap.size := (by first | (have := hbw23.size; simp at this; omega) | (have := hbw23.size; omega)); have q0w20_w23 : w23.cell? ⟨w20.heap.size, 0, none⟩ = some (.int .i64 0) := keepC hbw23 (by first | assumption | (simp [go_sem]; done)); have q1w20_w23 : w23.cell? ⟨w20.heap.size, 1, none⟩ = some (.int .u64 0) := keepC hbw23 (by first | assumption | (simp [go_sem]; done)); have q2w20_w23 : w23.cell? ⟨w20.heap.size, 2, none⟩ = some (.int .u64 0) := keepC hbw23 (by first | assumption | (simp [go_sem]; done)); have fzw20_w23 : ∀ o, w23.frozen? ⟨w20.heap.size, o, none⟩ = false := fun o => (hbw23.frozen (p := ⟨w20.heap.size, o, none⟩) (by first | (show _ < _; omega) | (simp; done) | (simp; omega))).trans (by first | (simp [go_sem]; done) | (simp [*]; done)))); (try (have ltw21_w23 : w21.heap.size < w23.heap.size := (by first | (have := hbw23.size; simp at this; omega) | (have := hbw23.size; omega)); have q0w21_w23 : w23.cell? ⟨w21.heap.size, 0, none⟩ = some (.int .i64 0) := keepC hbw23 (by first | assumption | (simp [go_sem]; done)); have q1w21_w23 : w23.cell? ⟨w21.heap.size, 1, none⟩ = some (.int .u64 0) := keepC hbw23 (by first | assumption | (simp [go_sem]; done)); have q2w21_w23 : w23.cell? ⟨w21.heap.size, 2, none⟩ = some (.int .u64 0) := keepC hbw23 (by first | assumption | (simp [go_sem]; done)); have fzw21_w23 : ∀ o, w23.frozen? ⟨w21.heap.size, o, none⟩ = false := fun o => (hbw23.frozen (p := ⟨w21.heap.size, o, none⟩) (by first | (show _ < _; omega) | (simp; done) | (simp; omega))).trans (by first | (simp [go_sem]; done) | (simp [*]; done)))); (try (have ltw22_w23 : w22.heap.size < w23.heap.size := (by first | (have := hbw23.size; simp at this; omega) | (have := hbw23.size; omega)); have q0w22_w23 : w23.cell? ⟨w22.heap.size, 0, none⟩ = some (.int .i64 0) := keepC hbw23 (by first | assumption | (simp [go_sem]; done)); have q1w22_w23 : w23.cell? ⟨w22.heap.size, 1, none⟩ = some (.int .u64 0) := keepC hbw23 (by first | assumption | (simp [go_sem]; done)); have q2w22_w23 : w23.cell? ⟨w22.heap.size, 2, none⟩ = some (.int .u64 0) := keepC hbw23 (by first | assumption | (simp [go_sem]; done)); have fzw22_w23 : ∀ o, w23.frozen? ⟨w22.heap.size, o, none⟩ = false := fun o => (hbw23.frozen (p := ⟨w22.heap.size, o, none⟩) (by first | (show _ < _; omega) | (simp; done) | (simp; omega))).trans (by first | (simp [go_sem]; done) | (simp [*]; done))))))
    all_goals (go_wp2_with fail; go_meet; exact ⟨_, A23, c23, rfl, rfl, rfl, (by first | (simp [go_sem]; done) | (simp [go_sem, q0w20_w23, q1w20_w23, q2w20_w23]; done) | (simp [go_sem, q0w21_w23, q1w21_w23, q2w21_w23]; done) | (simp [go_sem, q0w22_w23, q1w22_w23, q2w22_w23]; done)), (by first | (simp [go_sem]; done) | (simp [go_sem, q0w20_w23, q1w20_w23, q2w20_w23]; done) | (simp [go_sem, q0w21_w23, q1w21_w23, q2w21_w23]; done) | (simp [go_sem, q0w22_w23, q1w22_w23, q2w22_w23]; done)), (by first | (simp [go_sem]; done) | (simp [go_sem, q0w20_w23, q1w20_w23, q2w20_w23]; done) | (simp [go_sem, q0w21_w23, q1w21_w23, q2w21_w23]; done) | (simp [go_sem, q0w22_w23, q1w22_w23, q2w22_w23]; done)), (by first | exact own_base (hownw23.alloc _) (by first | omega | (simp; done) | (simp; omega)) | exact own_base (ownsRow_setCell_below (ownsRow_setCell_below (ownsRow_setCell_below (hownw23) (by first | (simp; done) | (simp; omega) | (show _ < _; omega)) _) (by first | (simp; done) | (simp; omega) | (show _ < _; omega)) _) (by first | (simp; done) | (simp; omega) | (show _ < _; omega)) _) (by first | omega | (simp; done) | (simp; omega))), (by repeat (first | assumption | exact Below.refl _ _ | refine below_al ?_ _ | refine below_dr ?_ | refine below_dn ?_ _ | refine below_set ?_ _ _ (by first | exact Nat.le_refl _ | (simp; done) | (simp; omega)))), (by omega), (by first | omega | (simp; done) | (simp; omega)), (fun k hk => by have h1 := (hownw23.lt k hk).1; have h2 := (hownw23.lt k hk).2; (first | omega | (simp at h1; omega)))⟩)
  rename World => w24
  obtain ⟨gw24, A24, c24, rfl, rfl, rfl, bV00_w24, bV01_w24, bV02_w24, hownw24, hkw24, low24, hiw24, new24⟩ := hcut
  obtain ⟨ba00_w24, ba01_w24, ba02_w24, ba10_w24, ba11_w24, bW00_w24, bW01_w24, bW02_w24, bx100_w24, bx101_w24, bG00_w24, bG01_w24, bG02_w24⟩ := hMk.out _ hkw24
  have lb0w24 : w.heap.size < w24.heap.size := by have := hkw24.size; omega
  have lb1w24 : w.heap.size + 1 < w24.heap.size := by have := hkw24.size; omega
  have lb2w24 : gw6 < w24.heap.size := by have := hkw24.size; omega
  have lb3w24 : w7.heap.size < w24.heap.size := by have := hkw24.size; omega
  have lb4w24 : gw11 < w24.heap.size := by have := hkw24.size; omega
  have OWWw24 := Lib.hid (own_below OWWw20.out hkw24)
  have OWX1w24 := Lib.hid (own_below OWX1w20.out hkw24)
  have OWGw24 := Lib.hid (own_below OWGw20.out hkw24)
  have HBw24 : Hid (Below w.heap.size w w24) := Lib.hid (HBw20.out.trans (hkw24.mono HBw20.out.size))
  have rw24 : w20.heap.size ≤ w24.heap.size := hkw24.size
  have OLV : Hid (∀ k, (Value.slice A24 ys.length c24).ownBlock = some k → w20.heap.size ≤ k ∧ k < w24.heap.size ∧ gw24 ≠ k) := Lib.hid fun k hk => ⟨(hownw24.lt k hk).1, (hownw24.lt k hk).2, new24 k hk⟩
  have OWVw24 := Lib.hid hownw24
  have lb99w24 : gw24 < w24.heap.size := hiw24
  clear hMk ba00_w20 ba01_w20 ba02_w20 ba10_w20 ba11_w20 bW00_w20 bW01_w20 bW02_w20 bx100_w20 bx101_w20 bG00_w20 bG01_w20 bG02_w20 lb0w20 lb1w20 lb2w20 lb3w20 lb4w20 OWWw20 OWX1w20 OWGw20 HBw20 hownw24 new24 hkw24
  go_wp2_with fail
  refine (HQ.out _).mono ?_
  rintro e w25 ⟨rfl, hbw25⟩
  have lb0w25 : w.heap.size < w25.heap.size := by have := hbw25.size; omega
  have lb1w25 : w.heap.size + 1 < w25.heap.size := by have := hbw25.size; omega
  have lb2w25 : gw6 < w25.heap.size := by have := hbw25.size; omega
  have lb3w25 : w7.heap.size < w25.heap.size := by have := hbw25.size; omega
  have lb4w25 : gw11 < w25.heap.size := by have := hbw25.size; omega
  have lb5w25 : gw24 < w25.heap.size := by have := hbw25.size; omega
  have ba00_w25 : w25.cell? ⟨w.heap.size, 0, none⟩ = some (.int .i64 k0) := keepC hbw25 ba00_w24
  have ba01_w25 : w25.cell? ⟨w.heap.size, 1, none⟩ = some (.int .u64 a0) := keepC hbw25 ba01_w24
  have ba02_w25 : w25.cell? ⟨w.heap.size, 2, none⟩ = some (.int .u64 b0) := keepC hbw25 ba02_w24
  have ba10_w25 : w25.cell? ⟨w.heap.size + 1, 0, none⟩ = some (.int .i64 n1) := keepC hbw25 ba10_w24
  have ba11_w25 : w25.cell? ⟨w.heap.size + 1, 1, none⟩ = some (.slice A1 xs1.length c1) := keepC hbw25 ba11_w24
  have bW00_w25 : w25.cell? ⟨gw6, 0, none⟩ = some (.int .i64 rk) := keepC hbw25 bW00_w24
  have bW01_w25 : w25.cell? ⟨gw6, 1, none⟩ = some (.int .u64 ra) := keepC hbw25 bW01_w24
  have bW02_w25 : w25.cell? ⟨gw6, 2, none⟩ = some (.int .u64 rb) := keepC hbw25 bW02_w24
  have bx100_w25 : w25.cell? ⟨w7.heap.size, 0, none⟩ = some (.int .i64 n1) := keepC hbw25 bx100_w24
  have bx101_w25 : w25.cell? ⟨w7.heap.size, 1, none⟩ = some (.slice A7 xs1.length xs1.length) := keepC hbw25 bx101_w24
  have bG00_w25 : w25.cell? ⟨gw11, 0, none⟩ = some (.int .i64 rk) := keepC hbw25 bG00_w24
  have bG01_w25 : w25.cell? ⟨gw11, 1, none⟩ = some (.int .u64 ra) := keepC hbw25 bG01_w24
  have bG02_w25 : w25.cell? ⟨gw11, 2, none⟩ = some (.int .u64 rb) := keepC hbw25 bG02_w24
  have bV00_w25 : w25.cell? ⟨gw24, 0, none⟩ = some (.int .i64 rk) := keepC hbw25 bV00_w24
  have bV01_w25 : w25.cell? ⟨gw24, 1, none⟩ = some (.int .u64 ra) := keepC hbw25 bV01_w24
  have bV02_w25 : w25.cell? ⟨gw24, 2, none⟩ = some (.int .u64 rb) := keepC hbw25 bV02_w24
  have OWWw25 := Lib.hid (own_below OWWw24.out hbw25)
  have OWX1w25 := Lib.hid (own_below OWX1w24.out hbw25)
  have OWGw25 := Lib.hid (own_below OWGw24.out hbw25)
  have OWVw25 := Lib.hid (own_below OWVw24.out hbw25)
  have HBw25 : Hid (Below w.heap.size w w25) := Lib.hid (HBw24.out.trans (hbw25.mono HBw24.out.size))
  have zw25 : w24.heap.size ≤ w25.heap.size := by have := hbw25.size; omega
  clear lb0w24 lb1w24 lb2w24 lb3w24 lb4w24 lb99w24 ba00_w24 ba01_w24 ba02_w24 ba10_w24 ba11_w24 bW00_w24 bW01_w24 bW02_w24 bx100_w24 bx101_w24 bG00_w24 bG01_w24 bG02_w24 bV00_w24 bV01_w24 bV02_w24 OWWw24 OWX1w24 OWGw24 OWVw24 HBw24 hbw25
  go_wp2_with fail
  refine (HE.out A24 A6 c24 c6 _ (Rd.of_own OWVw25.out) (Rd.of_own OWWw25.out)).mono ?_
  rintro e w26 hqw26
  obtain ⟨rfl, hbw26⟩ := hqw26.below
  have lb0w26 : w.heap.size < w26.heap.size := by have := hbw26.size; omega
  have lb1w26 : w.heap.size + 1 < w26.heap.size := by have := hbw26.size; omega
  have lb2w26 : gw6 < w26.heap.size := by have := hbw26.size; omega
  have lb3w26 : w7.heap.size < w26.heap.size := by have := hbw26.size; omega
  have lb4w26 : gw11 < w26.heap.size := by have := hbw26.size; omega
  have lb5w26 : gw24 < w26.heap.size := by have := hbw26.size; omega
  have ba00_w26 : w26.cell? ⟨w.heap.size, 0, none⟩ = some (.int .i64 k0) := keepC hbw26 ba00_w25
  have ba01_w26 : w26.cell? ⟨w.heap.size, 1, none⟩ = some (.int .u64 a0) := keepC hbw26 ba01_w25
  have ba02_w26 : w26.cell? ⟨w.heap.size, 2, none⟩ = some (.int .u64 b0) := keepC hbw26 ba02_w25
  have ba10_w26 : w26.cell? ⟨w.heap.size + 1, 0, none⟩ = some (.int .i64 n1) := keepC hbw26 ba10_w25
  have ba11_w26 : w26.cell? ⟨w.heap.size + 1, 1, none⟩ = some (.slice A1 xs1.length c1) := keepC hbw26 ba11_w25
  have bW00_w26 : w26.cell? ⟨gw6, 0, none⟩ = some (.int .i64 rk) := keepC hbw26 bW00_w25
  have bW01_w26 : w26.cell? ⟨gw6, 1, none⟩ = some (.int .u64 ra) := keepC hbw26 bW01_w25
  have bW02_w26 : w26.cell? ⟨gw6, 2, none⟩ = some (.int .u64 rb) := keepC hbw26 bW02_w25
  have bx100_w26 : w26.cell? ⟨w7.heap.size, 0, none⟩ = some (.int .i64 n1) := keepC hbw26 bx100_w25
  have bx101_w26 : w26.cell? ⟨w7.heap.size, 1, none⟩ = some (.slice A7 xs1.length xs1.length) := keepC hbw26 bx101_w25
  have bG00_w26 : w26.cell? ⟨gw11, 0, none⟩ = some (.int .i64 rk) := keepC hbw26 bG00_w25
  have bG01_w26 : w26.cell? ⟨gw11, 1, none⟩ = some (.int .u64 ra) := keepC hbw26 bG01_w25
  have bG02_w26 : w26.cell? ⟨gw11, 2, none⟩ = some (.int .u64 rb) := keepC hbw26 bG02_w25
  have bV00_w26 : w26.cell? ⟨gw24, 0, none⟩ = some (.int .i64 rk) := keepC hbw26 bV00_w25
  have bV01_w26 : w26.cell? ⟨gw24, 1, none⟩ = some (.int .u64 ra) := keepC hbw26 bV01_w25
  have bV02_w26 : w26.cell? ⟨gw24, 2, none⟩ = some (.int .u64 rb) := keepC hbw26 bV02_w25
  have OWWw26 := Lib.hid (own_below OWWw25.out hbw26)
  have OWX1w26 := Lib.hid (own_below OWX1w25.out hbw26)
  have OWGw26 := Lib.hid (own_below OWGw25.out hbw26)
  have OWVw26 := Lib.hid (own_below OWVw25.out hbw26)
  have HBw26 : Hid (Below w.heap.size w w26) := Lib.hid (HBw25.out.trans (hbw26.mono HBw25.out.size))
  have zw26 : w24.heap.size ≤ w26.heap.size := by have := hbw26.size; omega
  clear lb0w25 lb1w25 lb2w25 lb3w25 lb4w25 lb5w25 ba00_w25 ba01_w25 ba02_w25 ba10_w25 ba11_w25 bW00_w25 bW01_w25 bW02_w25 bx100_w25 bx101_w25 bG00_w25 bG01_w25 bG02_w25 bV00_w25 bV01_w25 bV02_w25 OWWw25 OWX1w25 OWGw25 OWVw25 HBw25 zw25 hbw26 hqw26
  go_wp2_with fail
  refine (HH.out A11 c11 _ (Rd.of_own OWGw26.out)).mono ?_
  rintro e w27 hqw27
  obtain ⟨rfl, hbw27⟩ := hqw27.below
  have lb0w27 : w.heap.size < w27.heap.size := by have := hbw27.size; omega
  have lb1w27 : w.heap.size + 1 < w27.heap.size := by have := hbw27.size; omega
  have lb2w27 : gw6 < w27.heap.size := by have := hbw27.size; omega
  have lb3w27 : w7.heap.size < w27.heap.size := by have := hbw27.size; omega
  have lb4w27 : gw11 < w27.heap.size := by have := hbw27.size; omega
  have lb5w27 : gw24 < w27.heap.size := by have := hbw27.size; omega
  have ba00_w27 : w27.cell? ⟨w.heap.size, 0, none⟩ = some (.int .i64 k0) := keepC hbw27 ba00_w26
  have ba01_w27 : w27.cell? ⟨w.heap.size, 1, none⟩ = some (.int .u64 a0) := keepC hbw27 ba01_w26
  have ba02_w27 : w27.cell? ⟨w.heap.size, 2, none⟩ = some (.int .u64 b0) := keepC hbw27 ba02_w26
  have ba10_w27 : w27.cell? ⟨w.heap.size + 1, 0, none⟩ = some (.int .i64 n1) := keepC hbw27 ba10_w26
  have ba11_w27 : w27.cell? ⟨w.heap.size + 1, 1, none⟩ = some (.slice A1 xs1.length c1) := keepC hbw27 ba11_w26
  have bW00_w27 : w27.cell? ⟨gw6, 0, none⟩ = some (.int .i64 rk) := keepC hbw27 bW00_w26
  have bW01_w27 : w27.cell? ⟨gw6, 1, none⟩ = some (.int .u64 ra) := keepC hbw27 bW01_w26
  have bW02_w27 : w27.cell? ⟨gw6, 2, none⟩ = some (.int .u64 rb) := keepC hbw27 bW02_w26
  have bx100_w27 : w27.cell? ⟨w7.heap.size, 0, none⟩ = some (.int .i64 n1) := keepC hbw27 bx100_w26
  have bx101_w27 : w27.cell? ⟨w7.heap.size, 1, none⟩ = some (.slice A7 xs1.length xs1.length) := keepC hbw27 bx101_w26
  have bG00_w27 : w27.cell? ⟨gw11, 0, none⟩ = some (.int .i64 rk) := keepC hbw27 bG00_w26
  have bG01_w27 : w27.cell? ⟨gw11, 1, none⟩ = some (.int .u64 ra) := keepC hbw27 bG01_w26
  have bG02_w27 : w27.cell? ⟨gw11, 2, none⟩ = some (.int .u64 rb) := keepC hbw27 bG02_w26
  have bV00_w27 : w27.cell? ⟨gw24, 0, none⟩ = some (.int .i64 rk) := keepC hbw27 bV00_w26
  have bV01_w27 : w27.cell? ⟨gw24, 1, none⟩ = some (.int .u64 ra) := keepC hbw27 bV01_w26
  have bV02_w27 : w27.cell? ⟨gw24, 2, none⟩ = some (.int .u64 rb) := keepC hbw27 bV02_w26
  have OWWw27 := Lib.hid (own_below OWWw26.out hbw27)
  have OWX1w27 := Lib.hid (own_below OWX1w26.out hbw27)
  have OWGw27 := Lib.hid (own_below OWGw26.out hbw27)
  have OWVw27 := Lib.hid (own_below OWVw26.out hbw27)
  have HBw27 : Hid (Below w.heap.size w w27) := Lib.hid (HBw26.out.trans (hbw27.mono HBw26.out.size))
  have zw27 : w24.heap.size ≤ w27.heap.size := by have := hbw27.size; omega
  clear lb0w26 lb1w26 lb2w26 lb3w26 lb4w26 lb5w26 ba00_w26 ba01_w26 ba02_w26 ba10_w26 ba11_w26 bW00_w26 bW01_w26 bW02_w26 bx100_w26 bx101_w26 bG00_w26 bG01_w26 bG02_w26 bV00_w26 bV01_w26 bV02_w26 OWWw26 OWX1w26 OWGw26 OWVw26 HBw26 zw26 hbw27 hqw27
  go_wp2_with fail
  go_ret
  exact ⟨rfl, HBw27.out⟩

set_option maxRecDepth 100000 in
theorem lifted (os : Os) (started : os.Started) (H : Type) (enc : TypeId × Value → H) :
    ReturnsInHanded {} Try.checked os 17 .any (Rows.fnExactWalkChainSpec.pre6 enc Try.prog Try.f17 Rows.fnExactWalkChainRow.domain false) (Rows.fnExactWalkChainSpec.post enc Try.prog Try.f17 false true false false) := by
  refine returnsInHanded_of_change (C := Try.checked) own started (by kernel_rfl) Try.func17
    (ChangeSpec.witness6 (enc := enc) (C := Try.checked) false ⟨#[], #[.agg #[.int .i64 0, .int .u64 0, .int .u64 0], .agg #[.int .i64 0, .slice none 0 0], .int .i64 0, .int .i64 0], []⟩ 8 (by kernel_rfl) (by kernel_rfl) (by kernel_rfl) (by kernel_rfl)) ?_
  intro W base args ds gs before hval0 hW hcnd _
  have hval : ∀ (j : Nat) t v, Try.f17.params[j]? = some t → args[j]? = some v → Value.okWide Try.prog W .any base t v := hval0
  have hW' := hW
  have hlt : ∀ p ∈ before, p.block < W.heap.size := fun p hp => hW.lt p hp
  obtain ⟨p, q, hA0, hV, rfl, hfz, hnd⟩ := hW
  have hA : DataW.TrodAll enc Try.prog W 0 (fun _ => true) true Try.f17.params.toList args.toList ds p := hA0
  rw [Try.params17] at hA hval
  have hA1 := hA
  obtain ⟨v0, vs0, d0, ds0, p0, q0, hargs, rfl, rfl, h0, r0⟩ := trodAll_cons hA
  obtain ⟨v1, vs1, d1, ds1, p1, q1, rfl, rfl, rfl, h1, r1⟩ := trodAll_cons r0
  obtain ⟨v2, vs2, d2, ds2, p2, q2, rfl, rfl, rfl, h2, r2⟩ := trodAll_cons r1
  obtain ⟨v3, vs3, d3, ds3, p3, q3, rfl, rfl, rfl, h3, r3⟩ := trodAll_cons r2
  obtain ⟨rfl, rfl, rfl⟩ := trodAll_nil r3
  obtain rfl : args = #[v0, v1, v2, v3] := by cases args; simp_all
  obtain ⟨rfl, rfl⟩ := trodVars_none hV
  obtain ⟨k0, a0, b0, rfl, bd0⟩ := open_seed (hval 0 _ _ rfl rfl) h0
  obtain ⟨n1, A1, xs1, c1, rfl, bd1, hx1, hr1, bf1⟩ := open_chain (hval 1 _ _ rfl rfl) h1
  obtain ⟨x2, rfl, -, -, wf2⟩ := open_int Try.underlying2 (hval 2 _ _ rfl rfl) h2
  have bd2 := int_bd wf2
  obtain ⟨x3, rfl, -, -, wf3⟩ := open_int Try.underlying2 (hval 3 _ _ rfl rfl) h3
  have bd3 := int_bd wf3
  clear hA0 hval0
  refine (walk k0 a0 b0 n1 A1 xs1 c1 x2 x3 W bd0 hr1 hx1 bd1 bf1 bd2 bd3).mono fun e W' ⟨he, hb⟩ => ?_
  subst he
  rw [List.append_nil] at hW' hlt
  exact ⟨_, rfl, post_of_below (pa := _) (pv := []) hW' (fun _ _ _ => (trodAll_cons_mk (shut_bool Try.underlying4 _) trodAll_mk0))
    (fun sp hsp => trodAll_below cl_laid hb _ _ _ _ (by kernel_rfl) hA1 hlt hsp) (fun _ _ => rfl) (List.append_nil _).symm hb (ok_one (by kernel_rfl) rfl (okWide_bool_mk Try.underlying4 _))⟩

theorem g0 : Try.prog.funcNamed Rows.fnExactWalkChainRow.func = some 17 := by kernel_rfl
theorem g1 : Rows.fnExactWalkChainRow.inPlace = Try.prog.inPlace 17 := by kernel_rfl
theorem g2 : Rows.fnExactWalkChainRow.unfollowed = Try.prog.unfollowed 17 := by kernel_rfl
theorem g3 : Rows.fnExactWalkChainRow.recurses = Try.prog.recurses 17 := by kernel_rfl
theorem g4 : Rows.fnExactWalkChainRow.named = Try.prog.varsNamed 17 := by kernel_rfl
theorem g5 : Rows.fnExactWalkChainRow.wf (OpenSpec.ofChange Rows.fnExactWalkChainSpec) = true := by kernel_rfl
theorem g6 : (Try.f17.params.all (Try.prog.readableRec ·)) = true := by kernel_rfl
theorem g7 : Rows.fnExactWalkChainRow.veiledFits Try.prog Try.f17.params.toList (Try.f17.params.toList ++ Try.f17.resultTypes.toList) = true := by kernel_rfl
theorem g8 : joinedFacts Try.prog 17 Try.f17 Rows.fnExactWalkChainSpec Rows.fnExactWalkChainRow = true :=
  gen_facts _ _ _ _ rfl rfl cl_laid cl_maps cl_stops cl_knobs cl_heard cl_enter cl_lifts cl_make g5 g6 rfl rfl rfl g1 g2 g3 g4
    (by as_aux_lemma => kernel_rfl) (by as_aux_lemma => kernel_rfl) (by as_aux_lemma => kernel_rfl) (by as_aux_lemma => kernel_rfl) (by as_aux_lemma => kernel_rfl) (by as_aux_lemma => kernel_rfl) (by as_aux_lemma => kernel_rfl) (by as_aux_lemma => kernel_rfl)
    cl_keys.symm rfl rfl rfl rfl rfl (by as_aux_lemma => kernel_rfl) (by as_aux_lemma => kernel_rfl) g7
theorem g9 : Try.f17.isInstance Try.prog Rows.fnExactWalkChainRow.origin Rows.fnExactWalkChainRow.targs := of_decide_eq_true (by kernel_rfl)
theorem g10 : Try.f17.isWrapper Try.prog Rows.fnExactWalkChainRow.wrapper Rows.fnExactWalkChainRow.mainSum := by
  unfold Func.isWrapper; first | (rw [if_pos (by decide +kernel)]; kernel_rfl) | (rw [if_neg (by decide +kernel)]; exact ⟨rfl, rfl⟩)
theorem over : Rows.fnExactWalkChainRow.holds Try.pinned (OpenSpec.ofChange Rows.fnExactWalkChainSpec) :=
  OpenClaim.holds_of_wide 17 Try.f17 rfl rfl rfl rfl rfl rfl rfl ⟨rfl, rfl, rfl, rfl, rfl⟩ rfl rfl rfl rfl rfl g0 Try.func17 g8 g9 g10 (fun os started H enc _ => lifted os started H enc)
theorem proved : Rows.FnExactWalkChainSaid := over
end Go.Proofs.Ytddaodjaeommlaa.lawWalkChain
