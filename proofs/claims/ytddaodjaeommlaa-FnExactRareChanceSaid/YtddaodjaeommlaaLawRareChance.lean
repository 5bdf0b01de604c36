/-
  impl.RareChance returns what spec.RareChance returns, for every seed, chain, state, levels and number of walks (the law FnExactRareChance returns true), in memory of its own where it gives a slice, and leaves its arguments as they were. No condition.
-/
import Derived.Test.YtddaodjaeommlaaRa6
import Derived.Test.YtddaodjaeommlaaToi
import Derived.Test.YtddaodjaeommlaaTos
import Derived.Test.YtddaodjaeommlaaOpen
import Derived.Test.YtddaodjaeommlaaOut
import Derived.Deep.RegionHeld3
import Derived.Deep.DeepCutAuto
namespace Go.Proofs.Ytddaodjaeommlaa.lawRareChance
open Go.ChangeShapes Go.WideShapes Go.ChangeAt Go.RowKit

theorem both (k0 a0 b0 : Int) (n1 : Int) (xs1 : List Nat) (x2 : Int) (xs3 : List Int) (x4 : Int) (bd0 : (-9223372036854775808 ≤ k0 ∧ k0 ≤ 9223372036854775807) ∧ (0 ≤ a0 ∧ a0 < 18446744073709551616) ∧ (0 ≤ b0 ∧ b0 < 18446744073709551616)) (hx1 : xs1.length ≤ 9223372036854775807) (bd1 : -9223372036854775808 ≤ n1 ∧ n1 ≤ 9223372036854775807) (bf1 : ∀ x ∈ xs1, x < 4294967296) (bd2 : -9223372036854775808 ≤ x2 ∧ x2 ≤ 9223372036854775807) (hx3 : xs3.length ≤ 9223372036854775807) (bf3 : ∀ x ∈ xs3, -9223372036854775808 ≤ x ∧ x ≤ 9223372036854775807) (bd4 : -9223372036854775808 ≤ x4 ∧ x4 ≤ 9223372036854775807) : ∃ (rk : Int) (ra : Int) (rb : Int) (rf : Nat) (ok : Bool), isNan Ieee.single rf = false ∧ (∀ A51 c51 A53 c53 w, Rd w w.heap.size A51 (fl xs1) → Rd w w.heap.size A53 (il xs3) → Calls Try.prog 76 #[.agg #[.int .i64 k0, .int .u64 a0, .int .u64 b0], .agg #[.int .i64 n1, .slice A51 xs1.length c51], .int .i64 x2, .slice A53 xs3.length c53, .int .i64 x4] w (fun e w' => e = .returned (.tuple #[.agg #[.int .i64 rk, .int .u64 ra, .int .u64 rb], .float .f32 rf, .bool ok]) ∧ Below w.heap.size w w')) ∧
    (∀ A51 A53 w, Rd w w.heap.size A51 (fl xs1) → Rd w w.heap.size A53 (il xs3) → Calls Try.prog 78 #[.agg #[.int .i64 k0, .int .u64 a0, .int .u64 b0], .agg #[.int .i64 n1, .slice A51 xs1.length xs1.length], .int .i64 x2, .slice A53 xs3.length xs3.length, .int .i64 x4] w (fun e w' => e = .returned (.tuple #[.agg #[.int .i64 rk, .int .u64 ra, .int .u64 rb], .float .f32 rf, .bool ok]) ∧ Below w.heap.size w w')) := by
  have _ubd0 := bd0
  have _uhx1 := hx1
  have _ubd1 := bd1
  have _ubf1 := bf1
  have _ubd2 := bd2
  have _uhx3 := hx3
  have _ubf3 := bf3
  have _ubd4 := bd4
  have hz : xs1.length ≤ xs1.length := Nat.le_refl _
  have hb0 := bd0.2.2
  cases h : rareB k0 a0 b0 n1 xs1 x2 xs3 x4 with
  | false => exact ⟨0, 0, 0, 0, false, zero_notNan, fun A c B d w hA hB => specRareChance_bad k0 a0 b0 n1 x2 x4 xs3 A xs1 c B d w hb0 hx1 hx3 hA hB h, fun A B w hA hB => RareChance_bad k0 a0 b0 n1 x2 x4 xs3 A xs1 xs1.length B xs3.length w hb0 hz hx1 hA hB h⟩
  | true =>
    obtain ⟨n, i, W, lvs, rfl, rfl, rfl, hls, h1, h2, h3, h4, h5, h6, h7⟩ := rareB_ok h
    exact ⟨_, _, _, _, _, raP_notNan h2 h3, fun A c B d w hA hB => specRareChance_ok k0 a0 b0 n i W lvs xs3 A xs1 c B d w hb0 hx1 hx3 hA hB h hls h6 h7 h1 h2 h3 h4 h5, fun A B w hA hB => RareChance_ok k0 a0 b0 n i W lvs xs3 A xs1 xs1.length B xs3.length w hb0 hz hx1 hA hB h hls h6 h7 h1 h2 h3 h4 h5⟩

set_option maxRecDepth 100000 in
set_option maxHeartbeats 12800000 in
theorem walk (k0 a0 b0 : Int) (n1 : Int) (A1 : Option Addr) (xs1 : List Nat) (c1 : Nat) (x2 : Int) (A3 : Option Addr) (xs3 : List Int) (c3 : Nat) (x4 : Int) (w : World) (bd0 : (-9223372036854775808 ≤ k0 ∧ k0 ≤ 9223372036854775807) ∧ (0 ≤ a0 ∧ a0 < 18446744073709551616) ∧ (0 ≤ b0 ∧ b0 < 18446744073709551616)) (h1 : Rd w w.heap.size A1 (fl xs1))  (hx1 : xs1.length ≤ 9223372036854775807) (bd1 : -9223372036854775808 ≤ n1 ∧ n1 ≤ 9223372036854775807) (bf1 : ∀ x ∈ xs1, x < 4294967296) (bd2 : -9223372036854775808 ≤ x2 ∧ x2 ≤ 9223372036854775807) (h3 : Rd w w.heap.size A3 (il xs3))  (hx3 : xs3.length ≤ 9223372036854775807) (bf3 : ∀ x ∈ xs3, -9223372036854775808 ≤ x ∧ x ≤ 9223372036854775807) (bd4 : -9223372036854775808 ≤ x4 ∧ x4 ≤ 9223372036854775807) :
    Calls Try.prog 22 #[.agg #[.int .i64 k0, .int .u64 a0, .int .u64 b0], .agg #[.int .i64 n1, .slice A1 xs1.length c1], .int .i64 x2, .slice A3 xs3.length c3, .int .i64 x4] w fun e w' => e = .returned (.bool true) ∧ Below w.heap.size w w' := by
  by_cases hq3 : 1048576 < xs3.length
  · clear bd0 bd1 bf1 bd2 bf3 bd4
    go_enter Try.func22, Try.ntmps22
    go_wp2
    go_ret
    exact ⟨rfl, Below.alloc (Below.alloc (Below.refl _ _) (by simp; try omega) _) (by simp; try omega) _⟩
  have hy3 : xs3.length ≤ 1048576 := by omega
  clear hq3
  have HZ1 := Lib.hid fun w => szChain_any n1 A1 xs1.length c1 (1048576) w hx1 (by omega) (by omega)
  by_cases hl1 : (1048576 : Int) - (xs1.length : Int) < 0
  · have HL1 : Hid (leftOf (1048576) xs1.length = -1) := if_pos hl1
    clear hl1 bd0 bd1 bf1 bd2 bf3 bd4
    go_enter Try.func22, Try.ntmps22
    go_wp2_with fail
    refine (HZ1.out _).mono ?_
    rw [HL1.out]
    rintro e v0 ⟨rfl, hv0⟩
    have hu0 : Below w.heap.size w v0 := Below.trans (Below.alloc (Below.alloc (Below.refl _ _) (by simp; try omega) _) (by simp; try omega) _) (hv0.mono (by simp; try omega))
    have cc00 : v0.cell? ⟨w.heap.size, 0, none⟩ = some (.int .i64 k0) := keepC hv0 (by simp [go_sem])
    have cc01 : v0.cell? ⟨w.heap.size, 1, none⟩ = some (.int .u64 a0) := keepC hv0 (by simp [go_sem])
    have cc02 : v0.cell? ⟨w.heap.size, 2, none⟩ = some (.int .u64 b0) := keepC hv0 (by simp [go_sem])
    have cc10 : v0.cell? ⟨w.heap.size + 1, 0, none⟩ = some (.int .i64 n1) := keepC hv0 (by simp [go_sem])
    have cc11 : v0.cell? ⟨w.heap.size + 1, 1, none⟩ = some (.slice A1 xs1.length c1) := keepC hv0 (by simp [go_sem])
    clear hv0
    go_wp2_with fail
    go_ret
    exact ⟨rfl, hu0⟩
  have HL1 : Hid (leftOf (1048576) xs1.length = 1048576 - xs1.length) := if_neg hl1
  have hy1 : xs1.length ≤ 1048576 := by omega
  obtain ⟨rk, ra, rb, rf, ok, hfn, HS0, HI0⟩ := both k0 a0 b0 n1 xs1 x2 xs3 x4 bd0 hx1 bd1 bf1 bd2 hx3 bf3 bd4
  obtain ⟨r64, hcv, _hnn⟩ := wide_run rf hfn
  have HQF := Lib.hid fun W => sameFloat_yes r64 r64 W (sameW_refl Ieee.double r64)
  clear hfn _hnn
  have HS := Lib.hid HS0
  have HI := Lib.hid HI0
  clear HS0 HI0
  have HT0 := Lib.hid fun w => toSeed_any k0 a0 b0 w
  have HT1 := Lib.hid fun w h => toChain_any n1 A1 xs1 c1 w hy1 h
  have HX1 := Lib.hid fun A B c d w hA hB => eqChain_yes n1 A B xs1 xs1 c d w (by omega) (sameL_refl xs1) hA hB
  have HT3 := Lib.hid fun w h => toInt64S_any A3 xs3 c3 w hy3 h
  have HX3 := Lib.hid fun A B c d w hA hB => eqInt64S_yes A B xs3 c d w (by omega) hA hB
  have HQ := Lib.hid fun w => eqSeed_yes rk ra rb w
  clear bd0 bd1 bf1 bd2 bf3 bd4
  have HBw : Hid (Below w.heap.size w w) := Lib.hid (Below.refl _ _)
  go_enter Try.func22, Try.ntmps22
  go_wp2_with fail
  generalize hWw1 : World.alloc (World.alloc w _) _ = w1
  have hbw1 : Below w.heap.size w w1 := by rw [← hWw1]; exact Below.alloc (Below.alloc (Below.refl _ _) (by simp; try omega) _) (by simp; try omega) _
  have sw1 : w.heap.size + 2 ≤ w1.heap.size := by rw [← hWw1]; simp
  have ba00_w1 : w1.cell? ⟨w.heap.size, 0, none⟩ = some (.int .i64 k0) := by rw [← hWw1]; simp [go_sem]
  have ba01_w1 : w1.cell? ⟨w.heap.size, 1, none⟩ = some (.int .u64 a0) := by rw [← hWw1]; simp [go_sem]
  have ba02_w1 : w1.cell? ⟨w.heap.size, 2, none⟩ = some (.int .u64 b0) := by rw [← hWw1]; simp [go_sem]
  have ba10_w1 : w1.cell? ⟨w.heap.size + 1, 0, none⟩ = some (.int .i64 n1) := by rw [← hWw1]; simp [go_sem]
  have ba11_w1 : w1.cell? ⟨w.heap.size + 1, 1, none⟩ = some (.slice A1 xs1.length c1) := by rw [← hWw1]; simp [go_sem]
  have HBw1 : Hid (Below w.heap.size w w1) := Lib.hid (HBw.out.trans (hbw1.mono HBw.out.size))
  clear HBw hWw1 hbw1
  have lb0w1 : w.heap.size < w1.heap.size := by omega
  have lb1w1 : w.heap.size + 1 < w1.heap.size := by omega
  refine (HZ1.out _).mono ?_
  rw [HL1.out]
  rintro e w2 ⟨rfl, hbw2⟩
  have lb0w2 : w.heap.size < w2.heap.size := by have := hbw2.size; omega
  have lb1w2 : w.heap.size + 1 < w2.heap.size := by have := hbw2.size; omega
  have ba00_w2 : w2.cell? ⟨w.heap.size, 0, none⟩ = some (.int .i64 k0) := keepC hbw2 ba00_w1
  have ba01_w2 : w2.cell? ⟨w.heap.size, 1, none⟩ = some (.int .u64 a0) := keepC hbw2 ba01_w1
  have ba02_w2 : w2.cell? ⟨w.heap.size, 2, none⟩ = some (.int .u64 b0) := keepC hbw2 ba02_w1
  have ba10_w2 : w2.cell? ⟨w.heap.size + 1, 0, none⟩ = some (.int .i64 n1) := keepC hbw2 ba10_w1
  have ba11_w2 : w2.cell? ⟨w.heap.size + 1, 1, none⟩ = some (.slice A1 xs1.length c1) := keepC hbw2 ba11_w1
  have HBw2 : Hid (Below w.heap.size w w2) := Lib.hid (HBw1.out.trans (hbw2.mono HBw1.out.size))
  have zw2 : w.heap.size + 2 ≤ w2.heap.size := by have := hbw2.size; omega
  clear lb0w1 lb1w1 ba00_w1 ba01_w1 ba02_w1 ba10_w1 ba11_w1 HBw1 hbw2
  go_wp2_with fail
  go_upto_region 7 with fail
  have hMk : Hid (∀ W, Below w2.heap.size w2 W → W.cell? ⟨w.heap.size, 0, none⟩ = some (.int .i64 k0) ∧ W.cell? ⟨w.heap.size, 1, none⟩ = some (.int .u64 a0) ∧ W.cell? ⟨w.heap.size, 2, none⟩ = some (.int .u64 b0) ∧ W.cell? ⟨w.heap.size + 1, 0, none⟩ = some (.int .i64 n1) ∧ W.cell? ⟨w.heap.size + 1, 1, none⟩ = some (.slice A1 xs1.length c1)) := Lib.hid fun W hW => ⟨keepC hW ba00_w2, keepC hW ba01_w2, keepC hW ba02_w2, keepC hW ba10_w2, keepC hW ba11_w2⟩
  go_cut [12, 13, 14] (fun s12 s13 s14 wx => ∃ g, s12 = .pointer (some ⟨g, 0, none⟩) ∧ s13 = .float .f32 rf ∧ s14 = .bool ok ∧ wx.cell? ⟨g, 0, none⟩ = some (.int .i64 rk) ∧ wx.cell? ⟨g, 1, none⟩ = some (.int .u64 ra) ∧ wx.cell? ⟨g, 2, none⟩ = some (.int .u64 rb) ∧ Below w2.heap.size w2 wx ∧ w2.heap.size ≤ g ∧ g < wx.heap.size)
  case first =>
    go_region_held3 (fun W => W.cell? ⟨w.heap.size, 0, none⟩ = some (.int .i64 k0) ∧ W.cell? ⟨w.heap.size, 1, none⟩ = some (.int .u64 a0) ∧ W.cell? ⟨w.heap.size, 2, none⟩ = some (.int .u64 b0) ∧ W.cell? ⟨w.heap.size + 1, 0, none⟩ = some (.int .i64 n1) ∧ W.cell? ⟨w.heap.size + 1, 1, none⟩ = some (.slice A1 xs1.length c1))
      (first | exact hMk.out _ (by repeat (first | assumption | exact Below.refl _ _ | refine below_al ?_ _ | refine below_dr ?_ | refine below_dn ?_ _ | refine below_set ?_ _ _ (by first | exact Nat.le_refl _ | (simp; done) | (simp; omega)))))
      (first
        | (go_at_call 65; refine (HT0.out _).mono ?_; rintro e w3 ⟨rfl, hbw3⟩; have hkw3 : Below w2.heap.size w2 w3 := below_next (by repeat (first | assumption | exact Below.refl _ _ | refine below_al ?_ _ | refine below_dr ?_ | refine below_dn ?_ _ | refine below_set ?_ _ _ (by first | exact Nat.le_refl _ | (simp; done) | (simp; omega)))) hbw3; have hsw3 : w2.heap.size ≤ w3.heap.size := hkw3.size; (try (have ltw2_w3 : w2.heap.size < w3.heap.size := (by first | (have := hbw3.size; simp at this; omega) | (have := hbw3.size; omega)); have q0w2_w3 : w3.cell? ⟨w2.heap.size, 0, none⟩ = some (.int .i64 0) := keepC hbw3 (by first | assumption | (simp [go_sem]; done)); have q1w2_w3 : w3.cell? ⟨w2.heap.size, 1, none⟩ = some (.int .u64 0) := keepC hbw3 (by first | assumption | (simp [go_sem]; done)); have q2w2_w3 : w3.cell? ⟨w2.heap.size, 2, none⟩ = some (.int .u64 0) := keepC hbw3 (by first | assumption | (simp [go_sem]; done)); have fzw2_w3 : ∀ o, w3.frozen? ⟨w2.heap.size, o, none⟩ = false := fun o => (hbw3.frozen (p := ⟨w2.heap.size, o, none⟩) (by first | (show _ < _; omega) | (simp; done) | (simp; omega))).trans (by first | (simp [go_sem]; done) | (simp [*]; done)))))
        | (go_at_call_of 29 n1; refine (HT1.out _ (h1.at_ (below_next HBw2.out (by repeat (first | assumption | exact Below.refl _ _ | refine below_al ?_ _ | refine below_dr ?_ | refine below_dn ?_ _ | refine below_set ?_ _ _ (by first | exact Nat.le_refl _ | (simp; done) | (simp; omega))))))).mono ?_; rintro e w4 ⟨A4, rfl, hownw4, hbw4⟩; have rdw4 := Rd.of_own hownw4; have hkw4 : Below w2.heap.size w2 w4 := below_next (by repeat (first | assumption | exact Below.refl _ _ | refine below_al ?_ _ | refine below_dr ?_ | refine below_dn ?_ _ | refine below_set ?_ _ _ (by first | exact Nat.le_refl _ | (simp; done) | (simp; omega)))) hbw4; have hsw4 : w2.heap.size ≤ w4.heap.size := hkw4.size; have hw3_w4 : Below w3.heap.size w3 w4 := below_next (by repeat (first | assumption | exact Below.refl _ _ | refine below_al ?_ _ | refine below_dr ?_ | refine below_dn ?_ _ | refine below_set ?_ _ _ (by first | exact Nat.le_refl _ | (simp; done) | (simp; omega)))) hbw4; (try (have ltw2_w4 : w2.heap.size < w4.heap.size := (by first | (have := hbw4.size; simp at this; omega) | (have := hbw4.size; omega)); have q0w2_w4 : w4.cell? ⟨w2.heap.size, 0, none⟩ = some (.int .i64 0) := keepC hbw4 (by first | assumption | (simp [go_sem]; done)); have q1w2_w4 : w4.cell? ⟨w2.heap.size, 1, none⟩ = some (.int .u64 0) := keepC hbw4 (by first | assumption | (simp [go_sem]; done)); have q2w2_w4 : w4.cell? ⟨w2.heap.size, 2, none⟩ = some (.int .u64 0) := keepC hbw4 (by first | assumption | (simp [go_sem]; done)); have fzw2_w4 : ∀ o, w4.frozen? ⟨w2.heap.size, o, none⟩ = false := fun o => (hbw4.frozen (p := ⟨w2.heap.size, o, none⟩) (by first | (show _ < _; omega) | (simp; done) | (simp; omega))).trans (by first | (simp [go_sem]; done) | (simp [*]; done)))); (try (have ltw3_w4 : w3.heap.size < w4.heap.size := (by first | (have := hbw4.size; simp at this; omega) | (have := hbw4.size; omega)); have q0w3_w4 : w4.cell? ⟨w3.heap.size, 0, none⟩ = some (.int .i64 0) := keepC hbw4 (by first | assumption | (simp [go_sem]; done)); have q1w3_w4 : w4.cell? ⟨w3.heap.size, 1, none⟩ = some (.int .u64 0) := keepC hbw4 (by first | assumption | (simp [go_sem]; done)); have q2w3_w4 : w4.cell? ⟨w3.heap.size, 2, none⟩ = some (.int .u64 0) := keepC hbw4 (by first | assumption | (simp [go_sem]; done)); have fzw3_w4 : ∀ o, w4.frozen? ⟨w3.heap.size, o, none⟩ = false := fun o => (hbw4.frozen (p := ⟨w3.heap.size, o, none⟩) (by first | (show _ < _; omega) | (simp; done) | (simp; omega))).trans (by first | (simp [go_sem]; done) | (simp [*]; done)))))
        | (go_at_call 77; refine (HT3.out _ (h3.at_ (below_next HBw2.out (by repeat (first | assumption | exact Below.refl _ _ | refine below_al ?_ _ | refine below_dr ?_ | refine below_dn ?_ _ | refine below_set ?_ _ _ (by first | exact Nat.le_refl _ | (simp; done) | (simp; omega))))))).mono ?_; rintro e w5 ⟨A5, rfl, hownw5, hbw5⟩; have rdw5 := Rd.of_own hownw5; have hkw5 : Below w2.heap.size w2 w5 := below_next (by repeat (first | assumption | exact Below.refl _ _ | refine below_al ?_ _ | refine below_dr ?_ | refine below_dn ?_ _ | refine below_set ?_ _ _ (by first | exact Nat.le_refl _ | (simp; done) | (simp; omega)))) hbw5; have hsw5 : w2.heap.size ≤ w5.heap.size := hkw5.size; have hw3_w5 : Below w3.heap.size w3 w5 := below_next (by repeat (first | assumption | exact Below.refl _ _ | refine below_al ?_ _ | refine below_dr ?_ | refine below_dn ?_ _ | refine below_set ?_ _ _ (by first | exact Nat.le_refl _ | (simp; done) | (simp; omega)))) hbw5; have hw4_w5 : Below w4.heap.size w4 w5 := below_next (by repeat (first | assumption | exact Below.refl _ _ | refine below_al ?_ _ | refine below_dr ?_ | refine below_dn ?_ _ | refine below_set ?_ _ _ (by first | exact Nat.le_refl _ | (simp; done) | (simp; omega)))) hbw5; (try (have ltw2_w5 : w2.heap.size < w5.heap.size := (by first | (have := hbw5.size; simp at this; omega) | (have := hbw5.size; omega)); have q0w2_w5 : w5.cell? ⟨w2.heap.size, 0, none⟩ = some (.int .i64 0) := keepC hbw5 (by first | assumption | (simp [go_sem]; done)); have q1w2_w5 : w5.cell? ⟨w2.heap.size, 1, none⟩ = some (.int .u64 0) := keepC hbw5 (by first | assumption | (simp [go_sem]; done)); have q2w2_w5 : w5.cell? ⟨w2.heap.size, 2, none⟩ = some (.int .u64 0) := keepC hbw5 (by first | assumption | (simp [go_sem]; done)); have fzw2_w5 : ∀ o, w5.frozen? ⟨w2.heap.size, o, none⟩ = false := fun o => (hbw5.frozen (p := ⟨w2.heap.size, o, none⟩) (by first | (show _ < _; omega) | (simp; done) | (simp; omega))).trans (by first | (simp [go_sem]; done) | (simp [*]; done)))); (try (have ltw3_w5 : w3.heap.size < w5.heap.size := (by first | (have := hbw5.size; simp at this; omega) | (have := hbw5.size; omega)); have q0w3_w5 : w5.cell? ⟨w3.heap.size, 0, none⟩ = some (.int .i64 0) := keepC hbw5 (by first | assumption | (simp [go_sem]; done)); have q1w3_w5 : w5.cell? ⟨w3.heap.size, 1, none⟩ = some (.int .u64 0) := keepC hbw5 (by first | assumption | (simp [go_sem]; done)); have q2w3_w5 : w5.cell? ⟨w3.heap.size, 2, none⟩ = some (.int .u64 0) := keepC hbw5 (by first | assumption | (simp [go_sem]; done)); have fzw3_w5 : ∀ o, w5.frozen? ⟨w3.heap.size, o, none⟩ = false := fun o => (hbw5.frozen (p := ⟨w3.heap.size, o, none⟩) (by first | (show _ < _; omega) | (simp; done) | (simp; omega))).trans (by first | (simp [go_sem]; done) | (simp [*]; done)))); (try (have ltw4_w5 : w4.heap.size < w5.heap.size := (by first | (have := hbw5.size; simp at this; omega) | (have := hbw5.size; omega)); have q0w4_w5 : w5.cell? ⟨w4.heap.size, 0, none⟩ = some (.int .i64 0) := keepC hbw5 (by first | assumption | (simp [go_sem]; done)); have q1w4_w5 : w5.cell? ⟨w4.heap.size, 1, none⟩ = some (.int .u64 0) := keepC hbw5 (by first | assumption | (simp [go_sem]; done)); have q2w4_w5 : w5.cell? ⟨w4.heap.size, 2, none⟩ = some (.int .u64 0) := keepC hbw5 (by first | assumption | (simp [go_sem]; done)); have fzw4_w5 : ∀ o, w5.frozen? ⟨w4.heap.size, o, none⟩ = false := fun o => (hbw5.frozen (p := ⟨w4.heap.size, o, none⟩) (by first | (show _ < _; omega) | (simp; done) | (simp; omega))).trans (by first | (simp [go_sem]; done) | (simp [*]; done)))))
        | (go_at_call 76; refine (HS.out A4 _ A5 _ _ (rdw4.at_ (by repeat (first | assumption | exact Below.refl _ _ | refine below_al ?_ _ | refine below_dr ?_ | refine below_dn ?_ _ | refine below_set ?_ _ _ (by first | exact Nat.le_refl _ | (simp; done) | (simp; omega))))) (rdw5.at_ (by repeat (first | assumption | exact Below.refl _ _ | refine below_al ?_ _ | refine below_dr ?_ | refine below_dn ?_ _ | refine below_set ?_ _ _ (by first | exact Nat.le_refl _ | (simp; done) | (simp; omega)))))).mono ?_; rintro e w6 ⟨rfl, hbw6⟩; have hkw6 : Below w2.heap.size w2 w6 := below_next (by repeat (first | assumption | exact Below.refl _ _ | refine below_al ?_ _ | refine below_dr ?_ | refine below_dn ?_ _ | refine below_set ?_ _ _ (by first | exact Nat.le_refl _ | (simp; done) | (simp; omega)))) hbw6; have hsw6 : w2.heap.size ≤ w6.heap.size := hkw6.size; have hw3_w6 : Below w3.heap.size w3 w6 := below_next (by repeat (first | assumption | exact Below.refl _ _ | refine below_al ?_ _ | refine below_dr ?_ | refine below_dn ?_ _ | refine below_set ?_ _ _ (by first | exact Nat.le_refl _ | (simp; done) | (simp; omega)))) hbw6; have hw4_w6 : Below w4.heap.size w4 w6 := below_next (by repeat (first | assumption | exact Below.refl _ _ | refine below_al ?_ _ | refine below_dr ?_ | refine below_dn ?_ _ | refine below_set ?_ _ _ (by first | exact Nat.le_refl _ | (simp; done) | (simp; omega)))) hbw6; have hw5_w6 : Below w5.heap.size w5 w6 := below_next (by repeat (first | assumption | exact Below.refl _ _ | refine below_al ?_ _ | refine below_dr ?_ | refine below_dn ?_ _ | refine below_set ?_ _ _ (by first | exact Nat.le_refl _ | (simp; done) | (simp; omega)))) hbw6; (try (have ltw2_w6 : w2.heap.size < w6.heap.size := (by first | (have := hbw6.size; simp at this; omega) | (have := hbw6.size; omega)); have q0w2_w6 : w6.cell? ⟨w2.heap.size, 0, none⟩ = some (.int .i64 0) := keepC hbw6 (by first | assumption | (simp [go_sem]; done)); have q1w2_w6 : w6.cell? ⟨w2.heap.size, 1, none⟩ = some (.int .u64 0) := keepC hbw6 (by first | assumption | (simp [go_sem]; done)); have q2w2_w6 : w6.cell? ⟨w2.heap.size, 2, none⟩ = some (.int .u64 0) := keepC hbw6 (by first | assumption | (simp [go_sem]; done)); have fzw2_w6 : ∀ o, w6.frozen? ⟨w2.heap.size, o, none⟩ = false := fun o => (hbw6.frozen (p := ⟨w2.heap.size, o, none⟩) (by first | (show _ < _; omega) | (simp; done) | (simp; omega))).trans (by first | (simp [go_sem]; done) | (simp [*]; done)))); (try (have ltw3_w6 : w3.heap.size < w6.heap.size := (by first | (have := hbw6.size; simp at this; omega) | (have := hbw6.size; omega)); have q0w3_w6 : w6.cell? ⟨w3.heap.size, 0, none⟩ = some (.int .i64 0) := keepC hbw6 (by first | assumption | (simp [go_sem]; done)); have q1w3_w6 : w6.cell? ⟨w3.heap.size, 1, none⟩ = some (.int .u64 0) := keepC hbw6 (by first | assumption | (simp [go_sem]; done)); have q2w3_w6 : w6.cell? ⟨w3.heap.size, 2, none⟩ = some (.int .u64 0) := keepC hbw6 (by first | assumption | (simp [go_sem]; done)); have fzw3_w6 : ∀ o, w6.frozen? ⟨w3.heap.size, o, none⟩ = false := fun o => (hbw6.frozen (p := ⟨w3.heap.size, o, none⟩) (by first | (show _ < _; omega) | (simp; done) | (simp; omega))).trans (by first | (simp [go_sem]; done) | (simp [*]; done)))); (try (have ltw4_w6 : w4.heap.size < w6.heap.size := (by first | (have := hbw6.size; simp at this; omega) | (have := hbw6.size; omega)); have q0w4_w6 : w6.cell? ⟨w4.heap.size, 0, none⟩ = some (.int .i64 0) := keepC hbw6 (by first | assumption | (simp [go_sem]; done)); have q1w4_w6 : w6.cell? ⟨w4.heap.size, 1, none⟩ = some (.int .u64 0) := keepC hbw6 (by first | assumption | (simp [go_sem]; done)); have q2w4_w6 : w6.cell? ⟨w4.heap.size, 2, none⟩ = some (.int .u64 0) := keepC hbw6 (by first | assumption | (simp [go_sem]; done)); have fzw4_w6 : ∀ o, w6.frozen? ⟨w4.heap.size, o, none⟩ = false := fun o => (hbw6.frozen (p := ⟨w4.heap.size, o, none⟩) (by first | (show _ < _; omega) | (simp; done) | (simp; omega))).trans (by first | (simp [go_sem]; done) | (simp [*]; done)))); (try (have ltw5_w6 : w5.heap.size < w6.heap.size := (by first | (have := hbw6.size; simp at this; omega) | (have := hbw6.size; omega)); have q0w5_w6 : w6.cell? ⟨w5.heap.size, 0, none⟩ = some (.int .i64 0) := keepC hbw6 (by first | assumption | (simp [go_sem]; done)); have q1w5_w6 : w6.cell? ⟨w5.heap.size, 1, none⟩ = some (.int .u64 0) := keepC hbw6 (by first | assumption | (simp [go_sem]; done)); have q2w5_w6 : w6.cell? ⟨w5.heap.size, 2, none⟩ = some (.int .u64 0) := keepC hbw6 (by first | assumption | (simp [go_sem]; done)); have fzw5_w6 : ∀ o, w6.frozen? ⟨w5.heap.size, o, none⟩ = false := fun o => (hbw6.frozen (p := ⟨w5.heap.size, o, none⟩) (by first | (show _ < _; omega) | (simp; done) | (simp; omega))).trans (by first | (simp [go_sem]; done) | (simp [*]; done))))))
    all_goals (go_wp2_with fail; go_meet; exact ⟨_, rfl, rfl, rfl, (by first | (simp [go_sem]; done) | (simp [go_sem, q0w2_w6, q1w2_w6, q2w2_w6]; done) | (simp [go_sem, q0w3_w6, q1w3_w6, q2w3_w6]; done) | (simp [go_sem, q0w4_w6, q1w4_w6, q2w4_w6]; done) | (simp [go_sem, q0w5_w6, q1w5_w6, q2w5_w6]; done)), (by first | (simp [go_sem]; done) | (simp [go_sem, q0w2_w6, q1w2_w6, q2w2_w6]; done) | (simp [go_sem, q0w3_w6, q1w3_w6, q2w3_w6]; done) | (simp [go_sem, q0w4_w6, q1w4_w6, q2w4_w6]; done) | (simp [go_sem, q0w5_w6, q1w5_w6, q2w5_w6]; done)), (by first | (simp [go_sem]; done) | (simp [go_sem, q0w2_w6, q1w2_w6, q2w2_w6]; done) | (simp [go_sem, q0w3_w6, q1w3_w6, q2w3_w6]; done) | (simp [go_sem, q0w4_w6, q1w4_w6, q2w4_w6]; done) | (simp [go_sem, q0w5_w6, q1w5_w6, q2w5_w6]; done)), (by repeat (first | assumption | exact Below.refl _ _ | refine below_al ?_ _ | refine below_dr ?_ | refine below_dn ?_ _ | refine below_set ?_ _ _ (by first | exact Nat.le_refl _ | (simp; done) | (simp; omega)))), (by omega), (by first | omega | (simp; done) | (simp; omega))⟩)
  rename World => w7
  obtain ⟨gw7, rfl, rfl, rfl, bW00_w7, bW01_w7, bW02_w7, hkw7, low7, hiw7⟩ := hcut
  obtain ⟨ba00_w7, ba01_w7, ba02_w7, ba10_w7, ba11_w7⟩ := hMk.out _ hkw7
  have lb0w7 : w.heap.size < w7.heap.size := by have := hkw7.size; omega
  have lb1w7 : w.heap.size + 1 < w7.heap.size := by have := hkw7.size; omega
  have HBw7 : Hid (Below w.heap.size w w7) := Lib.hid (HBw2.out.trans (hkw7.mono HBw2.out.size))
  have rw7 : w2.heap.size ≤ w7.heap.size := hkw7.size
  have lb99w7 : gw7 < w7.heap.size := hiw7
  clear hMk ba00_w2 ba01_w2 ba02_w2 ba10_w2 ba11_w2 lb0w2 lb1w2 HBw2 hkw7
  go_wp2_with fail
  refine (HT1.out _ (h1.at_ HBw7.out)).mono ?_
  rintro e w8 ⟨A8, rfl, hownw8, hbw8⟩
  have OLX1 : Hid (∀ k, (Value.slice A8 xs1.length xs1.length).ownBlock = some k → w7.heap.size ≤ k ∧ k < w8.heap.size) := Lib.hid hownw8.lt
  have OWX1w8 := Lib.hid hownw8
  have rw8 : w7.heap.size ≤ w8.heap.size := hbw8.size
  have lb0w8 : w.heap.size < w8.heap.size := by have := hbw8.size; omega
  have lb1w8 : w.heap.size + 1 < w8.heap.size := by have := hbw8.size; omega
  have lb2w8 : gw7 < w8.heap.size := by have := hbw8.size; omega
  have ba00_w8 : w8.cell? ⟨w.heap.size, 0, none⟩ = some (.int .i64 k0) := keepC hbw8 ba00_w7
  have ba01_w8 : w8.cell? ⟨w.heap.size, 1, none⟩ = some (.int .u64 a0) := keepC hbw8 ba01_w7
  have ba02_w8 : w8.cell? ⟨w.heap.size, 2, none⟩ = some (.int .u64 b0) := keepC hbw8 ba02_w7
  have ba10_w8 : w8.cell? ⟨w.heap.size + 1, 0, none⟩ = some (.int .i64 n1) := keepC hbw8 ba10_w7
  have ba11_w8 : w8.cell? ⟨w.heap.size + 1, 1, none⟩ = some (.slice A1 xs1.length c1) := keepC hbw8 ba11_w7
  have bW00_w8 : w8.cell? ⟨gw7, 0, none⟩ = some (.int .i64 rk) := keepC hbw8 bW00_w7
  have bW01_w8 : w8.cell? ⟨gw7, 1, none⟩ = some (.int .u64 ra) := keepC hbw8 bW01_w7
  have bW02_w8 : w8.cell? ⟨gw7, 2, none⟩ = some (.int .u64 rb) := keepC hbw8 bW02_w7
  have HBw8 : Hid (Below w.heap.size w w8) := Lib.hid (HBw7.out.trans (hbw8.mono HBw7.out.size))
  clear lb0w7 lb1w7 lb99w7 ba00_w7 ba01_w7 ba02_w7 ba10_w7 ba11_w7 bW00_w7 bW01_w7 bW02_w7 HBw7 hbw8 hownw8
  go_wp2_with fail
  generalize hWw9 : World.alloc w8 _ = w9
  have hbw9 : Below w8.heap.size w8 w9 := by rw [← hWw9]; exact Below.alloc (Below.refl _ _) (by simp; try omega) _
  have sw9 : w8.heap.size + 1 ≤ w9.heap.size := by rw [← hWw9]; simp
  have bx100_w9 : w9.cell? ⟨w8.heap.size, 0, none⟩ = some (.int .i64 n1) := by rw [← hWw9]; simp [go_sem]
  have bx101_w9 : w9.cell? ⟨w8.heap.size, 1, none⟩ = some (.slice A8 xs1.length xs1.length) := by rw [← hWw9]; simp [go_sem]
  have lb0w9 : w.heap.size < w9.heap.size := by have := hbw9.size; omega
  have lb1w9 : w.heap.size + 1 < w9.heap.size := by have := hbw9.size; omega
  have lb2w9 : gw7 < w9.heap.size := by have := hbw9.size; omega
  have ba00_w9 : w9.cell? ⟨w.heap.size, 0, none⟩ = some (.int .i64 k0) := keepC hbw9 ba00_w8
  have ba01_w9 : w9.cell? ⟨w.heap.size, 1, none⟩ = some (.int .u64 a0) := keepC hbw9 ba01_w8
  have ba02_w9 : w9.cell? ⟨w.heap.size, 2, none⟩ = some (.int .u64 b0) := keepC hbw9 ba02_w8
  have ba10_w9 : w9.cell? ⟨w.heap.size + 1, 0, none⟩ = some (.int .i64 n1) := keepC hbw9 ba10_w8
  have ba11_w9 : w9.cell? ⟨w.heap.size + 1, 1, none⟩ = some (.slice A1 xs1.length c1) := keepC hbw9 ba11_w8
  have bW00_w9 : w9.cell? ⟨gw7, 0, none⟩ = some (.int .i64 rk) := keepC hbw9 bW00_w8
  have bW01_w9 : w9.cell? ⟨gw7, 1, none⟩ = some (.int .u64 ra) := keepC hbw9 bW01_w8
  have bW02_w9 : w9.cell? ⟨gw7, 2, none⟩ = some (.int .u64 rb) := keepC hbw9 bW02_w8
  have OWX1w9 := Lib.hid (own_below OWX1w8.out hbw9)
  have HBw9 : Hid (Below w.heap.size w w9) := Lib.hid (HBw8.out.trans (hbw9.mono HBw8.out.size))
  clear lb0w8 lb1w8 lb2w8 ba00_w8 ba01_w8 ba02_w8 ba10_w8 ba11_w8 bW00_w8 bW01_w8 bW02_w8 OWX1w8 HBw8 hWw9 hbw9
  have lb3w9 : w8.heap.size < w9.heap.size := by omega
  refine (HT3.out _ (h3.at_ HBw9.out)).mono ?_
  rintro e w10 ⟨A10, rfl, hownw10, hbw10⟩
  have OLX3 : Hid (∀ k, (Value.slice A10 xs3.length xs3.length).ownBlock = some k → w9.heap.size ≤ k ∧ k < w10.heap.size) := Lib.hid hownw10.lt
  have OWX3w10 := Lib.hid hownw10
  have rw10 : w9.heap.size ≤ w10.heap.size := hbw10.size
  have lb0w10 : w.heap.size < w10.heap.size := by have := hbw10.size; omega
  have lb1w10 : w.heap.size + 1 < w10.heap.size := by have := hbw10.size; omega
  have lb2w10 : gw7 < w10.heap.size := by have := hbw10.size; omega
  have lb3w10 : w8.heap.size < w10.heap.size := by have := hbw10.size; omega
  have ba00_w10 : w10.cell? ⟨w.heap.size, 0, none⟩ = some (.int .i64 k0) := keepC hbw10 ba00_w9
  have ba01_w10 : w10.cell? ⟨w.heap.size, 1, none⟩ = some (.int .u64 a0) := keepC hbw10 ba01_w9
  have ba02_w10 : w10.cell? ⟨w.heap.size, 2, none⟩ = some (.int .u64 b0) := keepC hbw10 ba02_w9
  have ba10_w10 : w10.cell? ⟨w.heap.size + 1, 0, none⟩ = some (.int .i64 n1) := keepC hbw10 ba10_w9
  have ba11_w10 : w10.cell? ⟨w.heap.size + 1, 1, none⟩ = some (.slice A1 xs1.length c1) := keepC hbw10 ba11_w9
  have bW00_w10 : w10.cell? ⟨gw7, 0, none⟩ = some (.int .i64 rk) := keepC hbw10 bW00_w9
  have bW01_w10 : w10.cell? ⟨gw7, 1, none⟩ = some (.int .u64 ra) := keepC hbw10 bW01_w9
  have bW02_w10 : w10.cell? ⟨gw7, 2, none⟩ = some (.int .u64 rb) := keepC hbw10 bW02_w9
  have bx100_w10 : w10.cell? ⟨w8.heap.size, 0, none⟩ = some (.int .i64 n1) := keepC hbw10 bx100_w9
  have bx101_w10 : w10.cell? ⟨w8.heap.size, 1, none⟩ = some (.slice A8 xs1.length xs1.length) := keepC hbw10 bx101_w9
  have OWX1w10 := Lib.hid (own_below OWX1w9.out hbw10)
  have HBw10 : Hid (Below w.heap.size w w10) := Lib.hid (HBw9.out.trans (hbw10.mono HBw9.out.size))
  clear lb0w9 lb1w9 lb2w9 lb3w9 ba00_w9 ba01_w9 ba02_w9 ba10_w9 ba11_w9 bW00_w9 bW01_w9 bW02_w9 bx100_w9 bx101_w9 OWX1w9 HBw9 hbw10 hownw10
  go_wp2_with fail
  go_upto_region 10 with fail
  have hMk : Hid (∀ W, Below w10.heap.size w10 W → W.cell? ⟨w.heap.size, 0, none⟩ = some (.int .i64 k0) ∧ W.cell? ⟨w.heap.size, 1, none⟩ = some (.int .u64 a0) ∧ W.cell? ⟨w.heap.size, 2, none⟩ = some (.int .u64 b0) ∧ W.cell? ⟨w.heap.size + 1, 0, none⟩ = some (.int .i64 n1) ∧ W.cell? ⟨w.heap.size + 1, 1, none⟩ = some (.slice A1 xs1.length c1) ∧ W.cell? ⟨gw7, 0, none⟩ = some (.int .i64 rk) ∧ W.cell? ⟨gw7, 1, none⟩ = some (.int .u64 ra) ∧ W.cell? ⟨gw7, 2, none⟩ = some (.int .u64 rb) ∧ W.cell? ⟨w8.heap.size, 0, none⟩ = some (.int .i64 n1) ∧ W.cell? ⟨w8.heap.size, 1, none⟩ = some (.slice A8 xs1.length xs1.length)) := Lib.hid fun W hW => ⟨keepC hW ba00_w10, keepC hW ba01_w10, keepC hW ba02_w10, keepC hW ba10_w10, keepC hW ba11_w10, keepC hW bW00_w10, keepC hW bW01_w10, keepC hW bW02_w10, keepC hW bx100_w10, keepC hW bx101_w10⟩
  go_cut [17, 18, 19] (fun s17 s18 s19 wx => ∃ g, s17 = .pointer (some ⟨g, 0, none⟩) ∧ s18 = .float .f32 rf ∧ s19 = .bool ok ∧ wx.cell? ⟨g, 0, none⟩ = some (.int .i64 rk) ∧ wx.cell? ⟨g, 1, none⟩ = some (.int .u64 ra) ∧ wx.cell? ⟨g, 2, none⟩ = some (.int .u64 rb) ∧ Below w10.heap.size w10 wx ∧ w10.heap.size ≤ g ∧ g < wx.heap.size)
  case first =>
    go_region_held3 (fun W => W.cell? ⟨w.heap.size, 0, none⟩ = some (.int .i64 k0) ∧ W.cell? ⟨w.heap.size, 1, none⟩ = some (.int .u64 a0) ∧ W.cell? ⟨w.heap.size, 2, none⟩ = some (.int .u64 b0) ∧ W.cell? ⟨w.heap.size + 1, 0, none⟩ = some (.int .i64 n1) ∧ W.cell? ⟨w.heap.size + 1, 1, none⟩ = some (.slice A1 xs1.length c1) ∧ W.cell? ⟨gw7, 0, none⟩ = some (.int .i64 rk) ∧ W.cell? ⟨gw7, 1, none⟩ = some (.int .u64 ra) ∧ W.cell? ⟨gw7, 2, none⟩ = some (.int .u64 rb) ∧ W.cell? ⟨w8.heap.size, 0, none⟩ = some (.int .i64 n1) ∧ W.cell? ⟨w8.heap.size, 1, none⟩ = some (.slice A8 xs1.length xs1.length))
      (first | exact hMk.out _ (by repeat (first | assumption | exact Below.refl _ _ | refine below_al ?_ _ | refine below_dr ?_ | refine below_dn ?_ _ | refine below_set ?_ _ _ (by first | exact Nat.le_refl _ | (simp; done) | (simp; omega)))))
      (first
        | (go_at_call 65; refine (HT0.out _).mono ?_; rintro e w11 ⟨rfl, hbw11⟩; have hkw11 : Below w10.heap.size w10 w11 := below_next (by repeat (first | assumption | exact Below.refl _ _ | refine below_al ?_ _ | refine below_dr ?_ | refine below_dn ?_ _ | refine below_set ?_ _ _ (by first | exact Nat.le_refl _ | (simp; done) | (simp; omega)))) hbw11; have hsw11 : w10.heap.size ≤ w11.heap.size := hkw11.size; (try (have ltw10_w11 : w10.heap.size < w11.heap.size := (by first | (have := hbw11.size; simp at this; omega) | (have := hbw11.size; omega)); have q0w10_w11 : w11.cell? ⟨w10.heap.size, 0, none⟩ = some (.int .i64 0) := keepC hbw11 (by first | assumption | (simp [go_sem]; done)); have q1w10_w11 : w11.cell? ⟨w10.heap.size, 1, none⟩ = some (.int .u64 0) := keepC hbw11 (by first | assumption | (simp [go_sem]; done)); have q2w10_w11 : w11.cell? ⟨w10.heap.size, 2, none⟩ = some (.int .u64 0) := keepC hbw11 (by first | assumption | (simp [go_sem]; done)); have fzw10_w11 : ∀ o, w11.frozen? ⟨w10.heap.size, o, none⟩ = false := fun o => (hbw11.frozen (p := ⟨w10.heap.size, o, none⟩) (by first | (show _ < _; omega) | (simp; done) | (simp; omega))).trans (by first | (simp [go_sem]; done) | (simp [*]; done)))))
        | (go_at_call 78; refine (HI.out A8 A10 _ ((Rd.of_own OWX1w10.out).at_ (by repeat (first | assumption | exact Below.refl _ _ | refine below_al ?_ _ | refine below_dr ?_ | refine below_dn ?_ _ | refine below_set ?_ _ _ (by first | exact Nat.le_refl _ | (simp; done) | (simp; omega))))) ((Rd.of_own OWX3w10.out).at_ (by repeat (first | assumption | exact Below.refl _ _ | refine below_al ?_ _ | refine below_dr ?_ | refine below_dn ?_ _ | refine below_set ?_ _ _ (by first | exact Nat.le_refl _ | (simp; done) | (simp; omega)))))).mono ?_; rintro e w12 ⟨rfl, hbw12⟩; have hkw12 : Below w10.heap.size w10 w12 := below_next (by repeat (first | assumption | exact Below.refl _ _ | refine below_al ?_ _ | refine below_dr ?_ | refine below_dn ?_ _ | refine below_set ?_ _ _ (by first | exact Nat.le_refl _ | (simp; done) | (simp; omega)))) hbw12; have hsw12 : w10.heap.size ≤ w12.heap.size := hkw12.size; have hw11_w12 : Below w11.heap.size w11 w12 := below_next (by repeat (first | assumption | exact Below.refl _ _ | refine below_al ?_ _ | refine below_dr ?_ | refine below_dn ?_ _ | refine below_set ?_ _ _ (by first | exact Nat.le_refl _ | (simp; done) | (simp; omega)))) hbw12; (try (have ltw10_w12 : w10.heap.size < w12.heap.size := (by first | (have := hbw12.size; simp at this; omega) | (have := hbw12.size; omega)); have q0w10_w12 : w12.cell? ⟨w10.heap.size, 0, none⟩ = some (.int .i64 0) := keepC hbw12 (by first | assumption | (simp [go_sem]; done)); have q1w10_w12 : w12.cell? ⟨w10.heap.size, 1, none⟩ = some (.int .u64 0) := keepC hbw12 (by first | assumption | (simp [go_sem]; done)); have q2w10_w12 : w12.cell? ⟨w10.heap.size, 2, none⟩ = some (.int .u64 0) := keepC hbw12 (by first | assumption | (simp [go_sem]; done)); have fzw10_w12 : ∀ o, w12.frozen? ⟨w10.heap.size, o, none⟩ = false := fun o => (hbw12.frozen (p := ⟨w10.heap.size, o, none⟩) (by first | (show _ < _; omega) | (simp; done) | (simp; omega))).trans (by first | (simp [go_sem]; done) | (simp [*]; done)))); (try (have ltw11_w12 : w11.heap.size < w12.heap.size := (by first | (have := hbw12.size; simp at this; omega) | (have := hbw12.size; omega)); have q0w11_w12 : w12.cell? ⟨w11.heap.size, 0, none⟩ = some (.int .i64 0) := keepC hbw12 (by first | assumption | (simp [go_sem]; done)); have q1w11_w12 : w12.cell? ⟨w11.heap.size, 1, none⟩ = some (.int .u64 0) := keepC hbw12 (by first | assumption | (simp [go_sem]; done)); have q2w11_w12 : w12.cell? ⟨w11.heap.size, 2, none⟩ = some (.int .u64 0) := keepC hbw12 (by first | assumption | (simp [go_sem]; done)); have fzw11_w12 : ∀ o, w12.frozen? ⟨w11.heap.size, o, none⟩ = false := fun o => (hbw12.frozen (p := ⟨w11.heap.size, o, none⟩) (by first | (show _ < _; omega) | (simp; done) | (simp; omega))).trans (by first | (simp [go_sem]; done) | (simp [*]; done))))))
    all_goals (go_wp2_with fail; go_meet; exact ⟨_, rfl, rfl, rfl, (by first | (simp [go_sem]; done) | (simp [go_sem, q0w10_w12, q1w10_w12, q2w10_w12]; done) | (simp [go_sem, q0w11_w12, q1w11_w12, q2w11_w12]; done)), (by first | (simp [go_sem]; done) | (simp [go_sem, q0w10_w12, q1w10_w12, q2w10_w12]; done) | (simp [go_sem, q0w11_w12, q1w11_w12, q2w11_w12]; done)), (by first | (simp [go_sem]; done) | (simp [go_sem, q0w10_w12, q1w10_w12, q2w10_w12]; done) | (simp [go_sem, q0w11_w12, q1w11_w12, q2w11_w12]; done)), (by repeat (first | assumption | exact Below.refl _ _ | refine below_al ?_ _ | refine below_dr ?_ | refine below_dn ?_ _ | refine below_set ?_ _ _ (by first | exact Nat.le_refl _ | (simp; done) | (simp; omega)))), (by omega), (by first | omega | (simp; done) | (simp; omega))⟩)
  rename World => w13
  obtain ⟨gw13, rfl, rfl, rfl, bG00_w13, bG01_w13, bG02_w13, hkw13, low13, hiw13⟩ := hcut
  obtain ⟨ba00_w13, ba01_w13, ba02_w13, ba10_w13, ba11_w13, bW00_w13, bW01_w13, bW02_w13, bx100_w13, bx101_w13⟩ := hMk.out _ hkw13
  have lb0w13 : w.heap.size < w13.heap.size := by have := hkw13.size; omega
  have lb1w13 : w.heap.size + 1 < w13.heap.size := by have := hkw13.size; omega
  have lb2w13 : gw7 < w13.heap.size := by have := hkw13.size; omega
  have lb3w13 : w8.heap.size < w13.heap.size := by have := hkw13.size; omega
  have OWX1w13 := Lib.hid (own_below OWX1w10.out hkw13)
  have OWX3w13 := Lib.hid (own_below OWX3w10.out hkw13)
  have HBw13 : Hid (Below w.heap.size w w13) := Lib.hid (HBw10.out.trans (hkw13.mono HBw10.out.size))
  have rw13 : w10.heap.size ≤ w13.heap.size := hkw13.size
  have lb99w13 : gw13 < w13.heap.size := hiw13
  clear hMk ba00_w10 ba01_w10 ba02_w10 ba10_w10 ba11_w10 bW00_w10 bW01_w10 bW02_w10 bx100_w10 bx101_w10 lb0w10 lb1w10 lb2w10 lb3w10 OWX1w10 OWX3w10 HBw10 hkw13
  go_wp2_with fail
  go_wp2_with fail
  refine (HQ.out _).mono ?_
  rintro e w14 ⟨rfl, hbw14⟩
  have lb0w14 : w.heap.size < w14.heap.size := by have := hbw14.size; omega
  have lb1w14 : w.heap.size + 1 < w14.heap.size := by have := hbw14.size; omega
  have lb2w14 : gw7 < w14.heap.size := by have := hbw14.size; omega
  have lb3w14 : w8.heap.size < w14.heap.size := by have := hbw14.size; omega
  have lb4w14 : gw13 < w14.heap.size := by have := hbw14.size; omega
  have ba00_w14 : w14.cell? ⟨w.heap.size, 0, none⟩ = some (.int .i64 k0) := keepC hbw14 ba00_w13
  have ba01_w14 : w14.cell? ⟨w.heap.size, 1, none⟩ = some (.int .u64 a0) := keepC hbw14 ba01_w13
  have ba02_w14 : w14.cell? ⟨w.heap.size, 2, none⟩ = some (.int .u64 b0) := keepC hbw14 ba02_w13
  have ba10_w14 : w14.cell? ⟨w.heap.size + 1, 0, none⟩ = some (.int .i64 n1) := keepC hbw14 ba10_w13
  have ba11_w14 : w14.cell? ⟨w.heap.size + 1, 1, none⟩ = some (.slice A1 xs1.length c1) := keepC hbw14 ba11_w13
  have bW00_w14 : w14.cell? ⟨gw7, 0, none⟩ = some (.int .i64 rk) := keepC hbw14 bW00_w13
  have bW01_w14 : w14.cell? ⟨gw7, 1, none⟩ = some (.int .u64 ra) := keepC hbw14 bW01_w13
  have bW02_w14 : w14.cell? ⟨gw7, 2, none⟩ = some (.int .u64 rb) := keepC hbw14 bW02_w13
  have bx100_w14 : w14.cell? ⟨w8.heap.size, 0, none⟩ = some (.int .i64 n1) := keepC hbw14 bx100_w13
  have bx101_w14 : w14.cell? ⟨w8.heap.size, 1, none⟩ = some (.slice A8 xs1.length xs1.length) := keepC hbw14 bx101_w13
  have bG00_w14 : w14.cell? ⟨gw13, 0, none⟩ = some (.int .i64 rk) := keepC hbw14 bG00_w13
  have bG01_w14 : w14.cell? ⟨gw13, 1, none⟩ = some (.int .u64 ra) := keepC hbw14 bG01_w13
  have bG02_w14 : w14.cell? ⟨gw13, 2, none⟩ = some (.int .u64 rb) := keepC hbw14 bG02_w13
  have OWX1w14 := Lib.hid (own_below OWX1w13.out hbw14)
  have OWX3w14 := Lib.hid (own_below OWX3w13.out hbw14)
  have HBw14 : Hid (Below w.heap.size w w14) := Lib.hid (HBw13.out.trans (hbw14.mono HBw13.out.size))
  have zw14 : w13.heap.size ≤ w14.heap.size := by have := hbw14.size; omega
  clear lb0w13 lb1w13 lb2w13 lb3w13 lb99w13 ba00_w13 ba01_w13 ba02_w13 ba10_w13 ba11_w13 bW00_w13 bW01_w13 bW02_w13 bx100_w13 bx101_w13 bG00_w13 bG01_w13 bG02_w13 OWX1w13 OWX3w13 HBw13 hbw14
  go_wp2_with fail
  refine (HQF.out _).mono ?_
  rintro e w15 hqw15
  obtain ⟨rfl, hbw15⟩ := hqw15.below
  have lb0w15 : w.heap.size < w15.heap.size := by have := hbw15.size; omega
  have lb1w15 : w.heap.size + 1 < w15.heap.size := by have := hbw15.size; omega
  have lb2w15 : gw7 < w15.heap.size := by have := hbw15.size; omega
  have lb3w15 : w8.heap.size < w15.heap.size := by have := hbw15.size; omega
  have lb4w15 : gw13 < w15.heap.size := by have := hbw15.size; omega
  have ba00_w15 : w15.cell? ⟨w.heap.size, 0, none⟩ = some (.int .i64 k0) := keepC hbw15 ba00_w14
  have ba01_w15 : w15.cell? ⟨w.heap.size, 1, none⟩ = some (.int .u64 a0) := keepC hbw15 ba01_w14
  have ba02_w15 : w15.cell? ⟨w.heap.size, 2, none⟩ = some (.int .u64 b0) := keepC hbw15 ba02_w14
  have ba10_w15 : w15.cell? ⟨w.heap.size + 1, 0, none⟩ = some (.int .i64 n1) := keepC hbw15 ba10_w14
  have ba11_w15 : w15.cell? ⟨w.heap.size + 1, 1, none⟩ = some (.slice A1 xs1.length c1) := keepC hbw15 ba11_w14
  have bW00_w15 : w15.cell? ⟨gw7, 0, none⟩ = some (.int .i64 rk) := keepC hbw15 bW00_w14
  have bW01_w15 : w15.cell? ⟨gw7, 1, none⟩ = some (.int .u64 ra) := keepC hbw15 bW01_w14
  have bW02_w15 : w15.cell? ⟨gw7, 2, none⟩ = some (.int .u64 rb) := keepC hbw15 bW02_w14
  have bx100_w15 : w15.cell? ⟨w8.heap.size, 0, none⟩ = some (.int .i64 n1) := keepC hbw15 bx100_w14
  have bx101_w15 : w15.cell? ⟨w8.heap.size, 1, none⟩ = some (.slice A8 xs1.length xs1.length) := keepC hbw15 bx101_w14
  have bG00_w15 : w15.cell? ⟨gw13, 0, none⟩ = some (.int .i64 rk) := keepC hbw15 bG00_w14
  have bG01_w15 : w15.cell? ⟨gw13, 1, none⟩ = some (.int .u64 ra) := keepC hbw15 bG01_w14
  have bG02_w15 : w15.cell? ⟨gw13, 2, none⟩ = some (.int .u64 rb) := keepC hbw15 bG02_w14
  have OWX1w15 := Lib.hid (own_below OWX1w14.out hbw15)
  have OWX3w15 := Lib.hid (own_below OWX3w14.out hbw15)
  have HBw15 : Hid (Below w.heap.size w w15) := Lib.hid (HBw14.out.trans (hbw15.mono HBw14.out.size))
  have zw15 : w13.heap.size ≤ w15.heap.size := by have := hbw15.size; omega
  clear lb0w14 lb1w14 lb2w14 lb3w14 lb4w14 ba00_w14 ba01_w14 ba02_w14 ba10_w14 ba11_w14 bW00_w14 bW01_w14 bW02_w14 bx100_w14 bx101_w14 bG00_w14 bG01_w14 bG02_w14 OWX1w14 OWX3w14 HBw14 zw14 hbw15 hqw15
  go_wp2_with fail
  have hMk : Hid (∀ W, Below w15.heap.size w15 W → W.cell? ⟨w.heap.size, 0, none⟩ = some (.int .i64 k0) ∧ W.cell? ⟨w.heap.size, 1, none⟩ = some (.int .u64 a0) ∧ W.cell? ⟨w.heap.size, 2, none⟩ = some (.int .u64 b0) ∧ W.cell? ⟨w.heap.size + 1, 0, none⟩ = some (.int .i64 n1) ∧ W.cell? ⟨w.heap.size + 1, 1, none⟩ = some (.slice A1 xs1.length c1) ∧ W.cell? ⟨gw7, 0, none⟩ = some (.int .i64 rk) ∧ W.cell? ⟨gw7, 1, none⟩ = some (.int .u64 ra) ∧ W.cell? ⟨gw7, 2, none⟩ = some (.int .u64 rb) ∧ W.cell? ⟨w8.heap.size, 0, none⟩ = some (.int .i64 n1) ∧ W.cell? ⟨w8.heap.size, 1, none⟩ = some (.slice A8 xs1.length xs1.length) ∧ W.cell? ⟨gw13, 0, none⟩ = some (.int .i64 rk) ∧ W.cell? ⟨gw13, 1, none⟩ = some (.int .u64 ra) ∧ W.cell? ⟨gw13, 2, none⟩ = some (.int .u64 rb)) := Lib.hid fun W hW => ⟨keepC hW ba00_w15, keepC hW ba01_w15, keepC hW ba02_w15, keepC hW ba10_w15, keepC hW ba11_w15, keepC hW bW00_w15, keepC hW bW01_w15, keepC hW bW02_w15, keepC hW bx100_w15, keepC hW bx101_w15, keepC hW bG00_w15, keepC hW bG01_w15, keepC hW bG02_w15⟩
  go_region_held3 (fun W => W.cell? ⟨w.heap.size, 0, none⟩ = some (.int .i64 k0) ∧ W.cell? ⟨w.heap.size, 1, none⟩ = some (.int .u64 a0) ∧ W.cell? ⟨w.heap.size, 2, none⟩ = some (.int .u64 b0) ∧ W.cell? ⟨w.heap.size + 1, 0, none⟩ = some (.int .i64 n1) ∧ W.cell? ⟨w.heap.size + 1, 1, none⟩ = some (.slice A1 xs1.length c1) ∧ W.cell? ⟨gw7, 0, none⟩ = some (.int .i64 rk) ∧ W.cell? ⟨gw7, 1, none⟩ = some (.int .u64 ra) ∧ W.cell? ⟨gw7, 2, none⟩ = some (.int .u64 rb) ∧ W.cell? ⟨w8.heap.size, 0, none⟩ = some (.int .i64 n1) ∧ W.cell? ⟨w8.heap.size, 1, none⟩ = some (.slice A8 xs1.length xs1.length) ∧ W.cell? ⟨gw13, 0, none⟩ = some (.int .i64 rk) ∧ W.cell? ⟨gw13, 1, none⟩ = some (.int .u64 ra) ∧ W.cell? ⟨gw13, 2, none⟩ = some (.int .u64 rb))
    (first | exact hMk.out _ ((Below.refl _ _).drew) | exact hMk.out _ (by assumption))
    (first
      | (go_at_call 29; refine (HT1.out _ (h1.at_ HBw15.out.drew)).mono ?_; rintro e w16 ⟨A16, rfl, hownw16, hbw16⟩; have hkw16 : Below w15.heap.size w15 w16 := Below.trans (Below.refl _ _).drew hbw16)
      | (go_at_call 31; refine (HX1.out _ _ _ _ _ ((Rd.of_own OWX1w15.out).at_ hkw16) (Rd.of_own hownw16)).mono ?_; rintro e w17 ⟨rfl, hbw17⟩; have hkw17 : Below w15.heap.size w15 w17 := hkw16.trans (hbw17.mono hkw16.size)))
  obtain ⟨ba00_w17, ba01_w17, ba02_w17, ba10_w17, ba11_w17, bW00_w17, bW01_w17, bW02_w17, bx100_w17, bx101_w17, bG00_w17, bG01_w17, bG02_w17⟩ := hMk.out _ hkw17
  have lb0w17 : w.heap.size < w17.heap.size := by have := hkw17.size; omega
  have lb1w17 : w.heap.size + 1 < w17.heap.size := by have := hkw17.size; omega
  have lb2w17 : gw7 < w17.heap.size := by have := hkw17.size; omega
  have lb3w17 : w8.heap.size < w17.heap.size := by have := hkw17.size; omega
  have lb4w17 : gw13 < w17.heap.size := by have := hkw17.size; omega
  have OWX1w17 := Lib.hid (own_below OWX1w15.out hkw17)
  have OWX3w17 := Lib.hid (own_below OWX3w15.out hkw17)
  have HBw17 : Hid (Below w.heap.size w w17) := Lib.hid (HBw15.out.trans (hkw17.mono HBw15.out.size))
  have zw17 : w13.heap.size ≤ w17.heap.size := by have := hkw17.size; omega
  clear hMk ba00_w15 ba01_w15 ba02_w15 ba10_w15 ba11_w15 bW00_w15 bW01_w15 bW02_w15 bx100_w15 bx101_w15 bG00_w15 bG01_w15 bG02_w15 hbw16 hkw16 hownw16 lb0w15 lb1w15 lb2w15 lb3w15 lb4w15 OWX1w15 OWX3w15 HBw15 zw15 hbw17 hkw17
  go_wp2_with fail
  refine (HT3.out _ (h3.at_ HBw17.out)).mono ?_
  rintro e w18 ⟨A18, rfl, hownw18, hbw18⟩
  have OLY : Hid (∀ k, (Value.slice A18 xs3.length xs3.length).ownBlock = some k → w17.heap.size ≤ k ∧ k < w18.heap.size) := Lib.hid hownw18.lt
  have OWYw18 := Lib.hid hownw18
  have rw18 : w17.heap.size ≤ w18.heap.size := hbw18.size
  have lb0w18 : w.heap.size < w18.heap.size := by have := hbw18.size; omega
  have lb1w18 : w.heap.size + 1 < w18.heap.size := by have := hbw18.size; omega
  have lb2w18 : gw7 < w18.heap.size := by have := hbw18.size; omega
  have lb3w18 : w8.heap.size < w18.heap.size := by have := hbw18.size; omega
  have lb4w18 : gw13 < w18.heap.size := by have := hbw18.size; omega
  have ba00_w18 : w18.cell? ⟨w.heap.size, 0, none⟩ = some (.int .i64 k0) := keepC hbw18 ba00_w17
  have ba01_w18 : w18.cell? ⟨w.heap.size, 1, none⟩ = some (.int .u64 a0) := keepC hbw18 ba01_w17
  have ba02_w18 : w18.cell? ⟨w.heap.size, 2, none⟩ = some (.int .u64 b0) := keepC hbw18 ba02_w17
  have ba10_w18 : w18.cell? ⟨w.heap.size + 1, 0, none⟩ = some (.int .i64 n1) := keepC hbw18 ba10_w17
  have ba11_w18 : w18.cell? ⟨w.heap.size + 1, 1, none⟩ = some (.slice A1 xs1.length c1) := keepC hbw18 ba11_w17
  have bW00_w18 : w18.cell? ⟨gw7, 0, none⟩ = some (.int .i64 rk) := keepC hbw18 bW00_w17
  have bW01_w18 : w18.cell? ⟨gw7, 1, none⟩ = some (.int .u64 ra) := keepC hbw18 bW01_w17
  have bW02_w18 : w18.cell? ⟨gw7, 2, none⟩ = some (.int .u64 rb) := keepC hbw18 bW02_w17
  have bx100_w18 : w18.cell? ⟨w8.heap.size, 0, none⟩ = some (.int .i64 n1) := keepC hbw18 bx100_w17
  have bx101_w18 : w18.cell? ⟨w8.heap.size, 1, none⟩ = some (.slice A8 xs1.length xs1.length) := keepC hbw18 bx101_w17
  have bG00_w18 : w18.cell? ⟨gw13, 0, none⟩ = some (.int .i64 rk) := keepC hbw18 bG00_w17
  have bG01_w18 : w18.cell? ⟨gw13, 1, none⟩ = some (.int .u64 ra) := keepC hbw18 bG01_w17
  have bG02_w18 : w18.cell? ⟨gw13, 2, none⟩ = some (.int .u64 rb) := keepC hbw18 bG02_w17
  have OWX1w18 := Lib.hid (own_below OWX1w17.out hbw18)
  have OWX3w18 := Lib.hid (own_below OWX3w17.out hbw18)
  have HBw18 : Hid (Below w.heap.size w w18) := Lib.hid (HBw17.out.trans (hbw18.mono HBw17.out.size))
  clear lb0w17 lb1w17 lb2w17 lb3w17 lb4w17 ba00_w17 ba01_w17 ba02_w17 ba10_w17 ba11_w17 bW00_w17 bW01_w17 bW02_w17 bx100_w17 bx101_w17 bG00_w17 bG01_w17 bG02_w17 OWX1w17 OWX3w17 HBw17 hbw18 hownw18
  go_wp2_with fail
  refine (HX3.out A10 A18 _ _ _ (Rd.of_own OWX3w18.out) (Rd.of_own OWYw18.out)).mono ?_
  rintro e w19 hqw19
  obtain ⟨rfl, hbw19⟩ := hqw19.below
  have lb0w19 : w.heap.size < w19.heap.size := by have := hbw19.size; omega
  have lb1w19 : w.heap.size + 1 < w19.heap.size := by have := hbw19.size; omega
  have lb2w19 : gw7 < w19.heap.size := by have := hbw19.size; omega
  have lb3w19 : w8.heap.size < w19.heap.size := by have := hbw19.size; omega
  have lb4w19 : gw13 < w19.heap.size := by have := hbw19.size; omega
  have ba00_w19 : w19.cell? ⟨w.heap.size, 0, none⟩ = some (.int .i64 k0) := keepC hbw19 ba00_w18
  have ba01_w19 : w19.cell? ⟨w.heap.size, 1, none⟩ = some (.int .u64 a0) := keepC hbw19 ba01_w18
  have ba02_w19 : w19.cell? ⟨w.heap.size, 2, none⟩ = some (.int .u64 b0) := keepC hbw19 ba02_w18
  have ba10_w19 : w19.cell? ⟨w.heap.size + 1, 0, none⟩ = some (.int .i64 n1) := keepC hbw19 ba10_w18
  have ba11_w19 : w19.cell? ⟨w.heap.size + 1, 1, none⟩ = some (.slice A1 xs1.length c1) := keepC hbw19 ba11_w18
  have bW00_w19 : w19.cell? ⟨gw7, 0, none⟩ = some (.int .i64 rk) := keepC hbw19 bW00_w18
  have bW01_w19 : w19.cell? ⟨gw7, 1, none⟩ = some (.int .u64 ra) := keepC hbw19 bW01_w18
  have bW02_w19 : w19.cell? ⟨gw7, 2, none⟩ = some (.int .u64 rb) := keepC hbw19 bW02_w18
  have bx100_w19 : w19.cell? ⟨w8.heap.size, 0, none⟩ = some (.int .i64 n1) := keepC hbw19 bx100_w18
  have bx101_w19 : w19.cell? ⟨w8.heap.size, 1, none⟩ = some (.slice A8 xs1.length xs1.length) := keepC hbw19 bx101_w18
  have bG00_w19 : w19.cell? ⟨gw13, 0, none⟩ = some (.int .i64 rk) := keepC hbw19 bG00_w18
  have bG01_w19 : w19.cell? ⟨gw13, 1, none⟩ = some (.int .u64 ra) := keepC hbw19 bG01_w18
  have bG02_w19 : w19.cell? ⟨gw13, 2, none⟩ = some (.int .u64 rb) := keepC hbw19 bG02_w18
  have OWX1w19 := Lib.hid (own_below OWX1w18.out hbw19)
  have OWX3w19 := Lib.hid (own_below OWX3w18.out hbw19)
  have OWYw19 := Lib.hid (own_below OWYw18.out hbw19)
  have HBw19 : Hid (Below w.heap.size w w19) := Lib.hid (HBw18.out.trans (hbw19.mono HBw18.out.size))
  have zw19 : w18.heap.size ≤ w19.heap.size := by have := hbw19.size; omega
  clear lb0w18 lb1w18 lb2w18 lb3w18 lb4w18 ba00_w18 ba01_w18 ba02_w18 ba10_w18 ba11_w18 bW00_w18 bW01_w18 bW02_w18 bx100_w18 bx101_w18 bG00_w18 bG01_w18 bG02_w18 OWX1w18 OWX3w18 OWYw18 HBw18 hbw19 hqw19
  clear OWYw19 OLY
  go_wp2_with fail
  go_ret
  exact ⟨rfl, HBw19.out⟩

set_option maxRecDepth 100000 in
theorem lifted (os : Os) (started : os.Started) (H : Type) (enc : TypeId × Value → H) :
    ReturnsInHanded {} Try.checked os 22 .any (Rows.fnExactRareChanceSpec.pre6 enc Try.prog Try.f22 Rows.fnExactRareChanceRow.domain false) (Rows.fnExactRareChanceSpec.post enc Try.prog Try.f22 false true false false) := by
  refine returnsInHanded_of_change (C := Try.checked) own started (by kernel_rfl) Try.func22
    (ChangeSpec.witness6 (enc := enc) (C := Try.checked) false ⟨#[], #[.agg #[.int .i64 0, .int .u64 0, .int .u64 0], .agg #[.int .i64 0, .slice none 0 0], .int .i64 0, .slice none 0 0, .int .i64 0], []⟩ 8 (by kernel_rfl) (by kernel_rfl) (by kernel_rfl) (by kernel_rfl)) ?_
  intro W base args ds gs before hval0 hW hcnd _
  have hval : ∀ (j : Nat) t v, Try.f22.params[j]? = some t → args[j]? = some v → Value.okWide Try.prog W .any base t v := hval0
  have hW' := hW
  have hlt : ∀ p ∈ before, p.block < W.heap.size := fun p hp => hW.lt p hp
  obtain ⟨p, q, hA0, hV, rfl, hfz, hnd⟩ := hW
  have hA : DataW.TrodAll enc Try.prog W 0 (fun _ => true) true Try.f22.params.toList args.toList ds p := hA0
  rw [Try.params22] at hA hval
  have hA1 := hA
  obtain ⟨v0, vs0, d0, ds0, p0, q0, hargs, rfl, rfl, h0, r0⟩ := trodAll_cons hA
  obtain ⟨v1, vs1, d1, ds1, p1, q1, rfl, rfl, rfl, h1, r1⟩ := trodAll_cons r0
  obtain ⟨v2, vs2, d2, ds2, p2, q2, rfl, rfl, rfl, h2, r2⟩ := trodAll_cons r1
  obtain ⟨v3, vs3, d3, ds3, p3, q3, rfl, rfl, rfl, h3, r3⟩ := trodAll_cons r2
  obtain ⟨v4, vs4, d4, ds4, p4, q4, rfl, rfl, rfl, h4, r4⟩ := trodAll_cons r3
  obtain ⟨rfl, rfl, rfl⟩ := trodAll_nil r4
  obtain rfl : args = #[v0, v1, v2, v3, v4] := by cases args; simp_all
  obtain ⟨rfl, rfl⟩ := trodVars_none hV
  obtain ⟨k0, a0, b0, rfl, bd0⟩ := open_seed (hval 0 _ _ rfl rfl) h0
  obtain ⟨n1, A1, xs1, c1, rfl, bd1, hx1, hr1, bf1⟩ := open_chain (hval 1 _ _ rfl rfl) h1
  obtain ⟨x2, rfl, -, -, wf2⟩ := open_int Try.underlying2 (hval 2 _ _ rfl rfl) h2
  have bd2 := int_bd wf2
  obtain ⟨A3, xs3, c3, rfl, hx3, hr3, bf3⟩ := open_il h3 (okWide_slice Try.underlying56 (hval 3 _ _ rfl rfl))
  obtain ⟨x4, rfl, -, -, wf4⟩ := open_int Try.underlying2 (hval 4 _ _ rfl rfl) h4
  have bd4 := int_bd wf4
  clear hA0 hval0
  refine (walk k0 a0 b0 n1 A1 xs1 c1 x2 A3 xs3 c3 x4 W bd0 hr1 hx1 bd1 bf1 bd2 hr3 hx3 bf3 bd4).mono fun e W' ⟨he, hb⟩ => ?_
  subst he
  rw [List.append_nil] at hW' hlt
  exact ⟨_, rfl, post_of_below (pa := _) (pv := []) hW' (fun _ _ _ => (trodAll_cons_mk (shut_bool Try.underlying4 _) trodAll_mk0))
    (fun sp hsp => trodAll_below cl_laid hb _ _ _ _ (by kernel_rfl) hA1 hlt hsp) (fun _ _ => rfl) (List.append_nil _).symm hb (ok_one (by kernel_rfl) rfl (okWide_bool_mk Try.underlying4 _))⟩

theorem g0 : Try.prog.funcNamed Rows.fnExactRareChanceRow.func = some 22 := by kernel_rfl
theorem g1 : Rows.fnExactRareChanceRow.inPlace = Try.prog.inPlace 22 := by kernel_rfl
theorem g2 : Rows.fnExactRareChanceRow.unfollowed = Try.prog.unfollowed 22 := by kernel_rfl
theorem g3 : Rows.fnExactRareChanceRow.recurses = Try.prog.recurses 22 := by kernel_rfl
theorem g4 : Rows.fnExactRareChanceRow.named = Try.prog.varsNamed 22 := by kernel_rfl
theorem g5 : Rows.fnExactRareChanceRow.wf (OpenSpec.ofChange Rows.fnExactRareChanceSpec) = true := by kernel_rfl
theorem g6 : (Try.f22.params.all (Try.prog.readableRec ·)) = true := by kernel_rfl
theorem g7 : Rows.fnExactRareChanceRow.veiledFits Try.prog Try.f22.params.toList (Try.f22.params.toList ++ Try.f22.resultTypes.toList) = true := by kernel_rfl
theorem g8 : joinedFacts Try.prog 22 Try.f22 Rows.fnExactRareChanceSpec Rows.fnExactRareChanceRow = true :=
  gen_facts _ _ _ _ rfl rfl cl_laid cl_maps cl_stops cl_knobs cl_heard cl_enter cl_lifts cl_make g5 g6 rfl rfl rfl g1 g2 g3 g4
    (by as_aux_lemma => kernel_rfl) (by as_aux_lemma => kernel_rfl) (by as_aux_lemma => kernel_rfl) (by as_aux_lemma => kernel_rfl) (by as_aux_lemma => kernel_rfl) (by as_aux_lemma => kernel_rfl) (by as_aux_lemma => kernel_rfl) (by as_aux_lemma => kernel_rfl)
    cl_keys.symm rfl rfl rfl rfl rfl (by as_aux_lemma => kernel_rfl) (by as_aux_lemma => kernel_rfl) g7
theorem g9 : Try.f22.isInstance Try.prog Rows.fnExactRareChanceRow.origin Rows.fnExactRareChanceRow.targs := of_decide_eq_true (by kernel_rfl)
theorem g10 : Try.f22.isWrapper Try.prog Rows.fnExactRareChanceRow.wrapper Rows.fnExactRareChanceRow.mainSum := by
  unfold Func.isWrapper; first | (rw [if_pos (by decide +kernel)]; kernel_rfl) | (rw [if_neg (by decide +kernel)]; exact ⟨rfl, rfl⟩)
theorem over : Rows.fnExactRareChanceRow.holds Try.pinned (OpenSpec.ofChange Rows.fnExactRareChanceSpec) :=
  OpenClaim.holds_of_wide 22 Try.f22 rfl rfl rfl rfl rfl rfl rfl ⟨rfl, rfl, rfl, rfl, rfl⟩ rfl rfl rfl rfl rfl g0 Try.func22 g8 g9 g10 (fun os started H enc _ => lifted os started H enc)
theorem proved : Rows.FnExactRareChanceSaid := over
end Go.Proofs.Ytddaodjaeommlaa.lawRareChance
