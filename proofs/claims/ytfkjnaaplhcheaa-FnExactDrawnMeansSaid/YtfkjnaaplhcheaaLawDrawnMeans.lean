/-
  impl.DrawnMeans returns what spec.DrawnMeans returns, for every seed, list and number of times (the law FnExactDrawnMeans returns true), in memory of its own where it gives a slice, and leaves its arguments as they were. No condition.
-/
import Derived.Test.YtfkjnaaplhcheaaMe9
import Derived.Test.YtfkjnaaplhcheaaToi
import Derived.Test.YtfkjnaaplhcheaaTos
import Derived.Test.YtfkjnaaplhcheaaOpen
import Derived.Test.YtfkjnaaplhcheaaOut
import Derived.Deep.RegionHeld3
import Derived.Deep.DeepCutAuto
namespace Go.Proofs.Ytfkjnaaplhcheaa.lawDrawnMeans
open Go.ChangeShapes Go.WideShapes Go.ChangeAt Go.RowKit

theorem both (k0 a0 b0 : Int) (xs1 : List Nat) (x2 : Int) (bd0 : (-9223372036854775808 ≤ k0 ∧ k0 ≤ 9223372036854775807) ∧ (0 ≤ a0 ∧ a0 < 18446744073709551616) ∧ (0 ≤ b0 ∧ b0 < 18446744073709551616)) (hx1 : xs1.length ≤ 1048576) (bf1 : ∀ x ∈ xs1, x < 4294967296) (bd2 : -9223372036854775808 ≤ x2 ∧ x2 ≤ 9223372036854775807) : ∃ (rk : Int) (ra : Int) (rb : Int) (ys : List Nat) (ok : Bool), ys.length ≤ 1048576 ∧ (∀ A51 c51 w, Rd w w.heap.size A51 (fl xs1) → Calls Try.prog 39 #[.agg #[.int .i64 k0, .int .u64 a0, .int .u64 b0], .slice A51 xs1.length c51, .int .i64 x2] w (fun e w' => ∃ A c, e = .returned (.tuple #[.agg #[.int .i64 rk, .int .u64 ra, .int .u64 rb], .slice A ys.length c, .bool ok]) ∧ w'.ownsRow w.heap.size 50 1 (.slice A ys.length c) ys.length (fl ys) ∧ Below w.heap.size w w')) ∧
    (∀ A51 w, Rd w w.heap.size A51 (fl xs1) → Calls Try.prog 27 #[.agg #[.int .i64 k0, .int .u64 a0, .int .u64 b0], .slice A51 xs1.length xs1.length, .int .i64 x2] w (fun e w' => ∃ A c, e = .returned (.tuple #[.agg #[.int .i64 rk, .int .u64 ra, .int .u64 rb], .slice A ys.length c, .bool ok]) ∧ w'.ownsRow w.heap.size 50 1 (.slice A ys.length c) ys.length (fl ys) ∧ Below w.heap.size w w')) := by
  have _ubd0 := bd0
  have _uhx1 := hx1
  have _ubf1 := bf1
  have _ubd2 := bd2
  cases h : (seedB k0 a0 b0 && (listB xs1 && inB x2 0 256)) with
  | false => exact ⟨0, 0, 0, [], false, by simp, fun A c w hA => sDrawnMeans_bad k0 a0 b0 A xs1 c x2 w bd0.2.2 hx1 hA h, fun A w hA => DrawnMeans_bad k0 a0 b0 A xs1 xs1.length x2 w bd0.2.2 hx1 hA h⟩
  | true =>
    rw [Bool.and_eq_true, Bool.and_eq_true] at h
    have hr : 0 ≤ x2 ∧ x2 ≤ 256 := of_decide_eq_true (show inB x2 0 256 = true from h.2.2)
    obtain ⟨T, rfl⟩ := Int.eq_ofNat_of_zero_le hr.1
    obtain ⟨zs, hzl, hz⟩ := sort_one (meansP k0 xs1 (a0, b0) T)
    rw [meansP_len] at hzl
    have hok : sdOk k0 (a0, b0).1 (a0, b0).2 := ⟨h.1, bd0.2.1, bd0.2.2⟩
    generalize hfin : (meansP k0 xs1 (a0, b0) T).all (isFin Ieee.single) = fin
    refine ⟨_, _, _, _, fin, ?_, fun A c w hA => sDrawnMeans_ok k0 (a0, b0) A xs1 zs c T w hok h.2.1 (by omega) hA hzl hz fin hfin, fun A w hA => DrawnMeans_ok k0 (a0, b0) A xs1 zs xs1.length T w hok h.2.1 (by omega) hA hzl hz fin hfin⟩
    split
    · omega
    · simp

set_option maxRecDepth 100000 in
set_option maxHeartbeats 12800000 in
theorem walk (k0 a0 b0 : Int) (A1 : Option Addr) (xs1 : List Nat) (c1 : Nat) (x2 : Int) (w : World) (bd0 : (-9223372036854775808 ≤ k0 ∧ k0 ≤ 9223372036854775807) ∧ (0 ≤ a0 ∧ a0 < 18446744073709551616) ∧ (0 ≤ b0 ∧ b0 < 18446744073709551616)) (h1 : Rd w w.heap.size A1 (fl xs1))  (hx1 : xs1.length ≤ 9223372036854775807) (bf1 : ∀ x ∈ xs1, x < 4294967296) (bd2 : -9223372036854775808 ≤ x2 ∧ x2 ≤ 9223372036854775807) :
    Calls Try.prog 6 #[.agg #[.int .i64 k0, .int .u64 a0, .int .u64 b0], .slice A1 xs1.length c1, .int .i64 x2] w fun e w' => e = .returned (.bool true) ∧ Below w.heap.size w w' := by
  by_cases hq1 : 1048576 < xs1.length
  · clear bd0 bf1 bd2
    go_enter Try.func6, Try.ntmps6
    go_wp2
    go_ret
    exact ⟨rfl, Below.alloc (Below.refl _ _) (by simp; try omega) _⟩
  have hy1 : xs1.length ≤ 1048576 := by omega
  clear hq1
  obtain ⟨rk, ra, rb, ys, ok, hm, HS0, HI0⟩ := both k0 a0 b0 xs1 x2 bd0 hy1 bf1 bd2
  have HS := Lib.hid HS0
  have HI := Lib.hid HI0
  clear HS0 HI0
  have HT0 := Lib.hid fun w => toSeed_any k0 a0 b0 w
  have HT1 := Lib.hid fun w h => toFloat32S_any A1 xs1 c1 w hy1 h
  have HX1 := Lib.hid fun A B c d w hA hB => eqFloat32S_yes A B xs1 xs1 c d w (by omega) (sameL_refl xs1) hA hB
  have HMx1 := Lib.hid fun A base c w ho => markFloat32S_any A base xs1.length (fl xs1) c (1) w hy1 (by omega) (by omega) ho
  have HE := Lib.hid fun A B c d w hA hB => eqFloat32S_yes A B ys ys c d w (by omega) (sameL_refl ys) hA hB
  have HM := Lib.hid fun A base c w ho => markFloat32S_any A base ys.length (fl ys) c 1 w hm (by omega) (by omega) ho
  have HH := Lib.hid fun A c w hr => heldFloat32S_any A ys.length c 1 w hm (by omega) (by omega) hr
  have HQ := Lib.hid fun w => eqSeed_yes rk ra rb w
  clear bd0 bf1 bd2
  have HBw : Hid (Below w.heap.size w w) := Lib.hid (Below.refl _ _)
  go_enter Try.func6, Try.ntmps6
  go_wp2_with fail
  generalize hWw1 : World.alloc w _ = w1
  have hbw1 : Below w.heap.size w w1 := by rw [← hWw1]; exact Below.alloc (Below.refl _ _) (by simp; try omega) _
  have sw1 : w.heap.size + 1 ≤ w1.heap.size := by rw [← hWw1]; simp
  have ba00_w1 : w1.cell? ⟨w.heap.size, 0, none⟩ = some (.int .i64 k0) := by rw [← hWw1]; simp [go_sem]
  have ba01_w1 : w1.cell? ⟨w.heap.size, 1, none⟩ = some (.int .u64 a0) := by rw [← hWw1]; simp [go_sem]
  have ba02_w1 : w1.cell? ⟨w.heap.size, 2, none⟩ = some (.int .u64 b0) := by rw [← hWw1]; simp [go_sem]
  have HBw1 : Hid (Below w.heap.size w w1) := Lib.hid (HBw.out.trans (hbw1.mono HBw.out.size))
  clear HBw hWw1 hbw1
  have lb0w1 : w.heap.size < w1.heap.size := by omega
  refine (HT0.out _).mono ?_
  rintro e w2 ⟨rfl, hbw2⟩
  have lb0w2 : w.heap.size < w2.heap.size := by have := hbw2.size; omega
  have ba00_w2 : w2.cell? ⟨w.heap.size, 0, none⟩ = some (.int .i64 k0) := keepC hbw2 ba00_w1
  have ba01_w2 : w2.cell? ⟨w.heap.size, 1, none⟩ = some (.int .u64 a0) := keepC hbw2 ba01_w1
  have ba02_w2 : w2.cell? ⟨w.heap.size, 2, none⟩ = some (.int .u64 b0) := keepC hbw2 ba02_w1
  have HBw2 : Hid (Below w.heap.size w w2) := Lib.hid (HBw1.out.trans (hbw2.mono HBw1.out.size))
  have zw2 : w.heap.size + 1 ≤ w2.heap.size := by have := hbw2.size; omega
  clear lb0w1 ba00_w1 ba01_w1 ba02_w1 HBw1 hbw2
  go_wp2_with fail
  refine (HT1.out _ (h1.at_ HBw2.out)).mono ?_
  rintro e w3 ⟨A3, rfl, hownw3, hbw3⟩
  have OLtW1 : Hid (∀ k, (Value.slice A3 xs1.length xs1.length).ownBlock = some k → w2.heap.size ≤ k ∧ k < w3.heap.size) := Lib.hid hownw3.lt
  have OWtW1w3 := Lib.hid hownw3
  have rw3 : w2.heap.size ≤ w3.heap.size := hbw3.size
  have lb0w3 : w.heap.size < w3.heap.size := by have := hbw3.size; omega
  have ba00_w3 : w3.cell? ⟨w.heap.size, 0, none⟩ = some (.int .i64 k0) := keepC hbw3 ba00_w2
  have ba01_w3 : w3.cell? ⟨w.heap.size, 1, none⟩ = some (.int .u64 a0) := keepC hbw3 ba01_w2
  have ba02_w3 : w3.cell? ⟨w.heap.size, 2, none⟩ = some (.int .u64 b0) := keepC hbw3 ba02_w2
  have HBw3 : Hid (Below w.heap.size w w3) := Lib.hid (HBw2.out.trans (hbw3.mono HBw2.out.size))
  clear lb0w2 ba00_w2 ba01_w2 ba02_w2 HBw2 hbw3 hownw3
  go_wp2_with fail
  refine (HS.out A3 _ _ (Rd.of_own OWtW1w3.out)).mono ?_
  rintro e w4 ⟨A4, c4, rfl, hownw4, hbw4⟩
  have OLW : Hid (∀ k, (Value.slice A4 ys.length c4).ownBlock = some k → w3.heap.size ≤ k ∧ k < w4.heap.size) := Lib.hid hownw4.lt
  have OWWw4 := Lib.hid hownw4
  have rw4 : w3.heap.size ≤ w4.heap.size := hbw4.size
  have lb0w4 : w.heap.size < w4.heap.size := by have := hbw4.size; omega
  have ba00_w4 : w4.cell? ⟨w.heap.size, 0, none⟩ = some (.int .i64 k0) := keepC hbw4 ba00_w3
  have ba01_w4 : w4.cell? ⟨w.heap.size, 1, none⟩ = some (.int .u64 a0) := keepC hbw4 ba01_w3
  have ba02_w4 : w4.cell? ⟨w.heap.size, 2, none⟩ = some (.int .u64 b0) := keepC hbw4 ba02_w3
  have OWtW1w4 := Lib.hid (own_below OWtW1w3.out hbw4)
  have HBw4 : Hid (Below w.heap.size w w4) := Lib.hid (HBw3.out.trans (hbw4.mono HBw3.out.size))
  clear lb0w3 ba00_w3 ba01_w3 ba02_w3 OWtW1w3 HBw3 hbw4 hownw4
  clear OWtW1w4 OLtW1
  go_wp2_with fail
  generalize hWw5 : World.alloc w4 _ = w5
  have hbw5 : Below w4.heap.size w4 w5 := by rw [← hWw5]; exact Below.alloc (Below.refl _ _) (by simp; try omega) _
  have sw5 : w4.heap.size + 1 ≤ w5.heap.size := by rw [← hWw5]; simp
  have bW00_w5 : w5.cell? ⟨w4.heap.size, 0, none⟩ = some (.int .i64 rk) := by rw [← hWw5]; simp [go_sem]
  have bW01_w5 : w5.cell? ⟨w4.heap.size, 1, none⟩ = some (.int .u64 ra) := by rw [← hWw5]; simp [go_sem]
  have bW02_w5 : w5.cell? ⟨w4.heap.size, 2, none⟩ = some (.int .u64 rb) := by rw [← hWw5]; simp [go_sem]
  have lb0w5 : w.heap.size < w5.heap.size := by have := hbw5.size; omega
  have ba00_w5 : w5.cell? ⟨w.heap.size, 0, none⟩ = some (.int .i64 k0) := keepC hbw5 ba00_w4
  have ba01_w5 : w5.cell? ⟨w.heap.size, 1, none⟩ = some (.int .u64 a0) := keepC hbw5 ba01_w4
  have ba02_w5 : w5.cell? ⟨w.heap.size, 2, none⟩ = some (.int .u64 b0) := keepC hbw5 ba02_w4
  have OWWw5 := Lib.hid (own_below OWWw4.out hbw5)
  have HBw5 : Hid (Below w.heap.size w w5) := Lib.hid (HBw4.out.trans (hbw5.mono HBw4.out.size))
  clear lb0w4 ba00_w4 ba01_w4 ba02_w4 OWWw4 HBw4 hWw5 hbw5
  have lb1w5 : w4.heap.size < w5.heap.size := by omega
  refine (HT1.out _ (h1.at_ HBw5.out)).mono ?_
  rintro e w6 ⟨A6, rfl, hownw6, hbw6⟩
  have OLX1 : Hid (∀ k, (Value.slice A6 xs1.length xs1.length).ownBlock = some k → w5.heap.size ≤ k ∧ k < w6.heap.size) := Lib.hid hownw6.lt
  have OWX1w6 := Lib.hid hownw6
  have rw6 : w5.heap.size ≤ w6.heap.size := hbw6.size
  have lb0w6 : w.heap.size < w6.heap.size := by have := hbw6.size; omega
  have lb1w6 : w4.heap.size < w6.heap.size := by have := hbw6.size; omega
  have ba00_w6 : w6.cell? ⟨w.heap.size, 0, none⟩ = some (.int .i64 k0) := keepC hbw6 ba00_w5
  have ba01_w6 : w6.cell? ⟨w.heap.size, 1, none⟩ = some (.int .u64 a0) := keepC hbw6 ba01_w5
  have ba02_w6 : w6.cell? ⟨w.heap.size, 2, none⟩ = some (.int .u64 b0) := keepC hbw6 ba02_w5
  have bW00_w6 : w6.cell? ⟨w4.heap.size, 0, none⟩ = some (.int .i64 rk) := keepC hbw6 bW00_w5
  have bW01_w6 : w6.cell? ⟨w4.heap.size, 1, none⟩ = some (.int .u64 ra) := keepC hbw6 bW01_w5
  have bW02_w6 : w6.cell? ⟨w4.heap.size, 2, none⟩ = some (.int .u64 rb) := keepC hbw6 bW02_w5
  have OWWw6 := Lib.hid (own_below OWWw5.out hbw6)
  have HBw6 : Hid (Below w.heap.size w w6) := Lib.hid (HBw5.out.trans (hbw6.mono HBw5.out.size))
  clear lb0w5 lb1w5 ba00_w5 ba01_w5 ba02_w5 bW00_w5 bW01_w5 bW02_w5 OWWw5 HBw5 hbw6 hownw6
  go_wp2_with fail
  refine (HT0.out _).mono ?_
  rintro e w7 ⟨rfl, hbw7⟩
  have lb0w7 : w.heap.size < w7.heap.size := by have := hbw7.size; omega
  have lb1w7 : w4.heap.size < w7.heap.size := by have := hbw7.size; omega
  have ba00_w7 : w7.cell? ⟨w.heap.size, 0, none⟩ = some (.int .i64 k0) := keepC hbw7 ba00_w6
  have ba01_w7 : w7.cell? ⟨w.heap.size, 1, none⟩ = some (.int .u64 a0) := keepC hbw7 ba01_w6
  have ba02_w7 : w7.cell? ⟨w.heap.size, 2, none⟩ = some (.int .u64 b0) := keepC hbw7 ba02_w6
  have bW00_w7 : w7.cell? ⟨w4.heap.size, 0, none⟩ = some (.int .i64 rk) := keepC hbw7 bW00_w6
  have bW01_w7 : w7.cell? ⟨w4.heap.size, 1, none⟩ = some (.int .u64 ra) := keepC hbw7 bW01_w6
  have bW02_w7 : w7.cell? ⟨w4.heap.size, 2, none⟩ = some (.int .u64 rb) := keepC hbw7 bW02_w6
  have OWWw7 := Lib.hid (own_below OWWw6.out hbw7)
  have OWX1w7 := Lib.hid (own_below OWX1w6.out hbw7)
  have HBw7 : Hid (Below w.heap.size w w7) := Lib.hid (HBw6.out.trans (hbw7.mono HBw6.out.size))
  have zw7 : w6.heap.size ≤ w7.heap.size := by have := hbw7.size; omega
  clear lb0w6 lb1w6 ba00_w6 ba01_w6 ba02_w6 bW00_w6 bW01_w6 bW02_w6 OWWw6 OWX1w6 HBw6 hbw7
  go_wp2_with fail
  refine (HI.out A6 _ (Rd.of_own OWX1w7.out)).mono ?_
  rintro e w8 ⟨A8, c8, rfl, hownw8, hbw8⟩
  have OLG : Hid (∀ k, (Value.slice A8 ys.length c8).ownBlock = some k → w7.heap.size ≤ k ∧ k < w8.heap.size) := Lib.hid hownw8.lt
  have OWGw8 := Lib.hid hownw8
  have rw8 : w7.heap.size ≤ w8.heap.size := hbw8.size
  have lb0w8 : w.heap.size < w8.heap.size := by have := hbw8.size; omega
  have lb1w8 : w4.heap.size < w8.heap.size := by have := hbw8.size; omega
  have ba00_w8 : w8.cell? ⟨w.heap.size, 0, none⟩ = some (.int .i64 k0) := keepC hbw8 ba00_w7
  have ba01_w8 : w8.cell? ⟨w.heap.size, 1, none⟩ = some (.int .u64 a0) := keepC hbw8 ba01_w7
  have ba02_w8 : w8.cell? ⟨w.heap.size, 2, none⟩ = some (.int .u64 b0) := keepC hbw8 ba02_w7
  have bW00_w8 : w8.cell? ⟨w4.heap.size, 0, none⟩ = some (.int .i64 rk) := keepC hbw8 bW00_w7
  have bW01_w8 : w8.cell? ⟨w4.heap.size, 1, none⟩ = some (.int .u64 ra) := keepC hbw8 bW01_w7
  have bW02_w8 : w8.cell? ⟨w4.heap.size, 2, none⟩ = some (.int .u64 rb) := keepC hbw8 bW02_w7
  have OWWw8 := Lib.hid (own_below OWWw7.out hbw8)
  have OWX1w8 := Lib.hid (own_below OWX1w7.out hbw8)
  have HBw8 : Hid (Below w.heap.size w w8) := Lib.hid (HBw7.out.trans (hbw8.mono HBw7.out.size))
  clear lb0w7 lb1w7 ba00_w7 ba01_w7 ba02_w7 bW00_w7 bW01_w7 bW02_w7 OWWw7 OWX1w7 HBw7 hbw8 hownw8
  go_wp2_with fail
  generalize hWw9 : World.alloc w8 _ = w9
  have hbw9 : Below w8.heap.size w8 w9 := by rw [← hWw9]; exact Below.alloc (Below.refl _ _) (by simp; try omega) _
  have sw9 : w8.heap.size + 1 ≤ w9.heap.size := by rw [← hWw9]; simp
  have bG00_w9 : w9.cell? ⟨w8.heap.size, 0, none⟩ = some (.int .i64 rk) := by rw [← hWw9]; simp [go_sem]
  have bG01_w9 : w9.cell? ⟨w8.heap.size, 1, none⟩ = some (.int .u64 ra) := by rw [← hWw9]; simp [go_sem]
  have bG02_w9 : w9.cell? ⟨w8.heap.size, 2, none⟩ = some (.int .u64 rb) := by rw [← hWw9]; simp [go_sem]
  have lb0w9 : w.heap.size < w9.heap.size := by have := hbw9.size; omega
  have lb1w9 : w4.heap.size < w9.heap.size := by have := hbw9.size; omega
  have ba00_w9 : w9.cell? ⟨w.heap.size, 0, none⟩ = some (.int .i64 k0) := keepC hbw9 ba00_w8
  have ba01_w9 : w9.cell? ⟨w.heap.size, 1, none⟩ = some (.int .u64 a0) := keepC hbw9 ba01_w8
  have ba02_w9 : w9.cell? ⟨w.heap.size, 2, none⟩ = some (.int .u64 b0) := keepC hbw9 ba02_w8
  have bW00_w9 : w9.cell? ⟨w4.heap.size, 0, none⟩ = some (.int .i64 rk) := keepC hbw9 bW00_w8
  have bW01_w9 : w9.cell? ⟨w4.heap.size, 1, none⟩ = some (.int .u64 ra) := keepC hbw9 bW01_w8
  have bW02_w9 : w9.cell? ⟨w4.heap.size, 2, none⟩ = some (.int .u64 rb) := keepC hbw9 bW02_w8
  have OWWw9 := Lib.hid (own_below OWWw8.out hbw9)
  have OWX1w9 := Lib.hid (own_below OWX1w8.out hbw9)
  have OWGw9 := Lib.hid (own_below OWGw8.out hbw9)
  have HBw9 : Hid (Below w.heap.size w w9) := Lib.hid (HBw8.out.trans (hbw9.mono HBw8.out.size))
  clear lb0w8 lb1w8 ba00_w8 ba01_w8 ba02_w8 bW00_w8 bW01_w8 bW02_w8 OWWw8 OWX1w8 OWGw8 HBw8 hWw9 hbw9
  have lb2w9 : w8.heap.size < w9.heap.size := by omega
  refine (HQ.out _).mono ?_
  rintro e w10 ⟨rfl, hbw10⟩
  have lb0w10 : w.heap.size < w10.heap.size := by have := hbw10.size; omega
  have lb1w10 : w4.heap.size < w10.heap.size := by have := hbw10.size; omega
  have lb2w10 : w8.heap.size < w10.heap.size := by have := hbw10.size; omega
  have ba00_w10 : w10.cell? ⟨w.heap.size, 0, none⟩ = some (.int .i64 k0) := keepC hbw10 ba00_w9
  have ba01_w10 : w10.cell? ⟨w.heap.size, 1, none⟩ = some (.int .u64 a0) := keepC hbw10 ba01_w9
  have ba02_w10 : w10.cell? ⟨w.heap.size, 2, none⟩ = some (.int .u64 b0) := keepC hbw10 ba02_w9
  have bW00_w10 : w10.cell? ⟨w4.heap.size, 0, none⟩ = some (.int .i64 rk) := keepC hbw10 bW00_w9
  have bW01_w10 : w10.cell? ⟨w4.heap.size, 1, none⟩ = some (.int .u64 ra) := keepC hbw10 bW01_w9
  have bW02_w10 : w10.cell? ⟨w4.heap.size, 2, none⟩ = some (.int .u64 rb) := keepC hbw10 bW02_w9
  have bG00_w10 : w10.cell? ⟨w8.heap.size, 0, none⟩ = some (.int .i64 rk) := keepC hbw10 bG00_w9
  have bG01_w10 : w10.cell? ⟨w8.heap.size, 1, none⟩ = some (.int .u64 ra) := keepC hbw10 bG01_w9
  have bG02_w10 : w10.cell? ⟨w8.heap.size, 2, none⟩ = some (.int .u64 rb) := keepC hbw10 bG02_w9
  have OWWw10 := Lib.hid (own_below OWWw9.out hbw10)
  have OWX1w10 := Lib.hid (own_below OWX1w9.out hbw10)
  have OWGw10 := Lib.hid (own_below OWGw9.out hbw10)
  have HBw10 : Hid (Below w.heap.size w w10) := Lib.hid (HBw9.out.trans (hbw10.mono HBw9.out.size))
  have zw10 : w8.heap.size + 1 ≤ w10.heap.size := by have := hbw10.size; omega
  clear lb0w9 lb1w9 lb2w9 ba00_w9 ba01_w9 ba02_w9 bW00_w9 bW01_w9 bW02_w9 bG00_w9 bG01_w9 bG02_w9 OWWw9 OWX1w9 OWGw9 HBw9 hbw10
  go_wp2_with fail
  refine (HE.out A8 A4 c8 c4 _ (Rd.of_own OWGw10.out) (Rd.of_own OWWw10.out)).mono ?_
  rintro e w11 hqw11
  obtain ⟨rfl, hbw11⟩ := hqw11.below
  have lb0w11 : w.heap.size < w11.heap.size := by have := hbw11.size; omega
  have lb1w11 : w4.heap.size < w11.heap.size := by have := hbw11.size; omega
  have lb2w11 : w8.heap.size < w11.heap.size := by have := hbw11.size; omega
  have ba00_w11 : w11.cell? ⟨w.heap.size, 0, none⟩ = some (.int .i64 k0) := keepC hbw11 ba00_w10
  have ba01_w11 : w11.cell? ⟨w.heap.size, 1, none⟩ = some (.int .u64 a0) := keepC hbw11 ba01_w10
  have ba02_w11 : w11.cell? ⟨w.heap.size, 2, none⟩ = some (.int .u64 b0) := keepC hbw11 ba02_w10
  have bW00_w11 : w11.cell? ⟨w4.heap.size, 0, none⟩ = some (.int .i64 rk) := keepC hbw11 bW00_w10
  have bW01_w11 : w11.cell? ⟨w4.heap.size, 1, none⟩ = some (.int .u64 ra) := keepC hbw11 bW01_w10
  have bW02_w11 : w11.cell? ⟨w4.heap.size, 2, none⟩ = some (.int .u64 rb) := keepC hbw11 bW02_w10
  have bG00_w11 : w11.cell? ⟨w8.heap.size, 0, none⟩ = some (.int .i64 rk) := keepC hbw11 bG00_w10
  have bG01_w11 : w11.cell? ⟨w8.heap.size, 1, none⟩ = some (.int .u64 ra) := keepC hbw11 bG01_w10
  have bG02_w11 : w11.cell? ⟨w8.heap.size, 2, none⟩ = some (.int .u64 rb) := keepC hbw11 bG02_w10
  have OWWw11 := Lib.hid (own_below OWWw10.out hbw11)
  have OWX1w11 := Lib.hid (own_below OWX1w10.out hbw11)
  have OWGw11 := Lib.hid (own_below OWGw10.out hbw11)
  have HBw11 : Hid (Below w.heap.size w w11) := Lib.hid (HBw10.out.trans (hbw11.mono HBw10.out.size))
  have zw11 : w8.heap.size + 1 ≤ w11.heap.size := by have := hbw11.size; omega
  clear lb0w10 lb1w10 lb2w10 ba00_w10 ba01_w10 ba02_w10 bW00_w10 bW01_w10 bW02_w10 bG00_w10 bG01_w10 bG02_w10 OWWw10 OWX1w10 OWGw10 HBw10 zw10 hbw11 hqw11
  go_wp2_with fail
  refine (HT1.out _ (h1.at_ HBw11.out)).mono ?_
  rintro e w12 ⟨A12, rfl, hownw12, hbw12⟩
  have OLY : Hid (∀ k, (Value.slice A12 xs1.length xs1.length).ownBlock = some k → w11.heap.size ≤ k ∧ k < w12.heap.size) := Lib.hid hownw12.lt
  have OWYw12 := Lib.hid hownw12
  have rw12 : w11.heap.size ≤ w12.heap.size := hbw12.size
  have lb0w12 : w.heap.size < w12.heap.size := by have := hbw12.size; omega
  have lb1w12 : w4.heap.size < w12.heap.size := by have := hbw12.size; omega
  have lb2w12 : w8.heap.size < w12.heap.size := by have := hbw12.size; omega
  have ba00_w12 : w12.cell? ⟨w.heap.size, 0, none⟩ = some (.int .i64 k0) := keepC hbw12 ba00_w11
  have ba01_w12 : w12.cell? ⟨w.heap.size, 1, none⟩ = some (.int .u64 a0) := keepC hbw12 ba01_w11
  have ba02_w12 : w12.cell? ⟨w.heap.size, 2, none⟩ = some (.int .u64 b0) := keepC hbw12 ba02_w11
  have bW00_w12 : w12.cell? ⟨w4.heap.size, 0, none⟩ = some (.int .i64 rk) := keepC hbw12 bW00_w11
  have bW01_w12 : w12.cell? ⟨w4.heap.size, 1, none⟩ = some (.int .u64 ra) := keepC hbw12 bW01_w11
  have bW02_w12 : w12.cell? ⟨w4.heap.size, 2, none⟩ = some (.int .u64 rb) := keepC hbw12 bW02_w11
  have bG00_w12 : w12.cell? ⟨w8.heap.size, 0, none⟩ = some (.int .i64 rk) := keepC hbw12 bG00_w11
  have bG01_w12 : w12.cell? ⟨w8.heap.size, 1, none⟩ = some (.int .u64 ra) := keepC hbw12 bG01_w11
  have bG02_w12 : w12.cell? ⟨w8.heap.size, 2, none⟩ = some (.int .u64 rb) := keepC hbw12 bG02_w11
  have OWWw12 := Lib.hid (own_below OWWw11.out hbw12)
  have OWX1w12 := Lib.hid (own_below OWX1w11.out hbw12)
  have OWGw12 := Lib.hid (own_below OWGw11.out hbw12)
  have HBw12 : Hid (Below w.heap.size w w12) := Lib.hid (HBw11.out.trans (hbw12.mono HBw11.out.size))
  clear lb0w11 lb1w11 lb2w11 ba00_w11 ba01_w11 ba02_w11 bW00_w11 bW01_w11 bW02_w11 bG00_w11 bG01_w11 bG02_w11 OWWw11 OWX1w11 OWGw11 HBw11 hbw12 hownw12
  go_wp2_with fail
  refine (HX1.out A6 A12 _ _ _ (Rd.of_own OWX1w12.out) (Rd.of_own OWYw12.out)).mono ?_
  rintro e w13 hqw13
  obtain ⟨rfl, hbw13⟩ := hqw13.below
  have lb0w13 : w.heap.size < w13.heap.size := by have := hbw13.size; omega
  have lb1w13 : w4.heap.size < w13.heap.size := by have := hbw13.size; omega
  have lb2w13 : w8.heap.size < w13.heap.size := by have := hbw13.size; omega
  have ba00_w13 : w13.cell? ⟨w.heap.size, 0, none⟩ = some (.int .i64 k0) := keepC hbw13 ba00_w12
  have ba01_w13 : w13.cell? ⟨w.heap.size, 1, none⟩ = some (.int .u64 a0) := keepC hbw13 ba01_w12
  have ba02_w13 : w13.cell? ⟨w.heap.size, 2, none⟩ = some (.int .u64 b0) := keepC hbw13 ba02_w12
  have bW00_w13 : w13.cell? ⟨w4.heap.size, 0, none⟩ = some (.int .i64 rk) := keepC hbw13 bW00_w12
  have bW01_w13 : w13.cell? ⟨w4.heap.size, 1, none⟩ = some (.int .u64 ra) := keepC hbw13 bW01_w12
  have bW02_w13 : w13.cell? ⟨w4.heap.size, 2, none⟩ = some (.int .u64 rb) := keepC hbw13 bW02_w12
  have bG00_w13 : w13.cell? ⟨w8.heap.size, 0, none⟩ = some (.int .i64 rk) := keepC hbw13 bG00_w12
  have bG01_w13 : w13.cell? ⟨w8.heap.size, 1, none⟩ = some (.int .u64 ra) := keepC hbw13 bG01_w12
  have bG02_w13 : w13.cell? ⟨w8.heap.size, 2, none⟩ = some (.int .u64 rb) := keepC hbw13 bG02_w12
  have OWWw13 := Lib.hid (own_below OWWw12.out hbw13)
  have OWX1w13 := Lib.hid (own_below OWX1w12.out hbw13)
  have OWGw13 := Lib.hid (own_below OWGw12.out hbw13)
  have OWYw13 := Lib.hid (own_below OWYw12.out hbw13)
  have HBw13 : Hid (Below w.heap.size w w13) := Lib.hid (HBw12.out.trans (hbw13.mono HBw12.out.size))
  have zw13 : w12.heap.size ≤ w13.heap.size := by have := hbw13.size; omega
  clear lb0w12 lb1w12 lb2w12 ba00_w12 ba01_w12 ba02_w12 bW00_w12 bW01_w12 bW02_w12 bG00_w12 bG01_w12 bG02_w12 OWWw12 OWX1w12 OWGw12 OWYw12 HBw12 hbw13 hqw13
  clear OWYw13 OLY
  go_wp2_with fail
  refine (HMx1.out A6 _ _ w13 OWX1w13.out).mono ?_
  rintro e w14 ⟨rfl, hownw14, hgw14⟩
  have ndw14 : ∀ k, (k < w5.heap.size ∨ w6.heap.size ≤ k) → some k ≠ (Value.slice A6 xs1.length xs1.length).ownBlock := fun k hk h => by have := OLX1.out _ h.symm; omega
  have lb0w14 : w.heap.size < w14.heap.size := by have := hgw14.size; omega
  have lb1w14 : w4.heap.size < w14.heap.size := by have := hgw14.size; omega
  have lb2w14 : w8.heap.size < w14.heap.size := by have := hgw14.size; omega
  have ba00_w14 : w14.cell? ⟨w.heap.size, 0, none⟩ = some (.int .i64 k0) := hgw14.cell ba00_w13 (ndw14 (w.heap.size) (by omega))
  have ba01_w14 : w14.cell? ⟨w.heap.size, 1, none⟩ = some (.int .u64 a0) := hgw14.cell ba01_w13 (ndw14 (w.heap.size) (by omega))
  have ba02_w14 : w14.cell? ⟨w.heap.size, 2, none⟩ = some (.int .u64 b0) := hgw14.cell ba02_w13 (ndw14 (w.heap.size) (by omega))
  have bW00_w14 : w14.cell? ⟨w4.heap.size, 0, none⟩ = some (.int .i64 rk) := hgw14.cell bW00_w13 (ndw14 (w4.heap.size) (by omega))
  have bW01_w14 : w14.cell? ⟨w4.heap.size, 1, none⟩ = some (.int .u64 ra) := hgw14.cell bW01_w13 (ndw14 (w4.heap.size) (by omega))
  have bW02_w14 : w14.cell? ⟨w4.heap.size, 2, none⟩ = some (.int .u64 rb) := hgw14.cell bW02_w13 (ndw14 (w4.heap.size) (by omega))
  have bG00_w14 : w14.cell? ⟨w8.heap.size, 0, none⟩ = some (.int .i64 rk) := hgw14.cell bG00_w13 (ndw14 (w8.heap.size) (by omega))
  have bG01_w14 : w14.cell? ⟨w8.heap.size, 1, none⟩ = some (.int .u64 ra) := hgw14.cell bG01_w13 (ndw14 (w8.heap.size) (by omega))
  have bG02_w14 : w14.cell? ⟨w8.heap.size, 2, none⟩ = some (.int .u64 rb) := hgw14.cell bG02_w13 (ndw14 (w8.heap.size) (by omega))
  have OWWw14 := Lib.hid (OWWw13.out.kept hgw14 (by
    cases hv : (Value.slice A4 ys.length c4).ownBlock with
    | none => exact .inl rfl
    | some k => exact .inr (ndw14 k (by have := OLW.out k hv; omega))))
  have OWX1w14 := Lib.hid hownw14
  have OWGw14 := Lib.hid (OWGw13.out.kept hgw14 (by
    cases hv : (Value.slice A8 ys.length c8).ownBlock with
    | none => exact .inl rfl
    | some k => exact .inr (ndw14 k (by have := OLG.out k hv; omega))))
  have HBw14 : Hid (Below w.heap.size w w14) := Lib.hid (HBw13.out.grown hgw14 HBw13.out.size (fun k hk => by have := (OLX1.out k hk).1; have := HBw13.out.size; omega))
  have zw14 : w12.heap.size ≤ w14.heap.size := by have := hgw14.size; omega
  clear ndw14 hgw14 hownw14 lb0w13 lb1w13 lb2w13 ba00_w13 ba01_w13 ba02_w13 bW00_w13 bW01_w13 bW02_w13 bG00_w13 bG01_w13 bG02_w13 OWWw13 OWX1w13 OWGw13 HBw13 zw13
  go_wp2_with fail
  refine (HQ.out _).mono ?_
  rintro e w15 ⟨rfl, hbw15⟩
  have lb0w15 : w.heap.size < w15.heap.size := by have := hbw15.size; omega
  have lb1w15 : w4.heap.size < w15.heap.size := by have := hbw15.size; omega
  have lb2w15 : w8.heap.size < w15.heap.size := by have := hbw15.size; omega
  have ba00_w15 : w15.cell? ⟨w.heap.size, 0, none⟩ = some (.int .i64 k0) := keepC hbw15 ba00_w14
  have ba01_w15 : w15.cell? ⟨w.heap.size, 1, none⟩ = some (.int .u64 a0) := keepC hbw15 ba01_w14
  have ba02_w15 : w15.cell? ⟨w.heap.size, 2, none⟩ = some (.int .u64 b0) := keepC hbw15 ba02_w14
  have bW00_w15 : w15.cell? ⟨w4.heap.size, 0, none⟩ = some (.int .i64 rk) := keepC hbw15 bW00_w14
  have bW01_w15 : w15.cell? ⟨w4.heap.size, 1, none⟩ = some (.int .u64 ra) := keepC hbw15 bW01_w14
  have bW02_w15 : w15.cell? ⟨w4.heap.size, 2, none⟩ = some (.int .u64 rb) := keepC hbw15 bW02_w14
  have bG00_w15 : w15.cell? ⟨w8.heap.size, 0, none⟩ = some (.int .i64 rk) := keepC hbw15 bG00_w14
  have bG01_w15 : w15.cell? ⟨w8.heap.size, 1, none⟩ = some (.int .u64 ra) := keepC hbw15 bG01_w14
  have bG02_w15 : w15.cell? ⟨w8.heap.size, 2, none⟩ = some (.int .u64 rb) := keepC hbw15 bG02_w14
  have OWWw15 := Lib.hid (own_below OWWw14.out hbw15)
  have OWX1w15 := Lib.hid (own_below OWX1w14.out hbw15)
  have OWGw15 := Lib.hid (own_below OWGw14.out hbw15)
  have HBw15 : Hid (Below w.heap.size w w15) := Lib.hid (HBw14.out.trans (hbw15.mono HBw14.out.size))
  have zw15 : w12.heap.size ≤ w15.heap.size := by have := hbw15.size; omega
  clear lb0w14 lb1w14 lb2w14 ba00_w14 ba01_w14 ba02_w14 bW00_w14 bW01_w14 bW02_w14 bG00_w14 bG01_w14 bG02_w14 OWWw14 OWX1w14 OWGw14 HBw14 zw14 hbw15
  go_wp2_with fail
  refine (HE.out A8 A4 c8 c4 _ (Rd.of_own OWGw15.out) (Rd.of_own OWWw15.out)).mono ?_
  rintro e w16 hqw16
  obtain ⟨rfl, hbw16⟩ := hqw16.below
  have lb0w16 : w.heap.size < w16.heap.size := by have := hbw16.size; omega
  have lb1w16 : w4.heap.size < w16.heap.size := by have := hbw16.size; omega
  have lb2w16 : w8.heap.size < w16.heap.size := by have := hbw16.size; omega
  have ba00_w16 : w16.cell? ⟨w.heap.size, 0, none⟩ = some (.int .i64 k0) := keepC hbw16 ba00_w15
  have ba01_w16 : w16.cell? ⟨w.heap.size, 1, none⟩ = some (.int .u64 a0) := keepC hbw16 ba01_w15
  have ba02_w16 : w16.cell? ⟨w.heap.size, 2, none⟩ = some (.int .u64 b0) := keepC hbw16 ba02_w15
  have bW00_w16 : w16.cell? ⟨w4.heap.size, 0, none⟩ = some (.int .i64 rk) := keepC hbw16 bW00_w15
  have bW01_w16 : w16.cell? ⟨w4.heap.size, 1, none⟩ = some (.int .u64 ra) := keepC hbw16 bW01_w15
  have bW02_w16 : w16.cell? ⟨w4.heap.size, 2, none⟩ = some (.int .u64 rb) := keepC hbw16 bW02_w15
  have bG00_w16 : w16.cell? ⟨w8.heap.size, 0, none⟩ = some (.int .i64 rk) := keepC hbw16 bG00_w15
  have bG01_w16 : w16.cell? ⟨w8.heap.size, 1, none⟩ = some (.int .u64 ra) := keepC hbw16 bG01_w15
  have bG02_w16 : w16.cell? ⟨w8.heap.size, 2, none⟩ = some (.int .u64 rb) := keepC hbw16 bG02_w15
  have OWWw16 := Lib.hid (own_below OWWw15.out hbw16)
  have OWX1w16 := Lib.hid (own_below OWX1w15.out hbw16)
  have OWGw16 := Lib.hid (own_below OWGw15.out hbw16)
  have HBw16 : Hid (Below w.heap.size w w16) := Lib.hid (HBw15.out.trans (hbw16.mono HBw15.out.size))
  have zw16 : w12.heap.size ≤ w16.heap.size := by have := hbw16.size; omega
  clear lb0w15 lb1w15 lb2w15 ba00_w15 ba01_w15 ba02_w15 bW00_w15 bW01_w15 bW02_w15 bG00_w15 bG01_w15 bG02_w15 OWWw15 OWX1w15 OWGw15 HBw15 zw15 hbw16 hqw16
  go_wp2_with fail
  refine (HM.out A8 _ _ w16 OWGw16.out).mono ?_
  rintro e w17 ⟨rfl, hownw17, hgw17⟩
  have ndw17 : ∀ k, (k < w7.heap.size ∨ w8.heap.size ≤ k) → some k ≠ (Value.slice A8 ys.length c8).ownBlock := fun k hk h => by have := OLG.out _ h.symm; omega
  have lb0w17 : w.heap.size < w17.heap.size := by have := hgw17.size; omega
  have lb1w17 : w4.heap.size < w17.heap.size := by have := hgw17.size; omega
  have lb2w17 : w8.heap.size < w17.heap.size := by have := hgw17.size; omega
  have ba00_w17 : w17.cell? ⟨w.heap.size, 0, none⟩ = some (.int .i64 k0) := hgw17.cell ba00_w16 (ndw17 (w.heap.size) (by omega))
  have ba01_w17 : w17.cell? ⟨w.heap.size, 1, none⟩ = some (.int .u64 a0) := hgw17.cell ba01_w16 (ndw17 (w.heap.size) (by omega))
  have ba02_w17 : w17.cell? ⟨w.heap.size, 2, none⟩ = some (.int .u64 b0) := hgw17.cell ba02_w16 (ndw17 (w.heap.size) (by omega))
  have bW00_w17 : w17.cell? ⟨w4.heap.size, 0, none⟩ = some (.int .i64 rk) := hgw17.cell bW00_w16 (ndw17 (w4.heap.size) (by omega))
  have bW01_w17 : w17.cell? ⟨w4.heap.size, 1, none⟩ = some (.int .u64 ra) := hgw17.cell bW01_w16 (ndw17 (w4.heap.size) (by omega))
  have bW02_w17 : w17.cell? ⟨w4.heap.size, 2, none⟩ = some (.int .u64 rb) := hgw17.cell bW02_w16 (ndw17 (w4.heap.size) (by omega))
  have bG00_w17 : w17.cell? ⟨w8.heap.size, 0, none⟩ = some (.int .i64 rk) := hgw17.cell bG00_w16 (ndw17 (w8.heap.size) (by omega))
  have bG01_w17 : w17.cell? ⟨w8.heap.size, 1, none⟩ = some (.int .u64 ra) := hgw17.cell bG01_w16 (ndw17 (w8.heap.size) (by omega))
  have bG02_w17 : w17.cell? ⟨w8.heap.size, 2, none⟩ = some (.int .u64 rb) := hgw17.cell bG02_w16 (ndw17 (w8.heap.size) (by omega))
  have OWWw17 := Lib.hid (OWWw16.out.kept hgw17 (by
    cases hv : (Value.slice A4 ys.length c4).ownBlock with
    | none => exact .inl rfl
    | some k => exact .inr (ndw17 k (by have := OLW.out k hv; omega))))
  have OWX1w17 := Lib.hid (OWX1w16.out.kept hgw17 (by
    cases hv : (Value.slice A6 xs1.length xs1.length).ownBlock with
    | none => exact .inl rfl
    | some k => exact .inr (ndw17 k (by have := OLX1.out k hv; omega))))
  have OWGw17 := Lib.hid hownw17
  have HBw17 : Hid (Below w.heap.size w w17) := Lib.hid (HBw16.out.grown hgw17 HBw16.out.size (fun k hk => by have := (OLG.out k hk).1; have := HBw16.out.size; omega))
  have zw17 : w12.heap.size ≤ w17.heap.size := by have := hgw17.size; omega
  clear ndw17 hgw17 hownw17 lb0w16 lb1w16 lb2w16 ba00_w16 ba01_w16 ba02_w16 bW00_w16 bW01_w16 bW02_w16 bG00_w16 bG01_w16 bG02_w16 OWWw16 OWX1w16 OWGw16 HBw16 zw16
  go_wp2_with fail
  refine (HH.out A8 c8 _ (Rd.of_own OWGw17.out)).mono ?_
  rintro e w18 hqw18
  obtain ⟨rfl, hbw18⟩ := hqw18.below
  have lb0w18 : w.heap.size < w18.heap.size := by have := hbw18.size; omega
  have lb1w18 : w4.heap.size < w18.heap.size := by have := hbw18.size; omega
  have lb2w18 : w8.heap.size < w18.heap.size := by have := hbw18.size; omega
  have ba00_w18 : w18.cell? ⟨w.heap.size, 0, none⟩ = some (.int .i64 k0) := keepC hbw18 ba00_w17
  have ba01_w18 : w18.cell? ⟨w.heap.size, 1, none⟩ = some (.int .u64 a0) := keepC hbw18 ba01_w17
  have ba02_w18 : w18.cell? ⟨w.heap.size, 2, none⟩ = some (.int .u64 b0) := keepC hbw18 ba02_w17
  have bW00_w18 : w18.cell? ⟨w4.heap.size, 0, none⟩ = some (.int .i64 rk) := keepC hbw18 bW00_w17
  have bW01_w18 : w18.cell? ⟨w4.heap.size, 1, none⟩ = some (.int .u64 ra) := keepC hbw18 bW01_w17
  have bW02_w18 : w18.cell? ⟨w4.heap.size, 2, none⟩ = some (.int .u64 rb) := keepC hbw18 bW02_w17
  have bG00_w18 : w18.cell? ⟨w8.heap.size, 0, none⟩ = some (.int .i64 rk) := keepC hbw18 bG00_w17
  have bG01_w18 : w18.cell? ⟨w8.heap.size, 1, none⟩ = some (.int .u64 ra) := keepC hbw18 bG01_w17
  have bG02_w18 : w18.cell? ⟨w8.heap.size, 2, none⟩ = some (.int .u64 rb) := keepC hbw18 bG02_w17
  have OWWw18 := Lib.hid (own_below OWWw17.out hbw18)
  have OWX1w18 := Lib.hid (own_below OWX1w17.out hbw18)
  have OWGw18 := Lib.hid (own_below OWGw17.out hbw18)
  have HBw18 : Hid (Below w.heap.size w w18) := Lib.hid (HBw17.out.trans (hbw18.mono HBw17.out.size))
  have zw18 : w12.heap.size ≤ w18.heap.size := by have := hbw18.size; omega
  clear lb0w17 lb1w17 lb2w17 ba00_w17 ba01_w17 ba02_w17 bW00_w17 bW01_w17 bW02_w17 bG00_w17 bG01_w17 bG02_w17 OWWw17 OWX1w17 OWGw17 HBw17 zw17 hbw18 hqw18
  go_wp2_with fail
  refine (HT0.out _).mono ?_
  rintro e w19 ⟨rfl, hbw19⟩
  have lb0w19 : w.heap.size < w19.heap.size := by have := hbw19.size; omega
  have lb1w19 : w4.heap.size < w19.heap.size := by have := hbw19.size; omega
  have lb2w19 : w8.heap.size < w19.heap.size := by have := hbw19.size; omega
  have ba00_w19 : w19.cell? ⟨w.heap.size, 0, none⟩ = some (.int .i64 k0) := keepC hbw19 ba00_w18
  have ba01_w19 : w19.cell? ⟨w.heap.size, 1, none⟩ = some (.int .u64 a0) := keepC hbw19 ba01_w18
  have ba02_w19 : w19.cell? ⟨w.heap.size, 2, none⟩ = some (.int .u64 b0) := keepC hbw19 ba02_w18
  have bW00_w19 : w19.cell? ⟨w4.heap.size, 0, none⟩ = some (.int .i64 rk) := keepC hbw19 bW00_w18
  have bW01_w19 : w19.cell? ⟨w4.heap.size, 1, none⟩ = some (.int .u64 ra) := keepC hbw19 bW01_w18
  have bW02_w19 : w19.cell? ⟨w4.heap.size, 2, none⟩ = some (.int .u64 rb) := keepC hbw19 bW02_w18
  have bG00_w19 : w19.cell? ⟨w8.heap.size, 0, none⟩ = some (.int .i64 rk) := keepC hbw19 bG00_w18
  have bG01_w19 : w19.cell? ⟨w8.heap.size, 1, none⟩ = some (.int .u64 ra) := keepC hbw19 bG01_w18
  have bG02_w19 : w19.cell? ⟨w8.heap.size, 2, none⟩ = some (.int .u64 rb) := keepC hbw19 bG02_w18
  have OWWw19 := Lib.hid (own_below OWWw18.out hbw19)
  have OWX1w19 := Lib.hid (own_below OWX1w18.out hbw19)
  have OWGw19 := Lib.hid (own_below OWGw18.out hbw19)
  have HBw19 : Hid (Below w.heap.size w w19) := Lib.hid (HBw18.out.trans (hbw19.mono HBw18.out.size))
  have zw19 : w12.heap.size ≤ w19.heap.size := by have := hbw19.size; omega
  clear lb0w18 lb1w18 lb2w18 ba00_w18 ba01_w18 ba02_w18 bW00_w18 bW01_w18 bW02_w18 bG00_w18 bG01_w18 bG02_w18 OWWw18 OWX1w18 OWGw18 HBw18 zw18 hbw19
  go_wp2_with fail
  refine (HT1.out _ (h1.at_ HBw19.out)).mono ?_
  rintro e w20 ⟨A20, rfl, hownw20, hbw20⟩
  have OLtV1 : Hid (∀ k, (Value.slice A20 xs1.length xs1.length).ownBlock = some k → w19.heap.size ≤ k ∧ k < w20.heap.size) := Lib.hid hownw20.lt
  have OWtV1w20 := Lib.hid hownw20
  have rw20 : w19.heap.size ≤ w20.heap.size := hbw20.size
  have lb0w20 : w.heap.size < w20.heap.size := by have := hbw20.size; omega
  have lb1w20 : w4.heap.size < w20.heap.size := by have := hbw20.size; omega
  have lb2w20 : w8.heap.size < w20.heap.size := by have := hbw20.size; omega
  have ba00_w20 : w20.cell? ⟨w.heap.size, 0, none⟩ = some (.int .i64 k0) := keepC hbw20 ba00_w19
  have ba01_w20 : w20.cell? ⟨w.heap.size, 1, none⟩ = some (.int .u64 a0) := keepC hbw20 ba01_w19
  have ba02_w20 : w20.cell? ⟨w.heap.size, 2, none⟩ = some (.int .u64 b0) := keepC hbw20 ba02_w19
  have bW00_w20 : w20.cell? ⟨w4.heap.size, 0, none⟩ = some (.int .i64 rk) := keepC hbw20 bW00_w19
  have bW01_w20 : w20.cell? ⟨w4.heap.size, 1, none⟩ = some (.int .u64 ra) := keepC hbw20 bW01_w19
  have bW02_w20 : w20.cell? ⟨w4.heap.size, 2, none⟩ = some (.int .u64 rb) := keepC hbw20 bW02_w19
  have bG00_w20 : w20.cell? ⟨w8.heap.size, 0, none⟩ = some (.int .i64 rk) := keepC hbw20 bG00_w19
  have bG01_w20 : w20.cell? ⟨w8.heap.size, 1, none⟩ = some (.int .u64 ra) := keepC hbw20 bG01_w19
  have bG02_w20 : w20.cell? ⟨w8.heap.size, 2, none⟩ = some (.int .u64 rb) := keepC hbw20 bG02_w19
  have OWWw20 := Lib.hid (own_below OWWw19.out hbw20)
  have OWX1w20 := Lib.hid (own_below OWX1w19.out hbw20)
  have OWGw20 := Lib.hid (own_below OWGw19.out hbw20)
  have HBw20 : Hid (Below w.heap.size w w20) := Lib.hid (HBw19.out.trans (hbw20.mono HBw19.out.size))
  clear lb0w19 lb1w19 lb2w19 ba00_w19 ba01_w19 ba02_w19 bW00_w19 bW01_w19 bW02_w19 bG00_w19 bG01_w19 bG02_w19 OWWw19 OWX1w19 OWGw19 HBw19 hbw20 hownw20
  go_wp2_with fail
  refine (HI.out A20 _ (Rd.of_own OWtV1w20.out)).mono ?_
  rintro e w21 ⟨A21, c21, rfl, hownw21, hbw21⟩
  have OLV : Hid (∀ k, (Value.slice A21 ys.length c21).ownBlock = some k → w20.heap.size ≤ k ∧ k < w21.heap.size) := Lib.hid hownw21.lt
  have OWVw21 := Lib.hid hownw21
  have rw21 : w20.heap.size ≤ w21.heap.size := hbw21.size
  have lb0w21 : w.heap.size < w21.heap.size := by have := hbw21.size; omega
  have lb1w21 : w4.heap.size < w21.heap.size := by have := hbw21.size; omega
  have lb2w21 : w8.heap.size < w21.heap.size := by have := hbw21.size; omega
  have ba00_w21 : w21.cell? ⟨w.heap.size, 0, none⟩ = some (.int .i64 k0) := keepC hbw21 ba00_w20
  have ba01_w21 : w21.cell? ⟨w.heap.size, 1, none⟩ = some (.int .u64 a0) := keepC hbw21 ba01_w20
  have ba02_w21 : w21.cell? ⟨w.heap.size, 2, none⟩ = some (.int .u64 b0) := keepC hbw21 ba02_w20
  have bW00_w21 : w21.cell? ⟨w4.heap.size, 0, none⟩ = some (.int .i64 rk) := keepC hbw21 bW00_w20
  have bW01_w21 : w21.cell? ⟨w4.heap.size, 1, none⟩ = some (.int .u64 ra) := keepC hbw21 bW01_w20
  have bW02_w21 : w21.cell? ⟨w4.heap.size, 2, none⟩ = some (.int .u64 rb) := keepC hbw21 bW02_w20
  have bG00_w21 : w21.cell? ⟨w8.heap.size, 0, none⟩ = some (.int .i64 rk) := keepC hbw21 bG00_w20
  have bG01_w21 : w21.cell? ⟨w8.heap.size, 1, none⟩ = some (.int .u64 ra) := keepC hbw21 bG01_w20
  have bG02_w21 : w21.cell? ⟨w8.heap.size, 2, none⟩ = some (.int .u64 rb) := keepC hbw21 bG02_w20
  have OWWw21 := Lib.hid (own_below OWWw20.out hbw21)
  have OWX1w21 := Lib.hid (own_below OWX1w20.out hbw21)
  have OWGw21 := Lib.hid (own_below OWGw20.out hbw21)
  have OWtV1w21 := Lib.hid (own_below OWtV1w20.out hbw21)
  have HBw21 : Hid (Below w.heap.size w w21) := Lib.hid (HBw20.out.trans (hbw21.mono HBw20.out.size))
  clear lb0w20 lb1w20 lb2w20 ba00_w20 ba01_w20 ba02_w20 bW00_w20 bW01_w20 bW02_w20 bG00_w20 bG01_w20 bG02_w20 OWWw20 OWX1w20 OWGw20 OWtV1w20 HBw20 hbw21 hownw21
  clear OWtV1w21 OLtV1
  go_wp2_with fail
  generalize hWw22 : World.alloc w21 _ = w22
  have hbw22 : Below w21.heap.size w21 w22 := by rw [← hWw22]; exact Below.alloc (Below.refl _ _) (by simp; try omega) _
  have sw22 : w21.heap.size + 1 ≤ w22.heap.size := by rw [← hWw22]; simp
  have bV00_w22 : w22.cell? ⟨w21.heap.size, 0, none⟩ = some (.int .i64 rk) := by rw [← hWw22]; simp [go_sem]
  have bV01_w22 : w22.cell? ⟨w21.heap.size, 1, none⟩ = some (.int .u64 ra) := by rw [← hWw22]; simp [go_sem]
  have bV02_w22 : w22.cell? ⟨w21.heap.size, 2, none⟩ = some (.int .u64 rb) := by rw [← hWw22]; simp [go_sem]
  have lb0w22 : w.heap.size < w22.heap.size := by have := hbw22.size; omega
  have lb1w22 : w4.heap.size < w22.heap.size := by have := hbw22.size; omega
  have lb2w22 : w8.heap.size < w22.heap.size := by have := hbw22.size; omega
  have ba00_w22 : w22.cell? ⟨w.heap.size, 0, none⟩ = some (.int .i64 k0) := keepC hbw22 ba00_w21
  have ba01_w22 : w22.cell? ⟨w.heap.size, 1, none⟩ = some (.int .u64 a0) := keepC hbw22 ba01_w21
  have ba02_w22 : w22.cell? ⟨w.heap.size, 2, none⟩ = some (.int .u64 b0) := keepC hbw22 ba02_w21
  have bW00_w22 : w22.cell? ⟨w4.heap.size, 0, none⟩ = some (.int .i64 rk) := keepC hbw22 bW00_w21
  have bW01_w22 : w22.cell? ⟨w4.heap.size, 1, none⟩ = some (.int .u64 ra) := keepC hbw22 bW01_w21
  have bW02_w22 : w22.cell? ⟨w4.heap.size, 2, none⟩ = some (.int .u64 rb) := keepC hbw22 bW02_w21
  have bG00_w22 : w22.cell? ⟨w8.heap.size, 0, none⟩ = some (.int .i64 rk) := keepC hbw22 bG00_w21
  have bG01_w22 : w22.cell? ⟨w8.heap.size, 1, none⟩ = some (.int .u64 ra) := keepC hbw22 bG01_w21
  have bG02_w22 : w22.cell? ⟨w8.heap.size, 2, none⟩ = some (.int .u64 rb) := keepC hbw22 bG02_w21
  have OWWw22 := Lib.hid (own_below OWWw21.out hbw22)
  have OWX1w22 := Lib.hid (own_below OWX1w21.out hbw22)
  have OWGw22 := Lib.hid (own_below OWGw21.out hbw22)
  have OWVw22 := Lib.hid (own_below OWVw21.out hbw22)
  have HBw22 : Hid (Below w.heap.size w w22) := Lib.hid (HBw21.out.trans (hbw22.mono HBw21.out.size))
  clear lb0w21 lb1w21 lb2w21 ba00_w21 ba01_w21 ba02_w21 bW00_w21 bW01_w21 bW02_w21 bG00_w21 bG01_w21 bG02_w21 OWWw21 OWX1w21 OWGw21 OWVw21 HBw21 hWw22 hbw22
  have lb3w22 : w21.heap.size < w22.heap.size := by omega
  refine (HQ.out _).mono ?_
  rintro e w23 ⟨rfl, hbw23⟩
  have lb0w23 : w.heap.size < w23.heap.size := by have := hbw23.size; omega
  have lb1w23 : w4.heap.size < w23.heap.size := by have := hbw23.size; omega
  have lb2w23 : w8.heap.size < w23.heap.size := by have := hbw23.size; omega
  have lb3w23 : w21.heap.size < w23.heap.size := by have := hbw23.size; omega
  have ba00_w23 : w23.cell? ⟨w.heap.size, 0, none⟩ = some (.int .i64 k0) := keepC hbw23 ba00_w22
  have ba01_w23 : w23.cell? ⟨w.heap.size, 1, none⟩ = some (.int .u64 a0) := keepC hbw23 ba01_w22
  have ba02_w23 : w23.cell? ⟨w.heap.size, 2, none⟩ = some (.int .u64 b0) := keepC hbw23 ba02_w22
  have bW00_w23 : w23.cell? ⟨w4.heap.size, 0, none⟩ = some (.int .i64 rk) := keepC hbw23 bW00_w22
  have bW01_w23 : w23.cell? ⟨w4.heap.size, 1, none⟩ = some (.int .u64 ra) := keepC hbw23 bW01_w22
  have bW02_w23 : w23.cell? ⟨w4.heap.size, 2, none⟩ = some (.int .u64 rb) := keepC hbw23 bW02_w22
  have bG00_w23 : w23.cell? ⟨w8.heap.size, 0, none⟩ = some (.int .i64 rk) := keepC hbw23 bG00_w22
  have bG01_w23 : w23.cell? ⟨w8.heap.size, 1, none⟩ = some (.int .u64 ra) := keepC hbw23 bG01_w22
  have bG02_w23 : w23.cell? ⟨w8.heap.size, 2, none⟩ = some (.int .u64 rb) := keepC hbw23 bG02_w22
  have bV00_w23 : w23.cell? ⟨w21.heap.size, 0, none⟩ = some (.int .i64 rk) := keepC hbw23 bV00_w22
  have bV01_w23 : w23.cell? ⟨w21.heap.size, 1, none⟩ = some (.int .u64 ra) := keepC hbw23 bV01_w22
  have bV02_w23 : w23.cell? ⟨w21.heap.size, 2, none⟩ = some (.int .u64 rb) := keepC hbw23 bV02_w22
  have OWWw23 := Lib.hid (own_below OWWw22.out hbw23)
  have OWX1w23 := Lib.hid (own_below OWX1w22.out hbw23)
  have OWGw23 := Lib.hid (own_below OWGw22.out hbw23)
  have OWVw23 := Lib.hid (own_below OWVw22.out hbw23)
  have HBw23 : Hid (Below w.heap.size w w23) := Lib.hid (HBw22.out.trans (hbw23.mono HBw22.out.size))
  have zw23 : w21.heap.size + 1 ≤ w23.heap.size := by have := hbw23.size; omega
  clear lb0w22 lb1w22 lb2w22 lb3w22 ba00_w22 ba01_w22 ba02_w22 bW00_w22 bW01_w22 bW02_w22 bG00_w22 bG01_w22 bG02_w22 bV00_w22 bV01_w22 bV02_w22 OWWw22 OWX1w22 OWGw22 OWVw22 HBw22 hbw23
  go_wp2_with fail
  refine (HE.out A21 A4 c21 c4 _ (Rd.of_own OWVw23.out) (Rd.of_own OWWw23.out)).mono ?_
  rintro e w24 hqw24
  obtain ⟨rfl, hbw24⟩ := hqw24.below
  have lb0w24 : w.heap.size < w24.heap.size := by have := hbw24.size; omega
  have lb1w24 : w4.heap.size < w24.heap.size := by have := hbw24.size; omega
  have lb2w24 : w8.heap.size < w24.heap.size := by have := hbw24.size; omega
  have lb3w24 : w21.heap.size < w24.heap.size := by have := hbw24.size; omega
  have ba00_w24 : w24.cell? ⟨w.heap.size, 0, none⟩ = some (.int .i64 k0) := keepC hbw24 ba00_w23
  have ba01_w24 : w24.cell? ⟨w.heap.size, 1, none⟩ = some (.int .u64 a0) := keepC hbw24 ba01_w23
  have ba02_w24 : w24.cell? ⟨w.heap.size, 2, none⟩ = some (.int .u64 b0) := keepC hbw24 ba02_w23
  have bW00_w24 : w24.cell? ⟨w4.heap.size, 0, none⟩ = some (.int .i64 rk) := keepC hbw24 bW00_w23
  have bW01_w24 : w24.cell? ⟨w4.heap.size, 1, none⟩ = some (.int .u64 ra) := keepC hbw24 bW01_w23
  have bW02_w24 : w24.cell? ⟨w4.heap.size, 2, none⟩ = some (.int .u64 rb) := keepC hbw24 bW02_w23
  have bG00_w24 : w24.cell? ⟨w8.heap.size, 0, none⟩ = some (.int .i64 rk) := keepC hbw24 bG00_w23
  have bG01_w24 : w24.cell? ⟨w8.heap.size, 1, none⟩ = some (.int .u64 ra) := keepC hbw24 bG01_w23
  have bG02_w24 : w24.cell? ⟨w8.heap.size, 2, none⟩ = some (.int .u64 rb) := keepC hbw24 bG02_w23
  have bV00_w24 : w24.cell? ⟨w21.heap.size, 0, none⟩ = some (.int .i64 rk) := keepC hbw24 bV00_w23
  have bV01_w24 : w24.cell? ⟨w21.heap.size, 1, none⟩ = some (.int .u64 ra) := keepC hbw24 bV01_w23
  have bV02_w24 : w24.cell? ⟨w21.heap.size, 2, none⟩ = some (.int .u64 rb) := keepC hbw24 bV02_w23
  have OWWw24 := Lib.hid (own_below OWWw23.out hbw24)
  have OWX1w24 := Lib.hid (own_below OWX1w23.out hbw24)
  have OWGw24 := Lib.hid (own_below OWGw23.out hbw24)
  have OWVw24 := Lib.hid (own_below OWVw23.out hbw24)
  have HBw24 : Hid (Below w.heap.size w w24) := Lib.hid (HBw23.out.trans (hbw24.mono HBw23.out.size))
  have zw24 : w21.heap.size + 1 ≤ w24.heap.size := by have := hbw24.size; omega
  clear lb0w23 lb1w23 lb2w23 lb3w23 ba00_w23 ba01_w23 ba02_w23 bW00_w23 bW01_w23 bW02_w23 bG00_w23 bG01_w23 bG02_w23 bV00_w23 bV01_w23 bV02_w23 OWWw23 OWX1w23 OWGw23 OWVw23 HBw23 zw23 hbw24 hqw24
  go_wp2_with fail
  refine (HH.out A8 c8 _ (Rd.of_own OWGw24.out)).mono ?_
  rintro e w25 hqw25
  obtain ⟨rfl, hbw25⟩ := hqw25.below
  have lb0w25 : w.heap.size < w25.heap.size := by have := hbw25.size; omega
  have lb1w25 : w4.heap.size < w25.heap.size := by have := hbw25.size; omega
  have lb2w25 : w8.heap.size < w25.heap.size := by have := hbw25.size; omega
  have lb3w25 : w21.heap.size < w25.heap.size := by have := hbw25.size; omega
  have ba00_w25 : w25.cell? ⟨w.heap.size, 0, none⟩ = some (.int .i64 k0) := keepC hbw25 ba00_w24
  have ba01_w25 : w25.cell? ⟨w.heap.size, 1, none⟩ = some (.int .u64 a0) := keepC hbw25 ba01_w24
  have ba02_w25 : w25.cell? ⟨w.heap.size, 2, none⟩ = some (.int .u64 b0) := keepC hbw25 ba02_w24
  have bW00_w25 : w25.cell? ⟨w4.heap.size, 0, none⟩ = some (.int .i64 rk) := keepC hbw25 bW00_w24
  have bW01_w25 : w25.cell? ⟨w4.heap.size, 1, none⟩ = some (.int .u64 ra) := keepC hbw25 bW01_w24
  have bW02_w25 : w25.cell? ⟨w4.heap.size, 2, none⟩ = some (.int .u64 rb) := keepC hbw25 bW02_w24
  have bG00_w25 : w25.cell? ⟨w8.heap.size, 0, none⟩ = some (.int .i64 rk) := keepC hbw25 bG00_w24
  have bG01_w25 : w25.cell? ⟨w8.heap.size, 1, none⟩ = some (.int .u64 ra) := keepC hbw25 bG01_w24
  have bG02_w25 : w25.cell? ⟨w8.heap.size, 2, none⟩ = some (.int .u64 rb) := keepC hbw25 bG02_w24
  have bV00_w25 : w25.cell? ⟨w21.heap.size, 0, none⟩ = some (.int .i64 rk) := keepC hbw25 bV00_w24
  have bV01_w25 : w25.cell? ⟨w21.heap.size, 1, none⟩ = some (.int .u64 ra) := keepC hbw25 bV01_w24
  have bV02_w25 : w25.cell? ⟨w21.heap.size, 2, none⟩ = some (.int .u64 rb) := keepC hbw25 bV02_w24
  have OWWw25 := Lib.hid (own_below OWWw24.out hbw25)
  have OWX1w25 := Lib.hid (own_below OWX1w24.out hbw25)
  have OWGw25 := Lib.hid (own_below OWGw24.out hbw25)
  have OWVw25 := Lib.hid (own_below OWVw24.out hbw25)
  have HBw25 : Hid (Below w.heap.size w w25) := Lib.hid (HBw24.out.trans (hbw25.mono HBw24.out.size))
  have zw25 : w21.heap.size + 1 ≤ w25.heap.size := by have := hbw25.size; omega
  clear lb0w24 lb1w24 lb2w24 lb3w24 ba00_w24 ba01_w24 ba02_w24 bW00_w24 bW01_w24 bW02_w24 bG00_w24 bG01_w24 bG02_w24 bV00_w24 bV01_w24 bV02_w24 OWWw24 OWX1w24 OWGw24 OWVw24 HBw24 zw24 hbw25 hqw25
  go_wp2_with fail
  go_ret
  exact ⟨rfl, HBw25.out⟩

set_option maxRecDepth 100000 in
set_option maxHeartbeats 3200000 in
theorem lifted (os : Os) (started : os.Started) (H : Type) (enc : TypeId × Value → H) :
    ReturnsInHanded {} Try.checked os 6 .any (Rows.fnExactDrawnMeansSpec.pre6 enc Try.prog Try.f6 Rows.fnExactDrawnMeansRow.domain false) (Rows.fnExactDrawnMeansSpec.post enc Try.prog Try.f6 false true false false) := by
  refine returnsInHanded_of_change (C := Try.checked) own started (by kernel_rfl) Try.func6
    (ChangeSpec.witness6 (enc := enc) (C := Try.checked) false ⟨#[], #[.agg #[.int .i64 0, .int .u64 0, .int .u64 0], .slice none 0 0, .int .i64 0], []⟩ 8 (by kernel_rfl) (by kernel_rfl) (by kernel_rfl) (by kernel_rfl)) ?_
  intro W base args ds gs before hval0 hW hcnd _
  have hval : ∀ (j : Nat) t v, Try.f6.params[j]? = some t → args[j]? = some v → Value.okWide Try.prog W .any base t v := hval0
  have hW' := hW
  have hlt : ∀ p ∈ before, p.block < W.heap.size := fun p hp => hW.lt p hp
  obtain ⟨p, q, hA0, hV, rfl, hfz, hnd⟩ := hW
  have hA : DataW.TrodAll enc Try.prog W 0 (fun _ => true) true Try.f6.params.toList args.toList ds p := hA0
  rw [Try.params6] at hA hval
  have hA1 := hA
  obtain ⟨v0, vs0, d0, ds0, p0, q0, hargs, rfl, rfl, h0, r0⟩ := trodAll_cons hA
  obtain ⟨v1, vs1, d1, ds1, p1, q1, rfl, rfl, rfl, h1, r1⟩ := trodAll_cons r0
  obtain ⟨v2, vs2, d2, ds2, p2, q2, rfl, rfl, rfl, h2, r2⟩ := trodAll_cons r1
  obtain ⟨rfl, rfl, rfl⟩ := trodAll_nil r2
  obtain rfl : args = #[v0, v1, v2] := by cases args; simp_all
  obtain ⟨rfl, rfl⟩ := trodVars_none hV
  obtain ⟨k0, a0, b0, rfl, bd0⟩ := open_seed (hval 0 _ _ rfl rfl) h0
  obtain ⟨A1, xs1, c1, rfl, hx1, hr1, bf1⟩ := open_fl h1 (okWide_slice Try.underlying46 (hval 1 _ _ rfl rfl))
  obtain ⟨x2, rfl, -, -, wf2⟩ := open_int Try.underlying2 (hval 2 _ _ rfl rfl) h2
  have bd2 := int_bd wf2
  clear hA0 hval0
  refine (walk k0 a0 b0 A1 xs1 c1 x2 W bd0 hr1 hx1 bf1 bd2).mono fun e W' ⟨he, hb⟩ => ?_
  subst he
  rw [List.append_nil] at hW' hlt
  exact ⟨_, rfl, post_of_below (pa := _) (pv := []) hW' (fun _ _ _ => (trodAll_cons_mk (shut_bool Try.underlying4 _) trodAll_mk0))
    (fun sp hsp => trodAll_below cl_laid hb _ _ _ _ (by kernel_rfl) hA1 hlt hsp) (fun _ _ => rfl) (List.append_nil _).symm hb (ok_one (by kernel_rfl) rfl (okWide_bool_mk Try.underlying4 _))⟩

theorem g0 : Try.prog.funcNamed Rows.fnExactDrawnMeansRow.func = some 6 := by kernel_rfl
theorem g1 : Rows.fnExactDrawnMeansRow.inPlace = Try.prog.inPlace 6 := by kernel_rfl
theorem g2 : Rows.fnExactDrawnMeansRow.unfollowed = Try.prog.unfollowed 6 := by kernel_rfl
theorem g3 : Rows.fnExactDrawnMeansRow.recurses = Try.prog.recurses 6 := by kernel_rfl
theorem g4 : Rows.fnExactDrawnMeansRow.named = Try.prog.varsNamed 6 := by kernel_rfl
theorem g5 : Rows.fnExactDrawnMeansRow.wf (OpenSpec.ofChange Rows.fnExactDrawnMeansSpec) = true := by kernel_rfl
theorem g6 : (Try.f6.params.all (Try.prog.readableRec ·)) = true := by kernel_rfl
theorem g7 : Rows.fnExactDrawnMeansRow.veiledFits Try.prog Try.f6.params.toList (Try.f6.params.toList ++ Try.f6.resultTypes.toList) = true := by kernel_rfl
theorem g8 : joinedFacts Try.prog 6 Try.f6 Rows.fnExactDrawnMeansSpec Rows.fnExactDrawnMeansRow = true :=
  gen_facts _ _ _ _ rfl rfl cl_laid cl_maps cl_stops cl_knobs cl_heard cl_enter cl_lifts cl_make g5 g6 rfl rfl rfl g1 g2 g3 g4
    (by as_aux_lemma => kernel_rfl) (by as_aux_lemma => kernel_rfl) (by as_aux_lemma => kernel_rfl) (by as_aux_lemma => kernel_rfl) (by as_aux_lemma => kernel_rfl) (by as_aux_lemma => kernel_rfl) (by as_aux_lemma => kernel_rfl) (by as_aux_lemma => kernel_rfl)
    cl_keys.symm rfl rfl rfl rfl rfl (by as_aux_lemma => kernel_rfl) (by as_aux_lemma => kernel_rfl) g7
theorem g9 : Try.f6.isInstance Try.prog Rows.fnExactDrawnMeansRow.origin Rows.fnExactDrawnMeansRow.targs := of_decide_eq_true (by kernel_rfl)
theorem g10 : Try.f6.isWrapper Try.prog Rows.fnExactDrawnMeansRow.wrapper Rows.fnExactDrawnMeansRow.mainSum := by
  unfold Func.isWrapper; first | (rw [if_pos (by decide +kernel)]; kernel_rfl) | (rw [if_neg (by decide +kernel)]; exact ⟨rfl, rfl⟩)
theorem over : Rows.fnExactDrawnMeansRow.holds Try.pinned (OpenSpec.ofChange Rows.fnExactDrawnMeansSpec) :=
  OpenClaim.holds_of_wide 6 Try.f6 rfl rfl rfl rfl rfl rfl rfl ⟨rfl, rfl, rfl, rfl, rfl⟩ rfl rfl rfl rfl rfl g0 Try.func6 g8 g9 g10 (fun os started H enc _ => lifted os started H enc)
theorem proved : Rows.FnExactDrawnMeansSaid := over
end Go.Proofs.Ytfkjnaaplhcheaa.lawDrawnMeans
