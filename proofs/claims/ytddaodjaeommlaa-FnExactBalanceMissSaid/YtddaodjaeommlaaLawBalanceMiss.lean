/-
  impl.BalanceMiss returns what spec.BalanceMiss returns, for every chain and row (the law FnExactBalanceMiss returns true), in memory of its own where it gives a slice, and leaves its arguments as they were. No condition.
-/
import Derived.Test.YtddaodjaeommlaaBal
import Derived.Test.YtddaodjaeommlaaToi
import Derived.Test.YtddaodjaeommlaaOpen
import Derived.Deep.RegionHeld3
import Derived.Deep.DeepCutAuto
namespace Go.Proofs.Ytddaodjaeommlaa.lawBalanceMiss
open Go.ChangeShapes Go.WideShapes Go.ChangeAt Go.RowKit

theorem both (n0 : Int) (xs0 : List Nat) (xs1 : List Nat) (hx0 : xs0.length ≤ 9223372036854775807) (bd0 : -9223372036854775808 ≤ n0 ∧ n0 ≤ 9223372036854775807) (bf0 : ∀ x ∈ xs0, x < 4294967296) (hx1 : xs1.length ≤ 9223372036854775807) (bf1 : ∀ x ∈ xs1, x < 4294967296) : ∃ (rf : Nat) (ok : Bool), isNan Ieee.single rf = false ∧ (∀ A50 c50 A51 c51 w, Rd w w.heap.size A50 (fl xs0) → Rd w w.heap.size A51 (fl xs1) → Calls Try.prog 41 #[.agg #[.int .i64 n0, .slice A50 xs0.length c50], .slice A51 xs1.length c51] w (fun e w' => e = .returned (.tuple #[.float .f32 rf, .bool ok]) ∧ Below w.heap.size w w')) ∧
    (∀ A50 A51 w, Rd w w.heap.size A50 (fl xs0) → Rd w w.heap.size A51 (fl xs1) → Calls Try.prog 42 #[.agg #[.int .i64 n0, .slice A50 xs0.length xs0.length], .slice A51 xs1.length xs1.length] w (fun e w' => e = .returned (.tuple #[.float .f32 rf, .bool ok]) ∧ Below w.heap.size w w')) := by
  have _uhx0 := hx0
  have _ubd0 := bd0
  have _ubf0 := bf0
  have _uhx1 := hx1
  have _ubf1 := bf1
  have hz : xs0.length ≤ xs0.length := Nat.le_refl _
  cases h : fitB n0 xs0 xs1 with
  | false => exact ⟨0, false, zero_notNan, fun A c B d w hA hB => specBalanceMiss_bad n0 A xs0 c B xs1 d w hx0 hx1 hA hB h, fun A B w hA hB => BalanceMiss_bad n0 A xs0 xs0.length B xs1 xs1.length w hz hx0 hx1 hA hB h⟩
  | true =>
    obtain ⟨n, rfl, h1, h2, hl, hp, hrl, hrw, -⟩ := fitB_facts h
    exact ⟨_, _, fin_not_nan (missTo_ok h1 hl hp hrl hrw (n * n) (Nat.le_refl _)).2, fun A c B d w hA hB => specBalanceMiss_ok n A xs0 c B xs1 d w hx0 hA hB h, fun A B w hA hB => BalanceMiss_ok n A xs0 xs0.length B xs1 xs1.length w hz hx0 hA hB h⟩

set_option maxRecDepth 100000 in
set_option maxHeartbeats 12800000 in
theorem walk (n0 : Int) (A0 : Option Addr) (xs0 : List Nat) (c0 : Nat) (A1 : Option Addr) (xs1 : List Nat) (c1 : Nat) (w : World) (h0 : Rd w w.heap.size A0 (fl xs0))  (hx0 : xs0.length ≤ 9223372036854775807) (bd0 : -9223372036854775808 ≤ n0 ∧ n0 ≤ 9223372036854775807) (bf0 : ∀ x ∈ xs0, x < 4294967296) (h1 : Rd w w.heap.size A1 (fl xs1))  (hx1 : xs1.length ≤ 9223372036854775807) (bf1 : ∀ x ∈ xs1, x < 4294967296) :
    Calls Try.prog 8 #[.agg #[.int .i64 n0, .slice A0 xs0.length c0], .slice A1 xs1.length c1] w fun e w' => e = .returned (.bool true) ∧ Below w.heap.size w w' := by
  by_cases hq1 : 1048576 < xs1.length
  · clear bd0 bf0 bf1
    go_enter Try.func8, Try.ntmps8
    go_wp2
    go_ret
    exact ⟨rfl, Below.alloc (Below.refl _ _) (by simp; try omega) _⟩
  have hy1 : xs1.length ≤ 1048576 := by omega
  clear hq1
  have HZ0 := Lib.hid fun w => szChain_any n0 A0 xs0.length c0 (1048576) w hx0 (by omega) (by omega)
  by_cases hl0 : (1048576 : Int) - (xs0.length : Int) < 0
  · have HL0 : Hid (leftOf (1048576) xs0.length = -1) := if_pos hl0
    clear hl0 bd0 bf0 bf1
    go_enter Try.func8, Try.ntmps8
    go_wp2_with fail
    refine (HZ0.out _).mono ?_
    rw [HL0.out]
    rintro e v0 ⟨rfl, hv0⟩
    have hu0 : Below w.heap.size w v0 := Below.trans (Below.alloc (Below.refl _ _) (by simp; try omega) _) (hv0.mono (by simp; try omega))
    have cc00 : v0.cell? ⟨w.heap.size, 0, none⟩ = some (.int .i64 n0) := keepC hv0 (by simp [go_sem])
    have cc01 : v0.cell? ⟨w.heap.size, 1, none⟩ = some (.slice A0 xs0.length c0) := keepC hv0 (by simp [go_sem])
    clear hv0
    go_wp2_with fail
    go_ret
    exact ⟨rfl, hu0⟩
  have HL0 : Hid (leftOf (1048576) xs0.length = 1048576 - xs0.length) := if_neg hl0
  have hy0 : xs0.length ≤ 1048576 := by omega
  obtain ⟨rf, ok, hfn, HS0, HI0⟩ := both n0 xs0 xs1 hx0 bd0 bf0 hx1 bf1
  obtain ⟨r64, hcv, _hnn⟩ := wide_run rf hfn
  have HQF := Lib.hid fun W => sameFloat_yes r64 r64 W (sameW_refl Ieee.double r64)
  clear hfn _hnn
  have HS := Lib.hid HS0
  have HI := Lib.hid HI0
  clear HS0 HI0
  have HT0 := Lib.hid fun w h => toChain_any n0 A0 xs0 c0 w hy0 h
  have HX0 := Lib.hid fun A B c d w hA hB => eqChain_yes n0 A B xs0 xs0 c d w (by omega) (sameL_refl xs0) hA hB
  have HT1 := Lib.hid fun w h => toFloat32S_any A1 xs1 c1 w hy1 h
  have HX1 := Lib.hid fun A B c d w hA hB => eqFloat32S_yes A B xs1 xs1 c d w (by omega) (sameL_refl xs1) hA hB
  clear bd0 bf0 bf1
  have HBw : Hid (Below w.heap.size w w) := Lib.hid (Below.refl _ _)
  go_enter Try.func8, Try.ntmps8
  go_wp2_with fail
  generalize hWw1 : World.alloc w _ = w1
  have hbw1 : Below w.heap.size w w1 := by rw [← hWw1]; exact Below.alloc (Below.refl _ _) (by simp; try omega) _
  have sw1 : w.heap.size + 1 ≤ w1.heap.size := by rw [← hWw1]; simp
  have ba00_w1 : w1.cell? ⟨w.heap.size, 0, none⟩ = some (.int .i64 n0) := by rw [← hWw1]; simp [go_sem]
  have ba01_w1 : w1.cell? ⟨w.heap.size, 1, none⟩ = some (.slice A0 xs0.length c0) := by rw [← hWw1]; simp [go_sem]
  have HBw1 : Hid (Below w.heap.size w w1) := Lib.hid (HBw.out.trans (hbw1.mono HBw.out.size))
  clear HBw hWw1 hbw1
  have lb0w1 : w.heap.size < w1.heap.size := by omega
  refine (HZ0.out _).mono ?_
  rw [HL0.out]
  rintro e w2 ⟨rfl, hbw2⟩
  have lb0w2 : w.heap.size < w2.heap.size := by have := hbw2.size; omega
  have ba00_w2 : w2.cell? ⟨w.heap.size, 0, none⟩ = some (.int .i64 n0) := keepC hbw2 ba00_w1
  have ba01_w2 : w2.cell? ⟨w.heap.size, 1, none⟩ = some (.slice A0 xs0.length c0) := keepC hbw2 ba01_w1
  have HBw2 : Hid (Below w.heap.size w w2) := Lib.hid (HBw1.out.trans (hbw2.mono HBw1.out.size))
  have zw2 : w.heap.size + 1 ≤ w2.heap.size := by have := hbw2.size; omega
  clear lb0w1 ba00_w1 ba01_w1 HBw1 hbw2
  go_wp2_with fail
  refine (HT0.out _ (h0.at_ HBw2.out)).mono ?_
  rintro e w3 ⟨A3, rfl, hownw3, hbw3⟩
  have OLtW0 : Hid (∀ k, (Value.slice A3 xs0.length xs0.length).ownBlock = some k → w2.heap.size ≤ k ∧ k < w3.heap.size) := Lib.hid hownw3.lt
  have OWtW0w3 := Lib.hid hownw3
  have rw3 : w2.heap.size ≤ w3.heap.size := hbw3.size
  have lb0w3 : w.heap.size < w3.heap.size := by have := hbw3.size; omega
  have ba00_w3 : w3.cell? ⟨w.heap.size, 0, none⟩ = some (.int .i64 n0) := keepC hbw3 ba00_w2
  have ba01_w3 : w3.cell? ⟨w.heap.size, 1, none⟩ = some (.slice A0 xs0.length c0) := keepC hbw3 ba01_w2
  have HBw3 : Hid (Below w.heap.size w w3) := Lib.hid (HBw2.out.trans (hbw3.mono HBw2.out.size))
  clear lb0w2 ba00_w2 ba01_w2 HBw2 hbw3 hownw3
  go_wp2_with fail
  refine (HT1.out _ (h1.at_ HBw3.out)).mono ?_
  rintro e w4 ⟨A4, rfl, hownw4, hbw4⟩
  have OLtW1 : Hid (∀ k, (Value.slice A4 xs1.length xs1.length).ownBlock = some k → w3.heap.size ≤ k ∧ k < w4.heap.size) := Lib.hid hownw4.lt
  have OWtW1w4 := Lib.hid hownw4
  have rw4 : w3.heap.size ≤ w4.heap.size := hbw4.size
  have lb0w4 : w.heap.size < w4.heap.size := by have := hbw4.size; omega
  have ba00_w4 : w4.cell? ⟨w.heap.size, 0, none⟩ = some (.int .i64 n0) := keepC hbw4 ba00_w3
  have ba01_w4 : w4.cell? ⟨w.heap.size, 1, none⟩ = some (.slice A0 xs0.length c0) := keepC hbw4 ba01_w3
  have OWtW0w4 := Lib.hid (own_below OWtW0w3.out hbw4)
  have HBw4 : Hid (Below w.heap.size w w4) := Lib.hid (HBw3.out.trans (hbw4.mono HBw3.out.size))
  clear lb0w3 ba00_w3 ba01_w3 OWtW0w3 HBw3 hbw4 hownw4
  go_wp2_with fail
  refine (HS.out A3 _ A4 _ _ (Rd.of_own OWtW0w4.out) (Rd.of_own OWtW1w4.out)).mono ?_
  rintro e w5 ⟨rfl, hbw5⟩
  have lb0w5 : w.heap.size < w5.heap.size := by have := hbw5.size; omega
  have ba00_w5 : w5.cell? ⟨w.heap.size, 0, none⟩ = some (.int .i64 n0) := keepC hbw5 ba00_w4
  have ba01_w5 : w5.cell? ⟨w.heap.size, 1, none⟩ = some (.slice A0 xs0.length c0) := keepC hbw5 ba01_w4
  have OWtW0w5 := Lib.hid (own_below OWtW0w4.out hbw5)
  have OWtW1w5 := Lib.hid (own_below OWtW1w4.out hbw5)
  have HBw5 : Hid (Below w.heap.size w w5) := Lib.hid (HBw4.out.trans (hbw5.mono HBw4.out.size))
  have zw5 : w4.heap.size ≤ w5.heap.size := by have := hbw5.size; omega
  clear lb0w4 ba00_w4 ba01_w4 OWtW0w4 OWtW1w4 HBw4 hbw5
  clear OWtW0w5 OLtW0
  clear OWtW1w5 OLtW1
  go_wp2_with fail
  refine (HT0.out _ (h0.at_ HBw5.out)).mono ?_
  rintro e w6 ⟨A6, rfl, hownw6, hbw6⟩
  have OLX0 : Hid (∀ k, (Value.slice A6 xs0.length xs0.length).ownBlock = some k → w5.heap.size ≤ k ∧ k < w6.heap.size) := Lib.hid hownw6.lt
  have OWX0w6 := Lib.hid hownw6
  have rw6 : w5.heap.size ≤ w6.heap.size := hbw6.size
  have lb0w6 : w.heap.size < w6.heap.size := by have := hbw6.size; omega
  have ba00_w6 : w6.cell? ⟨w.heap.size, 0, none⟩ = some (.int .i64 n0) := keepC hbw6 ba00_w5
  have ba01_w6 : w6.cell? ⟨w.heap.size, 1, none⟩ = some (.slice A0 xs0.length c0) := keepC hbw6 ba01_w5
  have HBw6 : Hid (Below w.heap.size w w6) := Lib.hid (HBw5.out.trans (hbw6.mono HBw5.out.size))
  clear lb0w5 ba00_w5 ba01_w5 HBw5 hbw6 hownw6
  go_wp2_with fail
  generalize hWw7 : World.alloc w6 _ = w7
  have hbw7 : Below w6.heap.size w6 w7 := by rw [← hWw7]; exact Below.alloc (Below.refl _ _) (by simp; try omega) _
  have sw7 : w6.heap.size + 1 ≤ w7.heap.size := by rw [← hWw7]; simp
  have bx000_w7 : w7.cell? ⟨w6.heap.size, 0, none⟩ = some (.int .i64 n0) := by rw [← hWw7]; simp [go_sem]
  have bx001_w7 : w7.cell? ⟨w6.heap.size, 1, none⟩ = some (.slice A6 xs0.length xs0.length) := by rw [← hWw7]; simp [go_sem]
  have lb0w7 : w.heap.size < w7.heap.size := by have := hbw7.size; omega
  have ba00_w7 : w7.cell? ⟨w.heap.size, 0, none⟩ = some (.int .i64 n0) := keepC hbw7 ba00_w6
  have ba01_w7 : w7.cell? ⟨w.heap.size, 1, none⟩ = some (.slice A0 xs0.length c0) := keepC hbw7 ba01_w6
  have OWX0w7 := Lib.hid (own_below OWX0w6.out hbw7)
  have HBw7 : Hid (Below w.heap.size w w7) := Lib.hid (HBw6.out.trans (hbw7.mono HBw6.out.size))
  clear lb0w6 ba00_w6 ba01_w6 OWX0w6 HBw6 hWw7 hbw7
  have lb1w7 : w6.heap.size < w7.heap.size := by omega
  refine (HT1.out _ (h1.at_ HBw7.out)).mono ?_
  rintro e w8 ⟨A8, rfl, hownw8, hbw8⟩
  have OLX1 : Hid (∀ k, (Value.slice A8 xs1.length xs1.length).ownBlock = some k → w7.heap.size ≤ k ∧ k < w8.heap.size) := Lib.hid hownw8.lt
  have OWX1w8 := Lib.hid hownw8
  have rw8 : w7.heap.size ≤ w8.heap.size := hbw8.size
  have lb0w8 : w.heap.size < w8.heap.size := by have := hbw8.size; omega
  have lb1w8 : w6.heap.size < w8.heap.size := by have := hbw8.size; omega
  have ba00_w8 : w8.cell? ⟨w.heap.size, 0, none⟩ = some (.int .i64 n0) := keepC hbw8 ba00_w7
  have ba01_w8 : w8.cell? ⟨w.heap.size, 1, none⟩ = some (.slice A0 xs0.length c0) := keepC hbw8 ba01_w7
  have bx000_w8 : w8.cell? ⟨w6.heap.size, 0, none⟩ = some (.int .i64 n0) := keepC hbw8 bx000_w7
  have bx001_w8 : w8.cell? ⟨w6.heap.size, 1, none⟩ = some (.slice A6 xs0.length xs0.length) := keepC hbw8 bx001_w7
  have OWX0w8 := Lib.hid (own_below OWX0w7.out hbw8)
  have HBw8 : Hid (Below w.heap.size w w8) := Lib.hid (HBw7.out.trans (hbw8.mono HBw7.out.size))
  clear lb0w7 lb1w7 ba00_w7 ba01_w7 bx000_w7 bx001_w7 OWX0w7 HBw7 hbw8 hownw8
  go_wp2_with fail
  refine (HI.out A6 A8 _ (Rd.of_own OWX0w8.out) (Rd.of_own OWX1w8.out)).mono ?_
  rintro e w9 ⟨rfl, hbw9⟩
  have lb0w9 : w.heap.size < w9.heap.size := by have := hbw9.size; omega
  have lb1w9 : w6.heap.size < w9.heap.size := by have := hbw9.size; omega
  have ba00_w9 : w9.cell? ⟨w.heap.size, 0, none⟩ = some (.int .i64 n0) := keepC hbw9 ba00_w8
  have ba01_w9 : w9.cell? ⟨w.heap.size, 1, none⟩ = some (.slice A0 xs0.length c0) := keepC hbw9 ba01_w8
  have bx000_w9 : w9.cell? ⟨w6.heap.size, 0, none⟩ = some (.int .i64 n0) := keepC hbw9 bx000_w8
  have bx001_w9 : w9.cell? ⟨w6.heap.size, 1, none⟩ = some (.slice A6 xs0.length xs0.length) := keepC hbw9 bx001_w8
  have OWX0w9 := Lib.hid (own_below OWX0w8.out hbw9)
  have OWX1w9 := Lib.hid (own_below OWX1w8.out hbw9)
  have HBw9 : Hid (Below w.heap.size w w9) := Lib.hid (HBw8.out.trans (hbw9.mono HBw8.out.size))
  have zw9 : w8.heap.size ≤ w9.heap.size := by have := hbw9.size; omega
  clear lb0w8 lb1w8 ba00_w8 ba01_w8 bx000_w8 bx001_w8 OWX0w8 OWX1w8 HBw8 hbw9
  go_wp2_with fail
  refine (HQF.out _).mono ?_
  rintro e w10 hqw10
  obtain ⟨rfl, hbw10⟩ := hqw10.below
  have lb0w10 : w.heap.size < w10.heap.size := by have := hbw10.size; omega
  have lb1w10 : w6.heap.size < w10.heap.size := by have := hbw10.size; omega
  have ba00_w10 : w10.cell? ⟨w.heap.size, 0, none⟩ = some (.int .i64 n0) := keepC hbw10 ba00_w9
  have ba01_w10 : w10.cell? ⟨w.heap.size, 1, none⟩ = some (.slice A0 xs0.length c0) := keepC hbw10 ba01_w9
  have bx000_w10 : w10.cell? ⟨w6.heap.size, 0, none⟩ = some (.int .i64 n0) := keepC hbw10 bx000_w9
  have bx001_w10 : w10.cell? ⟨w6.heap.size, 1, none⟩ = some (.slice A6 xs0.length xs0.length) := keepC hbw10 bx001_w9
  have OWX0w10 := Lib.hid (own_below OWX0w9.out hbw10)
  have OWX1w10 := Lib.hid (own_below OWX1w9.out hbw10)
  have HBw10 : Hid (Below w.heap.size w w10) := Lib.hid (HBw9.out.trans (hbw10.mono HBw9.out.size))
  have zw10 : w8.heap.size ≤ w10.heap.size := by have := hbw10.size; omega
  clear lb0w9 lb1w9 ba00_w9 ba01_w9 bx000_w9 bx001_w9 OWX0w9 OWX1w9 HBw9 zw9 hbw10 hqw10
  go_wp2_with fail
  have hMk : Hid (∀ W, Below w10.heap.size w10 W → W.cell? ⟨w.heap.size, 0, none⟩ = some (.int .i64 n0) ∧ W.cell? ⟨w.heap.size, 1, none⟩ = some (.slice A0 xs0.length c0) ∧ W.cell? ⟨w6.heap.size, 0, none⟩ = some (.int .i64 n0) ∧ W.cell? ⟨w6.heap.size, 1, none⟩ = some (.slice A6 xs0.length xs0.length)) := Lib.hid fun W hW => ⟨keepC hW ba00_w10, keepC hW ba01_w10, keepC hW bx000_w10, keepC hW bx001_w10⟩
  go_region_held3 (fun W => W.cell? ⟨w.heap.size, 0, none⟩ = some (.int .i64 n0) ∧ W.cell? ⟨w.heap.size, 1, none⟩ = some (.slice A0 xs0.length c0) ∧ W.cell? ⟨w6.heap.size, 0, none⟩ = some (.int .i64 n0) ∧ W.cell? ⟨w6.heap.size, 1, none⟩ = some (.slice A6 xs0.length xs0.length))
    (first | exact hMk.out _ ((Below.refl _ _).drew) | exact hMk.out _ (by assumption))
    (first
      | (go_at_call 29; refine (HT0.out _ (h0.at_ HBw10.out.drew)).mono ?_; rintro e w11 ⟨A11, rfl, hownw11, hbw11⟩; have hkw11 : Below w10.heap.size w10 w11 := Below.trans (Below.refl _ _).drew hbw11)
      | (go_at_call 31; refine (HX0.out _ _ _ _ _ ((Rd.of_own OWX0w10.out).at_ hkw11) (Rd.of_own hownw11)).mono ?_; rintro e w12 ⟨rfl, hbw12⟩; have hkw12 : Below w10.heap.size w10 w12 := hkw11.trans (hbw12.mono hkw11.size)))
  obtain ⟨ba00_w12, ba01_w12, bx000_w12, bx001_w12⟩ := hMk.out _ hkw12
  have lb0w12 : w.heap.size < w12.heap.size := by have := hkw12.size; omega
  have lb1w12 : w6.heap.size < w12.heap.size := by have := hkw12.size; omega
  have OWX0w12 := Lib.hid (own_below OWX0w10.out hkw12)
  have OWX1w12 := Lib.hid (own_below OWX1w10.out hkw12)
  have HBw12 : Hid (Below w.heap.size w w12) := Lib.hid (HBw10.out.trans (hkw12.mono HBw10.out.size))
  have zw12 : w8.heap.size ≤ w12.heap.size := by have := hkw12.size; omega
  clear hMk ba00_w10 ba01_w10 bx000_w10 bx001_w10 hbw11 hkw11 hownw11 lb0w10 lb1w10 OWX0w10 OWX1w10 HBw10 zw10 hbw12 hkw12
  go_wp2_with fail
  refine (HT1.out _ (h1.at_ HBw12.out)).mono ?_
  rintro e w13 ⟨A13, rfl, hownw13, hbw13⟩
  have OLY : Hid (∀ k, (Value.slice A13 xs1.length xs1.length).ownBlock = some k → w12.heap.size ≤ k ∧ k < w13.heap.size) := Lib.hid hownw13.lt
  have OWYw13 := Lib.hid hownw13
  have rw13 : w12.heap.size ≤ w13.heap.size := hbw13.size
  have lb0w13 : w.heap.size < w13.heap.size := by have := hbw13.size; omega
  have lb1w13 : w6.heap.size < w13.heap.size := by have := hbw13.size; omega
  have ba00_w13 : w13.cell? ⟨w.heap.size, 0, none⟩ = some (.int .i64 n0) := keepC hbw13 ba00_w12
  have ba01_w13 : w13.cell? ⟨w.heap.size, 1, none⟩ = some (.slice A0 xs0.length c0) := keepC hbw13 ba01_w12
  have bx000_w13 : w13.cell? ⟨w6.heap.size, 0, none⟩ = some (.int .i64 n0) := keepC hbw13 bx000_w12
  have bx001_w13 : w13.cell? ⟨w6.heap.size, 1, none⟩ = some (.slice A6 xs0.length xs0.length) := keepC hbw13 bx001_w12
  have OWX0w13 := Lib.hid (own_below OWX0w12.out hbw13)
  have OWX1w13 := Lib.hid (own_below OWX1w12.out hbw13)
  have HBw13 : Hid (Below w.heap.size w w13) := Lib.hid (HBw12.out.trans (hbw13.mono HBw12.out.size))
  clear lb0w12 lb1w12 ba00_w12 ba01_w12 bx000_w12 bx001_w12 OWX0w12 OWX1w12 HBw12 hbw13 hownw13
  go_wp2_with fail
  refine (HX1.out A8 A13 _ _ _ (Rd.of_own OWX1w13.out) (Rd.of_own OWYw13.out)).mono ?_
  rintro e w14 hqw14
  obtain ⟨rfl, hbw14⟩ := hqw14.below
  have lb0w14 : w.heap.size < w14.heap.size := by have := hbw14.size; omega
  have lb1w14 : w6.heap.size < w14.heap.size := by have := hbw14.size; omega
  have ba00_w14 : w14.cell? ⟨w.heap.size, 0, none⟩ = some (.int .i64 n0) := keepC hbw14 ba00_w13
  have ba01_w14 : w14.cell? ⟨w.heap.size, 1, none⟩ = some (.slice A0 xs0.length c0) := keepC hbw14 ba01_w13
  have bx000_w14 : w14.cell? ⟨w6.heap.size, 0, none⟩ = some (.int .i64 n0) := keepC hbw14 bx000_w13
  have bx001_w14 : w14.cell? ⟨w6.heap.size, 1, none⟩ = some (.slice A6 xs0.length xs0.length) := keepC hbw14 bx001_w13
  have OWX0w14 := Lib.hid (own_below OWX0w13.out hbw14)
  have OWX1w14 := Lib.hid (own_below OWX1w13.out hbw14)
  have OWYw14 := Lib.hid (own_below OWYw13.out hbw14)
  have HBw14 : Hid (Below w.heap.size w w14) := Lib.hid (HBw13.out.trans (hbw14.mono HBw13.out.size))
  have zw14 : w13.heap.size ≤ w14.heap.size := by have := hbw14.size; omega
  clear lb0w13 lb1w13 ba00_w13 ba01_w13 bx000_w13 bx001_w13 OWX0w13 OWX1w13 OWYw13 HBw13 hbw14 hqw14
  clear OWYw14 OLY
  go_wp2_with fail
  go_ret
  exact ⟨rfl, HBw14.out⟩

set_option maxRecDepth 100000 in
theorem lifted (os : Os) (started : os.Started) (H : Type) (enc : TypeId × Value → H) :
    ReturnsInHanded {} Try.checked os 8 .any (Rows.fnExactBalanceMissSpec.pre6 enc Try.prog Try.f8 Rows.fnExactBalanceMissRow.domain false) (Rows.fnExactBalanceMissSpec.post enc Try.prog Try.f8 false true false false) := by
  refine returnsInHanded_of_change (C := Try.checked) own started (by kernel_rfl) Try.func8
    (ChangeSpec.witness6 (enc := enc) (C := Try.checked) false ⟨#[], #[.agg #[.int .i64 0, .slice none 0 0], .slice none 0 0], []⟩ 8 (by kernel_rfl) (by kernel_rfl) (by kernel_rfl) (by kernel_rfl)) ?_
  intro W base args ds gs before hval0 hW hcnd _
  have hval : ∀ (j : Nat) t v, Try.f8.params[j]? = some t → args[j]? = some v → Value.okWide Try.prog W .any base t v := hval0
  have hW' := hW
  have hlt : ∀ p ∈ before, p.block < W.heap.size := fun p hp => hW.lt p hp
  obtain ⟨p, q, hA0, hV, rfl, hfz, hnd⟩ := hW
  have hA : DataW.TrodAll enc Try.prog W 0 (fun _ => true) true Try.f8.params.toList args.toList ds p := hA0
  rw [Try.params8] at hA hval
  have hA1 := hA
  obtain ⟨v0, vs0, d0, ds0, p0, q0, hargs, rfl, rfl, h0, r0⟩ := trodAll_cons hA
  obtain ⟨v1, vs1, d1, ds1, p1, q1, rfl, rfl, rfl, h1, r1⟩ := trodAll_cons r0
  obtain ⟨rfl, rfl, rfl⟩ := trodAll_nil r1
  obtain rfl : args = #[v0, v1] := by cases args; simp_all
  obtain ⟨rfl, rfl⟩ := trodVars_none hV
  obtain ⟨n0, A0, xs0, c0, rfl, bd0, hx0, hr0, bf0⟩ := open_chain (hval 0 _ _ rfl rfl) h0
  obtain ⟨A1, xs1, c1, rfl, hx1, hr1, bf1⟩ := open_fl h1 (okWide_slice Try.underlying22 (hval 1 _ _ rfl rfl))
  clear hA0 hval0
  refine (walk n0 A0 xs0 c0 A1 xs1 c1 W hr0 hx0 bd0 bf0 hr1 hx1 bf1).mono fun e W' ⟨he, hb⟩ => ?_
  subst he
  rw [List.append_nil] at hW' hlt
  exact ⟨_, rfl, post_of_below (pa := _) (pv := []) hW' (fun _ _ _ => (trodAll_cons_mk (shut_bool Try.underlying4 _) trodAll_mk0))
    (fun sp hsp => trodAll_below cl_laid hb _ _ _ _ (by kernel_rfl) hA1 hlt hsp) (fun _ _ => rfl) (List.append_nil _).symm hb (ok_one (by kernel_rfl) rfl (okWide_bool_mk Try.underlying4 _))⟩

theorem g0 : Try.prog.funcNamed Rows.fnExactBalanceMissRow.func = some 8 := by kernel_rfl
theorem g1 : Rows.fnExactBalanceMissRow.inPlace = Try.prog.inPlace 8 := by kernel_rfl
theorem g2 : Rows.fnExactBalanceMissRow.unfollowed = Try.prog.unfollowed 8 := by kernel_rfl
theorem g3 : Rows.fnExactBalanceMissRow.recurses = Try.prog.recurses 8 := by kernel_rfl
theorem g4 : Rows.fnExactBalanceMissRow.named = Try.prog.varsNamed 8 := by kernel_rfl
theorem g5 : Rows.fnExactBalanceMissRow.wf (OpenSpec.ofChange Rows.fnExactBalanceMissSpec) = true := by kernel_rfl
theorem g6 : (Try.f8.params.all (Try.prog.readableRec ·)) = true := by kernel_rfl
theorem g7 : Rows.fnExactBalanceMissRow.veiledFits Try.prog Try.f8.params.toList (Try.f8.params.toList ++ Try.f8.resultTypes.toList) = true := by kernel_rfl
theorem g8 : joinedFacts Try.prog 8 Try.f8 Rows.fnExactBalanceMissSpec Rows.fnExactBalanceMissRow = true :=
  gen_facts _ _ _ _ rfl rfl cl_laid cl_maps cl_stops cl_knobs cl_heard cl_enter cl_lifts cl_make g5 g6 rfl rfl rfl g1 g2 g3 g4
    (by as_aux_lemma => kernel_rfl) (by as_aux_lemma => kernel_rfl) (by as_aux_lemma => kernel_rfl) (by as_aux_lemma => kernel_rfl) (by as_aux_lemma => kernel_rfl) (by as_aux_lemma => kernel_rfl) (by as_aux_lemma => kernel_rfl) (by as_aux_lemma => kernel_rfl)
    cl_keys.symm rfl rfl rfl rfl rfl (by as_aux_lemma => kernel_rfl) (by as_aux_lemma => kernel_rfl) g7
theorem g9 : Try.f8.isInstance Try.prog Rows.fnExactBalanceMissRow.origin Rows.fnExactBalanceMissRow.targs := of_decide_eq_true (by kernel_rfl)
theorem g10 : Try.f8.isWrapper Try.prog Rows.fnExactBalanceMissRow.wrapper Rows.fnExactBalanceMissRow.mainSum := by
  unfold Func.isWrapper; first | (rw [if_pos (by decide +kernel)]; kernel_rfl) | (rw [if_neg (by decide +kernel)]; exact ⟨rfl, rfl⟩)
theorem over : Rows.fnExactBalanceMissRow.holds Try.pinned (OpenSpec.ofChange Rows.fnExactBalanceMissSpec) :=
  OpenClaim.holds_of_wide 8 Try.f8 rfl rfl rfl rfl rfl rfl rfl ⟨rfl, rfl, rfl, rfl, rfl⟩ rfl rfl rfl rfl rfl g0 Try.func8 g8 g9 g10 (fun os started H enc _ => lifted os started H enc)
theorem proved : Rows.FnExactBalanceMissSaid := over
end Go.Proofs.Ytddaodjaeommlaa.lawBalanceMiss
