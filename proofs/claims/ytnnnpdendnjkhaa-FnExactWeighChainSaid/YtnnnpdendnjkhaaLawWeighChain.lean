/-
  impl.WeighChain returns what spec.WeighChain returns, for every chain and row of weights (the law FnExactWeighChain returns true), in memory of its own where it gives a slice, and leaves its arguments as they were. No condition.
-/
import Derived.Test.YtnnnpdendnjkhaaWe5
import Derived.Test.YtnnnpdendnjkhaaToi
import Derived.Test.YtnnnpdendnjkhaaOpen
import Derived.Test.YtnnnpdendnjkhaaGive
import Derived.Deep.RegionHeld3
import Derived.Deep.DeepCutAuto
namespace Go.Proofs.Ytnnnpdendnjkhaa.lawWeighChain
open Go.ChangeShapes Go.WideShapes Go.ChangeAt Go.RowKit

theorem both (n0 : Int) (xs0 : List Nat) (xs1 : List Nat) (hx0 : xs0.length ≤ 9223372036854775807) (bd0 : -9223372036854775808 ≤ n0 ∧ n0 ≤ 9223372036854775807) (bf0 : ∀ x ∈ xs0, x < 4294967296) (hx1 : xs1.length ≤ 9223372036854775807) (bf1 : ∀ x ∈ xs1, x < 4294967296) : ∃ (sd : Int) (ys : List Nat) (ok : Bool), ys.length ≤ 1048576 ∧ (∀ A50 c50 A51 c51 w, Rd w w.heap.size A50 (fl xs0) → Rd w w.heap.size A51 (fl xs1) → Calls Try.prog 17 #[.agg #[.int .i64 n0, .slice A50 xs0.length c50], .slice A51 xs1.length c51] w (fun e w' => ∃ A c, e = .returned (.tuple #[.agg #[.int .i64 sd, .slice A ys.length c], .bool ok]) ∧ w'.ownsRow w.heap.size 42 1 (.slice A ys.length c) ys.length (fl ys) ∧ Below w.heap.size w w')) ∧
    (∀ A50 A51 w, Rd w w.heap.size A50 (fl xs0) → Rd w w.heap.size A51 (fl xs1) → Calls Try.prog 19 #[.agg #[.int .i64 n0, .slice A50 xs0.length xs0.length], .slice A51 xs1.length xs1.length] w (fun e w' => ∃ A c, e = .returned (.tuple #[.agg #[.int .i64 sd, .slice A ys.length c], .bool ok]) ∧ w'.ownsRow w.heap.size 42 1 (.slice A ys.length c) ys.length (fl ys) ∧ Below w.heap.size w w')) := by
  have _uhx0 := hx0
  have _ubd0 := bd0
  have _ubf0 := bf0
  have _uhx1 := hx1
  have _ubf1 := bf1
  have hz : xs0.length ≤ xs0.length := Nat.le_refl _
  cases h : bkB n0 xs0 xs1 with
  | false => exact ⟨0, [], false, by simp, fun A c B d w hA hB => specWeighChain_bad n0 A xs0 c B xs1 d w hx0 hx1 hA hB h, fun A B w hA hB => WeighChain_bad n0 A xs0 xs0.length B xs1 xs1.length w hz hx0 hx1 hA hB h⟩
  | true =>
    have h' := h
    unfold bkB at h'
    rw [Bool.and_eq_true] at h'
    obtain ⟨n, rfl, h1, h2, -⟩ := fitB_facts h'.1
    refine ⟨_, _, _, ?_, fun A c B d w hA hB => specWeighChain_ok n A xs0 c B xs1 d w hx0 hA hB h, fun A B w hA hB => WeighChain_ok n A xs0 xs0.length B xs1 xs1.length w hz hx0 hA hB h⟩
    unfold stepsOf
    have h5 : n * n ≤ 144 := Nat.mul_le_mul h2 h2
    split
    · rw [tab_len]; omega
    · simp

set_option maxRecDepth 100000 in
set_option maxHeartbeats 12800000 in
theorem walk (n0 : Int) (A0 : Option Addr) (xs0 : List Nat) (c0 : Nat) (A1 : Option Addr) (xs1 : List Nat) (c1 : Nat) (w : World) (h0 : Rd w w.heap.size A0 (fl xs0))  (hx0 : xs0.length ≤ 9223372036854775807) (bd0 : -9223372036854775808 ≤ n0 ∧ n0 ≤ 9223372036854775807) (bf0 : ∀ x ∈ xs0, x < 4294967296) (h1 : Rd w w.heap.size A1 (fl xs1))  (hx1 : xs1.length ≤ 9223372036854775807) (bf1 : ∀ x ∈ xs1, x < 4294967296) :
    Calls Try.prog 4 #[.agg #[.int .i64 n0, .slice A0 xs0.length c0], .slice A1 xs1.length c1] w fun e w' => e = .returned (.bool true) ∧ Below w.heap.size w w' := by
  by_cases hq1 : 1048576 < xs1.length
  · clear bd0 bf0 bf1
    go_enter Try.func4, Try.ntmps4
    go_wp2
    go_ret
    exact ⟨rfl, Below.alloc (Below.refl _ _) (by simp; try omega) _⟩
  have hy1 : xs1.length ≤ 1048576 := by omega
  clear hq1
  have HZ0 := Lib.hid fun w => szChain_any n0 A0 xs0.length c0 (1048576) w hx0 (by omega) (by omega)
  by_cases hl0 : (1048576 : Int) - (xs0.length : Int) < 0
  · have HL0 : Hid (leftOf (1048576) xs0.length = -1) := if_pos hl0
    clear hl0 bd0 bf0 bf1
    go_enter Try.func4, Try.ntmps4
    go_wp2_with fail
    refine (HZ0.out _).mono ?_
    rw [HL0.out]
    rintro e v0 ⟨rfl, hv0⟩
    have hu0 : Below w.heap.size w v0 := Below.trans (Below.alloc (Below.refl _ _) (by simp; try omega) _) (hv0.mono (by simp; try omega))
    have cc00 : v0.cell? ⟨w.heap.size, 0, none⟩ = some (.int .i64 n0) := keepC hv0 (by simp [go_sem])
    have cc01 : v0.cell? ⟨w.heap.size, 1, none⟩ = some (.slice A0 xs0.length c0) := keepC hv0 (by simp [go_sem])
    clear hv0
    go_wp2_with fail
    go_ret
    exact ⟨rfl, hu0⟩
  have HL0 : Hid (leftOf (1048576) xs0.length = 1048576 - xs0.length) := if_neg hl0
  have hy0 : xs0.length ≤ 1048576 := by omega
  obtain ⟨sd, ys, ok, hm, HS0, HI0⟩ := both n0 xs0 xs1 hx0 bd0 bf0 hx1 bf1
  have HS := Lib.hid HS0
  have HI := Lib.hid HI0
  clear HS0 HI0
  have HT0 := Lib.hid fun w h => toChain_any n0 A0 xs0 c0 w hy0 h
  have HX0 := Lib.hid fun A B c d w hA hB => eqChain_yes n0 A B xs0 xs0 c d w (by omega) (sameL_refl xs0) hA hB
  have HT1 := Lib.hid fun w h => toFloat32S_any A1 xs1 c1 w hy1 h
  have HX1 := Lib.hid fun A B c d w hA hB => eqFloat32S_yes A B xs1 xs1 c d w (by omega) (sameL_refl xs1) hA hB
  have HMx0 := Lib.hid fun A base c w hb ho => markChain_any n0 A base xs0.length (fl xs0) c (1) w hy0 (by omega) (by omega) hb ho
  have HMx1 := Lib.hid fun A base c w ho => markFloat32S_any A base xs1.length (fl xs1) c (1 + (xs0.length : Int)) w hy1 (by omega) (by omega) ho
  have HE := Lib.hid fun A B c d w hA hB => eqChain_yes sd A B ys ys c d w (by omega) (sameL_refl ys) hA hB
  have HM := Lib.hid fun A base c w hb ho => markChain_any sd A base ys.length (fl ys) c 1 w hm (by omega) (by omega) hb ho
  have HH := Lib.hid fun A c w hr => heldChain_any sd A ys.length c 1 w hm (by omega) (by omega) hr
  clear bd0 bf0 bf1
  have HBw : Hid (Below w.heap.size w w) := Lib.hid (Below.refl _ _)
  go_enter Try.func4, Try.ntmps4
  go_wp2_with fail
  generalize hWw1 : World.alloc w _ = w1
  have hbw1 : Below w.heap.size w w1 := by rw [← hWw1]; exact Below.alloc (Below.refl _ _) (by simp; try omega) _
  have sw1 : w.heap.size + 1 ≤ w1.heap.size := by rw [← hWw1]; simp
  have ba00_w1 : w1.cell? ⟨w.heap.size, 0, none⟩ = some (.int .i64 n0) := by rw [← hWw1]; simp [go_sem]
  have ba01_w1 : w1.cell? ⟨w.heap.size, 1, none⟩ = some (.slice A0 xs0.length c0) := by rw [← hWw1]; simp [go_sem]
  have HBw1 : Hid (Below w.heap.size w w1) := Lib.hid (HBw.out.trans (hbw1.mono HBw.out.size))
  clear HBw hWw1 hbw1
  have lb0w1 : w.heap.size < w1.heap.size := by omega
  refine (HZ0.out _).mono ?_
  rw [HL0.out]
  rintro e w2 ⟨rfl, hbw2⟩
  have lb0w2 : w.heap.size < w2.heap.size := by have := hbw2.size; omega
  have ba00_w2 : w2.cell? ⟨w.heap.size, 0, none⟩ = some (.int .i64 n0) := keepC hbw2 ba00_w1
  have ba01_w2 : w2.cell? ⟨w.heap.size, 1, none⟩ = some (.slice A0 xs0.length c0) := keepC hbw2 ba01_w1
  have HBw2 : Hid (Below w.heap.size w w2) := Lib.hid (HBw1.out.trans (hbw2.mono HBw1.out.size))
  have zw2 : w.heap.size + 1 ≤ w2.heap.size := by have := hbw2.size; omega
  clear lb0w1 ba00_w1 ba01_w1 HBw1 hbw2
  go_wp2_with fail
  refine (HT0.out _ (h0.at_ HBw2.out)).mono ?_
  rintro e w3 ⟨A3, rfl, hownw3, hbw3⟩
  have OLtW0 : Hid (∀ k, (Value.slice A3 xs0.length xs0.length).ownBlock = some k → w2.heap.size ≤ k ∧ k < w3.heap.size) := Lib.hid hownw3.lt
  have OWtW0w3 := Lib.hid hownw3
  have rw3 : w2.heap.size ≤ w3.heap.size := hbw3.size
  have lb0w3 : w.heap.size < w3.heap.size := by have := hbw3.size; omega
  have ba00_w3 : w3.cell? ⟨w.heap.size, 0, none⟩ = some (.int .i64 n0) := keepC hbw3 ba00_w2
  have ba01_w3 : w3.cell? ⟨w.heap.size, 1, none⟩ = some (.slice A0 xs0.length c0) := keepC hbw3 ba01_w2
  have HBw3 : Hid (Below w.heap.size w w3) := Lib.hid (HBw2.out.trans (hbw3.mono HBw2.out.size))
  clear lb0w2 ba00_w2 ba01_w2 HBw2 hbw3 hownw3
  go_wp2_with fail
  refine (HT1.out _ (h1.at_ HBw3.out)).mono ?_
  rintro e w4 ⟨A4, rfl, hownw4, hbw4⟩
  have OLtW1 : Hid (∀ k, (Value.slice A4 xs1.length xs1.length).ownBlock = some k → w3.heap.size ≤ k ∧ k < w4.heap.size) := Lib.hid hownw4.lt
  have OWtW1w4 := Lib.hid hownw4
  have rw4 : w3.heap.size ≤ w4.heap.size := hbw4.size
  have lb0w4 : w.heap.size < w4.heap.size := by have := hbw4.size; omega
  have ba00_w4 : w4.cell? ⟨w.heap.size, 0, none⟩ = some (.int .i64 n0) := keepC hbw4 ba00_w3
  have ba01_w4 : w4.cell? ⟨w.heap.size, 1, none⟩ = some (.slice A0 xs0.length c0) := keepC hbw4 ba01_w3
  have OWtW0w4 := Lib.hid (own_below OWtW0w3.out hbw4)
  have HBw4 : Hid (Below w.heap.size w w4) := Lib.hid (HBw3.out.trans (hbw4.mono HBw3.out.size))
  clear lb0w3 ba00_w3 ba01_w3 OWtW0w3 HBw3 hbw4 hownw4
  go_wp2_with fail
  refine (HS.out A3 _ A4 _ _ (Rd.of_own OWtW0w4.out) (Rd.of_own OWtW1w4.out)).mono ?_
  rintro e w5 ⟨A5, c5, rfl, hownw5, hbw5⟩
  have OLW : Hid (∀ k, (Value.slice A5 ys.length c5).ownBlock = some k → w4.heap.size ≤ k ∧ k < w5.heap.size) := Lib.hid hownw5.lt
  have OWWw5 := Lib.hid hownw5
  have rw5 : w4.heap.size ≤ w5.heap.size := hbw5.size
  have lb0w5 : w.heap.size < w5.heap.size := by have := hbw5.size; omega
  have ba00_w5 : w5.cell? ⟨w.heap.size, 0, none⟩ = some (.int .i64 n0) := keepC hbw5 ba00_w4
  have ba01_w5 : w5.cell? ⟨w.heap.size, 1, none⟩ = some (.slice A0 xs0.length c0) := keepC hbw5 ba01_w4
  have OWtW0w5 := Lib.hid (own_below OWtW0w4.out hbw5)
  have OWtW1w5 := Lib.hid (own_below OWtW1w4.out hbw5)
  have HBw5 : Hid (Below w.heap.size w w5) := Lib.hid (HBw4.out.trans (hbw5.mono HBw4.out.size))
  clear lb0w4 ba00_w4 ba01_w4 OWtW0w4 OWtW1w4 HBw4 hbw5 hownw5
  clear OWtW0w5 OLtW0
  clear OWtW1w5 OLtW1
  go_wp2_with fail
  generalize hWw6 : World.alloc w5 _ = w6
  have hbw6 : Below w5.heap.size w5 w6 := by rw [← hWw6]; exact Below.alloc (Below.refl _ _) (by simp; try omega) _
  have sw6 : w5.heap.size + 1 ≤ w6.heap.size := by rw [← hWw6]; simp
  have bW00_w6 : w6.cell? ⟨w5.heap.size, 0, none⟩ = some (.int .i64 sd) := by rw [← hWw6]; simp [go_sem]
  have bW01_w6 : w6.cell? ⟨w5.heap.size, 1, none⟩ = some (.slice A5 ys.length c5) := by rw [← hWw6]; simp [go_sem]
  have lb0w6 : w.heap.size < w6.heap.size := by have := hbw6.size; omega
  have ba00_w6 : w6.cell? ⟨w.heap.size, 0, none⟩ = some (.int .i64 n0) := keepC hbw6 ba00_w5
  have ba01_w6 : w6.cell? ⟨w.heap.size, 1, none⟩ = some (.slice A0 xs0.length c0) := keepC hbw6 ba01_w5
  have OWWw6 := Lib.hid (own_below OWWw5.out hbw6)
  have HBw6 : Hid (Below w.heap.size w w6) := Lib.hid (HBw5.out.trans (hbw6.mono HBw5.out.size))
  clear lb0w5 ba00_w5 ba01_w5 OWWw5 HBw5 hWw6 hbw6
  have lb1w6 : w5.heap.size < w6.heap.size := by omega
  refine (HT0.out _ (h0.at_ HBw6.out)).mono ?_
  rintro e w7 ⟨A7, rfl, hownw7, hbw7⟩
  have OLX0 : Hid (∀ k, (Value.slice A7 xs0.length xs0.length).ownBlock = some k → w6.heap.size ≤ k ∧ k < w7.heap.size) := Lib.hid hownw7.lt
  have OWX0w7 := Lib.hid hownw7
  have rw7 : w6.heap.size ≤ w7.heap.size := hbw7.size
  have lb0w7 : w.heap.size < w7.heap.size := by have := hbw7.size; omega
  have lb1w7 : w5.heap.size < w7.heap.size := by have := hbw7.size; omega
  have ba00_w7 : w7.cell? ⟨w.heap.size, 0, none⟩ = some (.int .i64 n0) := keepC hbw7 ba00_w6
  have ba01_w7 : w7.cell? ⟨w.heap.size, 1, none⟩ = some (.slice A0 xs0.length c0) := keepC hbw7 ba01_w6
  have bW00_w7 : w7.cell? ⟨w5.heap.size, 0, none⟩ = some (.int .i64 sd) := keepC hbw7 bW00_w6
  have bW01_w7 : w7.cell? ⟨w5.heap.size, 1, none⟩ = some (.slice A5 ys.length c5) := keepC hbw7 bW01_w6
  have OWWw7 := Lib.hid (own_below OWWw6.out hbw7)
  have HBw7 : Hid (Below w.heap.size w w7) := Lib.hid (HBw6.out.trans (hbw7.mono HBw6.out.size))
  clear lb0w6 lb1w6 ba00_w6 ba01_w6 bW00_w6 bW01_w6 OWWw6 HBw6 hbw7 hownw7
  go_wp2_with fail
  generalize hWw8 : World.alloc w7 _ = w8
  have hbw8 : Below w7.heap.size w7 w8 := by rw [← hWw8]; exact Below.alloc (Below.refl _ _) (by simp; try omega) _
  have sw8 : w7.heap.size + 1 ≤ w8.heap.size := by rw [← hWw8]; simp
  have bx000_w8 : w8.cell? ⟨w7.heap.size, 0, none⟩ = some (.int .i64 n0) := by rw [← hWw8]; simp [go_sem]
  have bx001_w8 : w8.cell? ⟨w7.heap.size, 1, none⟩ = some (.slice A7 xs0.length xs0.length) := by rw [← hWw8]; simp [go_sem]
  have lb0w8 : w.heap.size < w8.heap.size := by have := hbw8.size; omega
  have lb1w8 : w5.heap.size < w8.heap.size := by have := hbw8.size; omega
  have ba00_w8 : w8.cell? ⟨w.heap.size, 0, none⟩ = some (.int .i64 n0) := keepC hbw8 ba00_w7
  have ba01_w8 : w8.cell? ⟨w.heap.size, 1, none⟩ = some (.slice A0 xs0.length c0) := keepC hbw8 ba01_w7
  have bW00_w8 : w8.cell? ⟨w5.heap.size, 0, none⟩ = some (.int .i64 sd) := keepC hbw8 bW00_w7
  have bW01_w8 : w8.cell? ⟨w5.heap.size, 1, none⟩ = some (.slice A5 ys.length c5) := keepC hbw8 bW01_w7
  have OWWw8 := Lib.hid (own_below OWWw7.out hbw8)
  have OWX0w8 := Lib.hid (own_below OWX0w7.out hbw8)
  have HBw8 : Hid (Below w.heap.size w w8) := Lib.hid (HBw7.out.trans (hbw8.mono HBw7.out.size))
  clear lb0w7 lb1w7 ba00_w7 ba01_w7 bW00_w7 bW01_w7 OWWw7 OWX0w7 HBw7 hWw8 hbw8
  have lb2w8 : w7.heap.size < w8.heap.size := by omega
  refine (HT1.out _ (h1.at_ HBw8.out)).mono ?_
  rintro e w9 ⟨A9, rfl, hownw9, hbw9⟩
  have OLX1 : Hid (∀ k, (Value.slice A9 xs1.length xs1.length).ownBlock = some k → w8.heap.size ≤ k ∧ k < w9.heap.size) := Lib.hid hownw9.lt
  have OWX1w9 := Lib.hid hownw9
  have rw9 : w8.heap.size ≤ w9.heap.size := hbw9.size
  have lb0w9 : w.heap.size < w9.heap.size := by have := hbw9.size; omega
  have lb1w9 : w5.heap.size < w9.heap.size := by have := hbw9.size; omega
  have lb2w9 : w7.heap.size < w9.heap.size := by have := hbw9.size; omega
  have ba00_w9 : w9.cell? ⟨w.heap.size, 0, none⟩ = some (.int .i64 n0) := keepC hbw9 ba00_w8
  have ba01_w9 : w9.cell? ⟨w.heap.size, 1, none⟩ = some (.slice A0 xs0.length c0) := keepC hbw9 ba01_w8
  have bW00_w9 : w9.cell? ⟨w5.heap.size, 0, none⟩ = some (.int .i64 sd) := keepC hbw9 bW00_w8
  have bW01_w9 : w9.cell? ⟨w5.heap.size, 1, none⟩ = some (.slice A5 ys.length c5) := keepC hbw9 bW01_w8
  have bx000_w9 : w9.cell? ⟨w7.heap.size, 0, none⟩ = some (.int .i64 n0) := keepC hbw9 bx000_w8
  have bx001_w9 : w9.cell? ⟨w7.heap.size, 1, none⟩ = some (.slice A7 xs0.length xs0.length) := keepC hbw9 bx001_w8
  have OWWw9 := Lib.hid (own_below OWWw8.out hbw9)
  have OWX0w9 := Lib.hid (own_below OWX0w8.out hbw9)
  have HBw9 : Hid (Below w.heap.size w w9) := Lib.hid (HBw8.out.trans (hbw9.mono HBw8.out.size))
  clear lb0w8 lb1w8 lb2w8 ba00_w8 ba01_w8 bW00_w8 bW01_w8 bx000_w8 bx001_w8 OWWw8 OWX0w8 HBw8 hbw9 hownw9
  go_wp2_with fail
  refine (HI.out A7 A9 _ (Rd.of_own OWX0w9.out) (Rd.of_own OWX1w9.out)).mono ?_
  rintro e w10 ⟨A10, c10, rfl, hownw10, hbw10⟩
  have OLG : Hid (∀ k, (Value.slice A10 ys.length c10).ownBlock = some k → w9.heap.size ≤ k ∧ k < w10.heap.size) := Lib.hid hownw10.lt
  have OWGw10 := Lib.hid hownw10
  have rw10 : w9.heap.size ≤ w10.heap.size := hbw10.size
  have lb0w10 : w.heap.size < w10.heap.size := by have := hbw10.size; omega
  have lb1w10 : w5.heap.size < w10.heap.size := by have := hbw10.size; omega
  have lb2w10 : w7.heap.size < w10.heap.size := by have := hbw10.size; omega
  have ba00_w10 : w10.cell? ⟨w.heap.size, 0, none⟩ = some (.int .i64 n0) := keepC hbw10 ba00_w9
  have ba01_w10 : w10.cell? ⟨w.heap.size, 1, none⟩ = some (.slice A0 xs0.length c0) := keepC hbw10 ba01_w9
  have bW00_w10 : w10.cell? ⟨w5.heap.size, 0, none⟩ = some (.int .i64 sd) := keepC hbw10 bW00_w9
  have bW01_w10 : w10.cell? ⟨w5.heap.size, 1, none⟩ = some (.slice A5 ys.length c5) := keepC hbw10 bW01_w9
  have bx000_w10 : w10.cell? ⟨w7.heap.size, 0, none⟩ = some (.int .i64 n0) := keepC hbw10 bx000_w9
  have bx001_w10 : w10.cell? ⟨w7.heap.size, 1, none⟩ = some (.slice A7 xs0.length xs0.length) := keepC hbw10 bx001_w9
  have OWWw10 := Lib.hid (own_below OWWw9.out hbw10)
  have OWX0w10 := Lib.hid (own_below OWX0w9.out hbw10)
  have OWX1w10 := Lib.hid (own_below OWX1w9.out hbw10)
  have HBw10 : Hid (Below w.heap.size w w10) := Lib.hid (HBw9.out.trans (hbw10.mono HBw9.out.size))
  clear lb0w9 lb1w9 lb2w9 ba00_w9 ba01_w9 bW00_w9 bW01_w9 bx000_w9 bx001_w9 OWWw9 OWX0w9 OWX1w9 HBw9 hbw10 hownw10
  go_wp2_with fail
  generalize hWw11 : World.alloc w10 _ = w11
  have hbw11 : Below w10.heap.size w10 w11 := by rw [← hWw11]; exact Below.alloc (Below.refl _ _) (by simp; try omega) _
  have sw11 : w10.heap.size + 1 ≤ w11.heap.size := by rw [← hWw11]; simp
  have bG00_w11 : w11.cell? ⟨w10.heap.size, 0, none⟩ = some (.int .i64 sd) := by rw [← hWw11]; simp [go_sem]
  have bG01_w11 : w11.cell? ⟨w10.heap.size, 1, none⟩ = some (.slice A10 ys.length c10) := by rw [← hWw11]; simp [go_sem]
  have lb0w11 : w.heap.size < w11.heap.size := by have := hbw11.size; omega
  have lb1w11 : w5.heap.size < w11.heap.size := by have := hbw11.size; omega
  have lb2w11 : w7.heap.size < w11.heap.size := by have := hbw11.size; omega
  have ba00_w11 : w11.cell? ⟨w.heap.size, 0, none⟩ = some (.int .i64 n0) := keepC hbw11 ba00_w10
  have ba01_w11 : w11.cell? ⟨w.heap.size, 1, none⟩ = some (.slice A0 xs0.length c0) := keepC hbw11 ba01_w10
  have bW00_w11 : w11.cell? ⟨w5.heap.size, 0, none⟩ = some (.int .i64 sd) := keepC hbw11 bW00_w10
  have bW01_w11 : w11.cell? ⟨w5.heap.size, 1, none⟩ = some (.slice A5 ys.length c5) := keepC hbw11 bW01_w10
  have bx000_w11 : w11.cell? ⟨w7.heap.size, 0, none⟩ = some (.int .i64 n0) := keepC hbw11 bx000_w10
  have bx001_w11 : w11.cell? ⟨w7.heap.size, 1, none⟩ = some (.slice A7 xs0.length xs0.length) := keepC hbw11 bx001_w10
  have OWWw11 := Lib.hid (own_below OWWw10.out hbw11)
  have OWX0w11 := Lib.hid (own_below OWX0w10.out hbw11)
  have OWX1w11 := Lib.hid (own_below OWX1w10.out hbw11)
  have OWGw11 := Lib.hid (own_below OWGw10.out hbw11)
  have HBw11 : Hid (Below w.heap.size w w11) := Lib.hid (HBw10.out.trans (hbw11.mono HBw10.out.size))
  clear lb0w10 lb1w10 lb2w10 ba00_w10 ba01_w10 bW00_w10 bW01_w10 bx000_w10 bx001_w10 OWWw10 OWX0w10 OWX1w10 OWGw10 HBw10 hWw11 hbw11
  have lb3w11 : w10.heap.size < w11.heap.size := by omega
  refine (HE.out A10 A5 c10 c5 _ (Rd.of_own OWGw11.out) (Rd.of_own OWWw11.out)).mono ?_
  rintro e w12 ⟨rfl, hbw12⟩
  have lb0w12 : w.heap.size < w12.heap.size := by have := hbw12.size; omega
  have lb1w12 : w5.heap.size < w12.heap.size := by have := hbw12.size; omega
  have lb2w12 : w7.heap.size < w12.heap.size := by have := hbw12.size; omega
  have lb3w12 : w10.heap.size < w12.heap.size := by have := hbw12.size; omega
  have ba00_w12 : w12.cell? ⟨w.heap.size, 0, none⟩ = some (.int .i64 n0) := keepC hbw12 ba00_w11
  have ba01_w12 : w12.cell? ⟨w.heap.size, 1, none⟩ = some (.slice A0 xs0.length c0) := keepC hbw12 ba01_w11
  have bW00_w12 : w12.cell? ⟨w5.heap.size, 0, none⟩ = some (.int .i64 sd) := keepC hbw12 bW00_w11
  have bW01_w12 : w12.cell? ⟨w5.heap.size, 1, none⟩ = some (.slice A5 ys.length c5) := keepC hbw12 bW01_w11
  have bx000_w12 : w12.cell? ⟨w7.heap.size, 0, none⟩ = some (.int .i64 n0) := keepC hbw12 bx000_w11
  have bx001_w12 : w12.cell? ⟨w7.heap.size, 1, none⟩ = some (.slice A7 xs0.length xs0.length) := keepC hbw12 bx001_w11
  have bG00_w12 : w12.cell? ⟨w10.heap.size, 0, none⟩ = some (.int .i64 sd) := keepC hbw12 bG00_w11
  have bG01_w12 : w12.cell? ⟨w10.heap.size, 1, none⟩ = some (.slice A10 ys.length c10) := keepC hbw12 bG01_w11
  have OWWw12 := Lib.hid (own_below OWWw11.out hbw12)
  have OWX0w12 := Lib.hid (own_below OWX0w11.out hbw12)
  have OWX1w12 := Lib.hid (own_below OWX1w11.out hbw12)
  have OWGw12 := Lib.hid (own_below OWGw11.out hbw12)
  have HBw12 : Hid (Below w.heap.size w w12) := Lib.hid (HBw11.out.trans (hbw12.mono HBw11.out.size))
  have zw12 : w10.heap.size + 1 ≤ w12.heap.size := by have := hbw12.size; omega
  clear lb0w11 lb1w11 lb2w11 lb3w11 ba00_w11 ba01_w11 bW00_w11 bW01_w11 bx000_w11 bx001_w11 bG00_w11 bG01_w11 OWWw11 OWX0w11 OWX1w11 OWGw11 HBw11 hbw12
  go_wp2_with fail
  have hMk : Hid (∀ W, Below w12.heap.size w12 W → W.cell? ⟨w.heap.size, 0, none⟩ = some (.int .i64 n0) ∧ W.cell? ⟨w.heap.size, 1, none⟩ = some (.slice A0 xs0.length c0) ∧ W.cell? ⟨w5.heap.size, 0, none⟩ = some (.int .i64 sd) ∧ W.cell? ⟨w5.heap.size, 1, none⟩ = some (.slice A5 ys.length c5) ∧ W.cell? ⟨w7.heap.size, 0, none⟩ = some (.int .i64 n0) ∧ W.cell? ⟨w7.heap.size, 1, none⟩ = some (.slice A7 xs0.length xs0.length) ∧ W.cell? ⟨w10.heap.size, 0, none⟩ = some (.int .i64 sd) ∧ W.cell? ⟨w10.heap.size, 1, none⟩ = some (.slice A10 ys.length c10)) := Lib.hid fun W hW => ⟨keepC hW ba00_w12, keepC hW ba01_w12, keepC hW bW00_w12, keepC hW bW01_w12, keepC hW bx000_w12, keepC hW bx001_w12, keepC hW bG00_w12, keepC hW bG01_w12⟩
  go_region_held3 (fun W => W.cell? ⟨w.heap.size, 0, none⟩ = some (.int .i64 n0) ∧ W.cell? ⟨w.heap.size, 1, none⟩ = some (.slice A0 xs0.length c0) ∧ W.cell? ⟨w5.heap.size, 0, none⟩ = some (.int .i64 sd) ∧ W.cell? ⟨w5.heap.size, 1, none⟩ = some (.slice A5 ys.length c5) ∧ W.cell? ⟨w7.heap.size, 0, none⟩ = some (.int .i64 n0) ∧ W.cell? ⟨w7.heap.size, 1, none⟩ = some (.slice A7 xs0.length xs0.length) ∧ W.cell? ⟨w10.heap.size, 0, none⟩ = some (.int .i64 sd) ∧ W.cell? ⟨w10.heap.size, 1, none⟩ = some (.slice A10 ys.length c10))
    (first | exact hMk.out _ ((Below.refl _ _).drew) | exact hMk.out _ (by assumption))
    (first
      | (go_at_call 10; refine (HT0.out _ (h0.at_ HBw12.out.drew)).mono ?_; rintro e w13 ⟨A13, rfl, hownw13, hbw13⟩; have hkw13 : Below w12.heap.size w12 w13 := Below.trans (Below.refl _ _).drew hbw13)
      | (go_at_call 13; refine (HX0.out _ _ _ _ _ ((Rd.of_own OWX0w12.out).at_ hkw13) (Rd.of_own hownw13)).mono ?_; rintro e w14 ⟨rfl, hbw14⟩; have hkw14 : Below w12.heap.size w12 w14 := hkw13.trans (hbw14.mono hkw13.size)))
  obtain ⟨ba00_w14, ba01_w14, bW00_w14, bW01_w14, bx000_w14, bx001_w14, bG00_w14, bG01_w14⟩ := hMk.out _ hkw14
  have lb0w14 : w.heap.size < w14.heap.size := by have := hkw14.size; omega
  have lb1w14 : w5.heap.size < w14.heap.size := by have := hkw14.size; omega
  have lb2w14 : w7.heap.size < w14.heap.size := by have := hkw14.size; omega
  have lb3w14 : w10.heap.size < w14.heap.size := by have := hkw14.size; omega
  have OWWw14 := Lib.hid (own_below OWWw12.out hkw14)
  have OWX0w14 := Lib.hid (own_below OWX0w12.out hkw14)
  have OWX1w14 := Lib.hid (own_below OWX1w12.out hkw14)
  have OWGw14 := Lib.hid (own_below OWGw12.out hkw14)
  have HBw14 : Hid (Below w.heap.size w w14) := Lib.hid (HBw12.out.trans (hkw14.mono HBw12.out.size))
  have zw14 : w10.heap.size + 1 ≤ w14.heap.size := by have := hkw14.size; omega
  clear hMk ba00_w12 ba01_w12 bW00_w12 bW01_w12 bx000_w12 bx001_w12 bG00_w12 bG01_w12 hbw13 hkw13 hownw13 lb0w12 lb1w12 lb2w12 lb3w12 OWWw12 OWX0w12 OWX1w12 OWGw12 HBw12 zw12 hbw14 hkw14
  go_wp2_with fail
  refine (HT1.out _ (h1.at_ HBw14.out)).mono ?_
  rintro e w15 ⟨A15, rfl, hownw15, hbw15⟩
  have OLY : Hid (∀ k, (Value.slice A15 xs1.length xs1.length).ownBlock = some k → w14.heap.size ≤ k ∧ k < w15.heap.size) := Lib.hid hownw15.lt
  have OWYw15 := Lib.hid hownw15
  have rw15 : w14.heap.size ≤ w15.heap.size := hbw15.size
  have lb0w15 : w.heap.size < w15.heap.size := by have := hbw15.size; omega
  have lb1w15 : w5.heap.size < w15.heap.size := by have := hbw15.size; omega
  have lb2w15 : w7.heap.size < w15.heap.size := by have := hbw15.size; omega
  have lb3w15 : w10.heap.size < w15.heap.size := by have := hbw15.size; omega
  have ba00_w15 : w15.cell? ⟨w.heap.size, 0, none⟩ = some (.int .i64 n0) := keepC hbw15 ba00_w14
  have ba01_w15 : w15.cell? ⟨w.heap.size, 1, none⟩ = some (.slice A0 xs0.length c0) := keepC hbw15 ba01_w14
  have bW00_w15 : w15.cell? ⟨w5.heap.size, 0, none⟩ = some (.int .i64 sd) := keepC hbw15 bW00_w14
  have bW01_w15 : w15.cell? ⟨w5.heap.size, 1, none⟩ = some (.slice A5 ys.length c5) := keepC hbw15 bW01_w14
  have bx000_w15 : w15.cell? ⟨w7.heap.size, 0, none⟩ = some (.int .i64 n0) := keepC hbw15 bx000_w14
  have bx001_w15 : w15.cell? ⟨w7.heap.size, 1, none⟩ = some (.slice A7 xs0.length xs0.length) := keepC hbw15 bx001_w14
  have bG00_w15 : w15.cell? ⟨w10.heap.size, 0, none⟩ = some (.int .i64 sd) := keepC hbw15 bG00_w14
  have bG01_w15 : w15.cell? ⟨w10.heap.size, 1, none⟩ = some (.slice A10 ys.length c10) := keepC hbw15 bG01_w14
  have OWWw15 := Lib.hid (own_below OWWw14.out hbw15)
  have OWX0w15 := Lib.hid (own_below OWX0w14.out hbw15)
  have OWX1w15 := Lib.hid (own_below OWX1w14.out hbw15)
  have OWGw15 := Lib.hid (own_below OWGw14.out hbw15)
  have HBw15 : Hid (Below w.heap.size w w15) := Lib.hid (HBw14.out.trans (hbw15.mono HBw14.out.size))
  clear lb0w14 lb1w14 lb2w14 lb3w14 ba00_w14 ba01_w14 bW00_w14 bW01_w14 bx000_w14 bx001_w14 bG00_w14 bG01_w14 OWWw14 OWX0w14 OWX1w14 OWGw14 HBw14 hbw15 hownw15
  go_wp2_with fail
  refine (HX1.out A9 A15 _ _ _ (Rd.of_own OWX1w15.out) (Rd.of_own OWYw15.out)).mono ?_
  rintro e w16 hqw16
  obtain ⟨rfl, hbw16⟩ := hqw16.below
  have lb0w16 : w.heap.size < w16.heap.size := by have := hbw16.size; omega
  have lb1w16 : w5.heap.size < w16.heap.size := by have := hbw16.size; omega
  have lb2w16 : w7.heap.size < w16.heap.size := by have := hbw16.size; omega
  have lb3w16 : w10.heap.size < w16.heap.size := by have := hbw16.size; omega
  have ba00_w16 : w16.cell? ⟨w.heap.size, 0, none⟩ = some (.int .i64 n0) := keepC hbw16 ba00_w15
  have ba01_w16 : w16.cell? ⟨w.heap.size, 1, none⟩ = some (.slice A0 xs0.length c0) := keepC hbw16 ba01_w15
  have bW00_w16 : w16.cell? ⟨w5.heap.size, 0, none⟩ = some (.int .i64 sd) := keepC hbw16 bW00_w15
  have bW01_w16 : w16.cell? ⟨w5.heap.size, 1, none⟩ = some (.slice A5 ys.length c5) := keepC hbw16 bW01_w15
  have bx000_w16 : w16.cell? ⟨w7.heap.size, 0, none⟩ = some (.int .i64 n0) := keepC hbw16 bx000_w15
  have bx001_w16 : w16.cell? ⟨w7.heap.size, 1, none⟩ = some (.slice A7 xs0.length xs0.length) := keepC hbw16 bx001_w15
  have bG00_w16 : w16.cell? ⟨w10.heap.size, 0, none⟩ = some (.int .i64 sd) := keepC hbw16 bG00_w15
  have bG01_w16 : w16.cell? ⟨w10.heap.size, 1, none⟩ = some (.slice A10 ys.length c10) := keepC hbw16 bG01_w15
  have OWWw16 := Lib.hid (own_below OWWw15.out hbw16)
  have OWX0w16 := Lib.hid (own_below OWX0w15.out hbw16)
  have OWX1w16 := Lib.hid (own_below OWX1w15.out hbw16)
  have OWGw16 := Lib.hid (own_below OWGw15.out hbw16)
  have OWYw16 := Lib.hid (own_below OWYw15.out hbw16)
  have HBw16 : Hid (Below w.heap.size w w16) := Lib.hid (HBw15.out.trans (hbw16.mono HBw15.out.size))
  have zw16 : w15.heap.size ≤ w16.heap.size := by have := hbw16.size; omega
  clear lb0w15 lb1w15 lb2w15 lb3w15 ba00_w15 ba01_w15 bW00_w15 bW01_w15 bx000_w15 bx001_w15 bG00_w15 bG01_w15 OWWw15 OWX0w15 OWX1w15 OWGw15 OWYw15 HBw15 hbw16 hqw16
  clear OWYw16 OLY
  go_wp2_with fail
  refine (HMx0.out A7 _ _ w16 (by omega) OWX0w16.out).mono ?_
  rintro e w17 ⟨rfl, hownw17, hgw17⟩
  have ndw17 : ∀ k, (k < w6.heap.size ∨ w7.heap.size ≤ k) → some k ≠ (Value.slice A7 xs0.length xs0.length).ownBlock := fun k hk h => by have := OLX0.out _ h.symm; omega
  have lb0w17 : w.heap.size < w17.heap.size := by have := hgw17.size; omega
  have lb1w17 : w5.heap.size < w17.heap.size := by have := hgw17.size; omega
  have lb2w17 : w7.heap.size < w17.heap.size := by have := hgw17.size; omega
  have lb3w17 : w10.heap.size < w17.heap.size := by have := hgw17.size; omega
  have ba00_w17 : w17.cell? ⟨w.heap.size, 0, none⟩ = some (.int .i64 n0) := hgw17.cell ba00_w16 (ndw17 (w.heap.size) (by omega))
  have ba01_w17 : w17.cell? ⟨w.heap.size, 1, none⟩ = some (.slice A0 xs0.length c0) := hgw17.cell ba01_w16 (ndw17 (w.heap.size) (by omega))
  have bW00_w17 : w17.cell? ⟨w5.heap.size, 0, none⟩ = some (.int .i64 sd) := hgw17.cell bW00_w16 (ndw17 (w5.heap.size) (by omega))
  have bW01_w17 : w17.cell? ⟨w5.heap.size, 1, none⟩ = some (.slice A5 ys.length c5) := hgw17.cell bW01_w16 (ndw17 (w5.heap.size) (by omega))
  have bx000_w17 : w17.cell? ⟨w7.heap.size, 0, none⟩ = some (.int .i64 n0) := hgw17.cell bx000_w16 (ndw17 (w7.heap.size) (by omega))
  have bx001_w17 : w17.cell? ⟨w7.heap.size, 1, none⟩ = some (.slice A7 xs0.length xs0.length) := hgw17.cell bx001_w16 (ndw17 (w7.heap.size) (by omega))
  have bG00_w17 : w17.cell? ⟨w10.heap.size, 0, none⟩ = some (.int .i64 sd) := hgw17.cell bG00_w16 (ndw17 (w10.heap.size) (by omega))
  have bG01_w17 : w17.cell? ⟨w10.heap.size, 1, none⟩ = some (.slice A10 ys.length c10) := hgw17.cell bG01_w16 (ndw17 (w10.heap.size) (by omega))
  have OWWw17 := Lib.hid (OWWw16.out.kept hgw17 (by
    cases hv : (Value.slice A5 ys.length c5).ownBlock with
    | none => exact .inl rfl
    | some k => exact .inr (ndw17 k (by have := OLW.out k hv; omega))))
  have OWX0w17 := Lib.hid hownw17
  have OWX1w17 := Lib.hid (OWX1w16.out.kept hgw17 (by
    cases hv : (Value.slice A9 xs1.length xs1.length).ownBlock with
    | none => exact .inl rfl
    | some k => exact .inr (ndw17 k (by have := OLX1.out k hv; omega))))
  have OWGw17 := Lib.hid (OWGw16.out.kept hgw17 (by
    cases hv : (Value.slice A10 ys.length c10).ownBlock with
    | none => exact .inl rfl
    | some k => exact .inr (ndw17 k (by have := OLG.out k hv; omega))))
  have HBw17 : Hid (Below w.heap.size w w17) := Lib.hid (HBw16.out.grown hgw17 HBw16.out.size (fun k hk => by have := (OLX0.out k hk).1; have := HBw16.out.size; omega))
  have zw17 : w15.heap.size ≤ w17.heap.size := by have := hgw17.size; omega
  clear ndw17 hgw17 hownw17 lb0w16 lb1w16 lb2w16 lb3w16 ba00_w16 ba01_w16 bW00_w16 bW01_w16 bx000_w16 bx001_w16 bG00_w16 bG01_w16 OWWw16 OWX0w16 OWX1w16 OWGw16 HBw16 zw16
  go_wp2_with fail
  refine (HMx1.out A9 _ _ w17 OWX1w17.out).mono ?_
  rintro e w18 ⟨rfl, hownw18, hgw18⟩
  have ndw18 : ∀ k, (k < w8.heap.size ∨ w9.heap.size ≤ k) → some k ≠ (Value.slice A9 xs1.length xs1.length).ownBlock := fun k hk h => by have := OLX1.out _ h.symm; omega
  have lb0w18 : w.heap.size < w18.heap.size := by have := hgw18.size; omega
  have lb1w18 : w5.heap.size < w18.heap.size := by have := hgw18.size; omega
  have lb2w18 : w7.heap.size < w18.heap.size := by have := hgw18.size; omega
  have lb3w18 : w10.heap.size < w18.heap.size := by have := hgw18.size; omega
  have ba00_w18 : w18.cell? ⟨w.heap.size, 0, none⟩ = some (.int .i64 n0) := hgw18.cell ba00_w17 (ndw18 (w.heap.size) (by omega))
  have ba01_w18 : w18.cell? ⟨w.heap.size, 1, none⟩ = some (.slice A0 xs0.length c0) := hgw18.cell ba01_w17 (ndw18 (w.heap.size) (by omega))
  have bW00_w18 : w18.cell? ⟨w5.heap.size, 0, none⟩ = some (.int .i64 sd) := hgw18.cell bW00_w17 (ndw18 (w5.heap.size) (by omega))
  have bW01_w18 : w18.cell? ⟨w5.heap.size, 1, none⟩ = some (.slice A5 ys.length c5) := hgw18.cell bW01_w17 (ndw18 (w5.heap.size) (by omega))
  have bx000_w18 : w18.cell? ⟨w7.heap.size, 0, none⟩ = some (.int .i64 n0) := hgw18.cell bx000_w17 (ndw18 (w7.heap.size) (by omega))
  have bx001_w18 : w18.cell? ⟨w7.heap.size, 1, none⟩ = some (.slice A7 xs0.length xs0.length) := hgw18.cell bx001_w17 (ndw18 (w7.heap.size) (by omega))
  have bG00_w18 : w18.cell? ⟨w10.heap.size, 0, none⟩ = some (.int .i64 sd) := hgw18.cell bG00_w17 (ndw18 (w10.heap.size) (by omega))
  have bG01_w18 : w18.cell? ⟨w10.heap.size, 1, none⟩ = some (.slice A10 ys.length c10) := hgw18.cell bG01_w17 (ndw18 (w10.heap.size) (by omega))
  have OWWw18 := Lib.hid (OWWw17.out.kept hgw18 (by
    cases hv : (Value.slice A5 ys.length c5).ownBlock with
    | none => exact .inl rfl
    | some k => exact .inr (ndw18 k (by have := OLW.out k hv; omega))))
  have OWX0w18 := Lib.hid (OWX0w17.out.kept hgw18 (by
    cases hv : (Value.slice A7 xs0.length xs0.length).ownBlock with
    | none => exact .inl rfl
    | some k => exact .inr (ndw18 k (by have := OLX0.out k hv; omega))))
  have OWX1w18 := Lib.hid hownw18
  have OWGw18 := Lib.hid (OWGw17.out.kept hgw18 (by
    cases hv : (Value.slice A10 ys.length c10).ownBlock with
    | none => exact .inl rfl
    | some k => exact .inr (ndw18 k (by have := OLG.out k hv; omega))))
  have HBw18 : Hid (Below w.heap.size w w18) := Lib.hid (HBw17.out.grown hgw18 HBw17.out.size (fun k hk => by have := (OLX1.out k hk).1; have := HBw17.out.size; omega))
  have zw18 : w15.heap.size ≤ w18.heap.size := by have := hgw18.size; omega
  clear ndw18 hgw18 hownw18 lb0w17 lb1w17 lb2w17 lb3w17 ba00_w17 ba01_w17 bW00_w17 bW01_w17 bx000_w17 bx001_w17 bG00_w17 bG01_w17 OWWw17 OWX0w17 OWX1w17 OWGw17 HBw17 zw17
  go_wp2_with fail
  refine (HE.out A10 A5 c10 c5 _ (Rd.of_own OWGw18.out) (Rd.of_own OWWw18.out)).mono ?_
  rintro e w19 ⟨rfl, hbw19⟩
  have lb0w19 : w.heap.size < w19.heap.size := by have := hbw19.size; omega
  have lb1w19 : w5.heap.size < w19.heap.size := by have := hbw19.size; omega
  have lb2w19 : w7.heap.size < w19.heap.size := by have := hbw19.size; omega
  have lb3w19 : w10.heap.size < w19.heap.size := by have := hbw19.size; omega
  have ba00_w19 : w19.cell? ⟨w.heap.size, 0, none⟩ = some (.int .i64 n0) := keepC hbw19 ba00_w18
  have ba01_w19 : w19.cell? ⟨w.heap.size, 1, none⟩ = some (.slice A0 xs0.length c0) := keepC hbw19 ba01_w18
  have bW00_w19 : w19.cell? ⟨w5.heap.size, 0, none⟩ = some (.int .i64 sd) := keepC hbw19 bW00_w18
  have bW01_w19 : w19.cell? ⟨w5.heap.size, 1, none⟩ = some (.slice A5 ys.length c5) := keepC hbw19 bW01_w18
  have bx000_w19 : w19.cell? ⟨w7.heap.size, 0, none⟩ = some (.int .i64 n0) := keepC hbw19 bx000_w18
  have bx001_w19 : w19.cell? ⟨w7.heap.size, 1, none⟩ = some (.slice A7 xs0.length xs0.length) := keepC hbw19 bx001_w18
  have bG00_w19 : w19.cell? ⟨w10.heap.size, 0, none⟩ = some (.int .i64 sd) := keepC hbw19 bG00_w18
  have bG01_w19 : w19.cell? ⟨w10.heap.size, 1, none⟩ = some (.slice A10 ys.length c10) := keepC hbw19 bG01_w18
  have OWWw19 := Lib.hid (own_below OWWw18.out hbw19)
  have OWX0w19 := Lib.hid (own_below OWX0w18.out hbw19)
  have OWX1w19 := Lib.hid (own_below OWX1w18.out hbw19)
  have OWGw19 := Lib.hid (own_below OWGw18.out hbw19)
  have HBw19 : Hid (Below w.heap.size w w19) := Lib.hid (HBw18.out.trans (hbw19.mono HBw18.out.size))
  have zw19 : w15.heap.size ≤ w19.heap.size := by have := hbw19.size; omega
  clear lb0w18 lb1w18 lb2w18 lb3w18 ba00_w18 ba01_w18 bW00_w18 bW01_w18 bx000_w18 bx001_w18 bG00_w18 bG01_w18 OWWw18 OWX0w18 OWX1w18 OWGw18 HBw18 zw18 hbw19
  go_wp2_with fail
  refine (HM.out A10 _ _ w19 (by omega) OWGw19.out).mono ?_
  rintro e w20 ⟨rfl, hownw20, hgw20⟩
  have ndw20 : ∀ k, (k < w9.heap.size ∨ w10.heap.size ≤ k) → some k ≠ (Value.slice A10 ys.length c10).ownBlock := fun k hk h => by have := OLG.out _ h.symm; omega
  have lb0w20 : w.heap.size < w20.heap.size := by have := hgw20.size; omega
  have lb1w20 : w5.heap.size < w20.heap.size := by have := hgw20.size; omega
  have lb2w20 : w7.heap.size < w20.heap.size := by have := hgw20.size; omega
  have lb3w20 : w10.heap.size < w20.heap.size := by have := hgw20.size; omega
  have ba00_w20 : w20.cell? ⟨w.heap.size, 0, none⟩ = some (.int .i64 n0) := hgw20.cell ba00_w19 (ndw20 (w.heap.size) (by omega))
  have ba01_w20 : w20.cell? ⟨w.heap.size, 1, none⟩ = some (.slice A0 xs0.length c0) := hgw20.cell ba01_w19 (ndw20 (w.heap.size) (by omega))
  have bW00_w20 : w20.cell? ⟨w5.heap.size, 0, none⟩ = some (.int .i64 sd) := hgw20.cell bW00_w19 (ndw20 (w5.heap.size) (by omega))
  have bW01_w20 : w20.cell? ⟨w5.heap.size, 1, none⟩ = some (.slice A5 ys.length c5) := hgw20.cell bW01_w19 (ndw20 (w5.heap.size) (by omega))
  have bx000_w20 : w20.cell? ⟨w7.heap.size, 0, none⟩ = some (.int .i64 n0) := hgw20.cell bx000_w19 (ndw20 (w7.heap.size) (by omega))
  have bx001_w20 : w20.cell? ⟨w7.heap.size, 1, none⟩ = some (.slice A7 xs0.length xs0.length) := hgw20.cell bx001_w19 (ndw20 (w7.heap.size) (by omega))
  have bG00_w20 : w20.cell? ⟨w10.heap.size, 0, none⟩ = some (.int .i64 sd) := hgw20.cell bG00_w19 (ndw20 (w10.heap.size) (by omega))
  have bG01_w20 : w20.cell? ⟨w10.heap.size, 1, none⟩ = some (.slice A10 ys.length c10) := hgw20.cell bG01_w19 (ndw20 (w10.heap.size) (by omega))
  have OWWw20 := Lib.hid (OWWw19.out.kept hgw20 (by
    cases hv : (Value.slice A5 ys.length c5).ownBlock with
    | none => exact .inl rfl
    | some k => exact .inr (ndw20 k (by have := OLW.out k hv; omega))))
  have OWX0w20 := Lib.hid (OWX0w19.out.kept hgw20 (by
    cases hv : (Value.slice A7 xs0.length xs0.length).ownBlock with
    | none => exact .inl rfl
    | some k => exact .inr (ndw20 k (by have := OLX0.out k hv; omega))))
  have OWX1w20 := Lib.hid (OWX1w19.out.kept hgw20 (by
    cases hv : (Value.slice A9 xs1.length xs1.length).ownBlock with
    | none => exact .inl rfl
    | some k => exact .inr (ndw20 k (by have := OLX1.out k hv; omega))))
  have OWGw20 := Lib.hid hownw20
  have HBw20 : Hid (Below w.heap.size w w20) := Lib.hid (HBw19.out.grown hgw20 HBw19.out.size (fun k hk => by have := (OLG.out k hk).1; have := HBw19.out.size; omega))
  have zw20 : w15.heap.size ≤ w20.heap.size := by have := hgw20.size; omega
  clear ndw20 hgw20 hownw20 lb0w19 lb1w19 lb2w19 lb3w19 ba00_w19 ba01_w19 bW00_w19 bW01_w19 bx000_w19 bx001_w19 bG00_w19 bG01_w19 OWWw19 OWX0w19 OWX1w19 OWGw19 HBw19 zw19
  go_wp2_with fail
  refine (HH.out A10 c10 _ (Rd.of_own OWGw20.out)).mono ?_
  rintro e w21 ⟨rfl, hbw21⟩
  have lb0w21 : w.heap.size < w21.heap.size := by have := hbw21.size; omega
  have lb1w21 : w5.heap.size < w21.heap.size := by have := hbw21.size; omega
  have lb2w21 : w7.heap.size < w21.heap.size := by have := hbw21.size; omega
  have lb3w21 : w10.heap.size < w21.heap.size := by have := hbw21.size; omega
  have ba00_w21 : w21.cell? ⟨w.heap.size, 0, none⟩ = some (.int .i64 n0) := keepC hbw21 ba00_w20
  have ba01_w21 : w21.cell? ⟨w.heap.size, 1, none⟩ = some (.slice A0 xs0.length c0) := keepC hbw21 ba01_w20
  have bW00_w21 : w21.cell? ⟨w5.heap.size, 0, none⟩ = some (.int .i64 sd) := keepC hbw21 bW00_w20
  have bW01_w21 : w21.cell? ⟨w5.heap.size, 1, none⟩ = some (.slice A5 ys.length c5) := keepC hbw21 bW01_w20
  have bx000_w21 : w21.cell? ⟨w7.heap.size, 0, none⟩ = some (.int .i64 n0) := keepC hbw21 bx000_w20
  have bx001_w21 : w21.cell? ⟨w7.heap.size, 1, none⟩ = some (.slice A7 xs0.length xs0.length) := keepC hbw21 bx001_w20
  have bG00_w21 : w21.cell? ⟨w10.heap.size, 0, none⟩ = some (.int .i64 sd) := keepC hbw21 bG00_w20
  have bG01_w21 : w21.cell? ⟨w10.heap.size, 1, none⟩ = some (.slice A10 ys.length c10) := keepC hbw21 bG01_w20
  have OWWw21 := Lib.hid (own_below OWWw20.out hbw21)
  have OWX0w21 := Lib.hid (own_below OWX0w20.out hbw21)
  have OWX1w21 := Lib.hid (own_below OWX1w20.out hbw21)
  have OWGw21 := Lib.hid (own_below OWGw20.out hbw21)
  have HBw21 : Hid (Below w.heap.size w w21) := Lib.hid (HBw20.out.trans (hbw21.mono HBw20.out.size))
  have zw21 : w15.heap.size ≤ w21.heap.size := by have := hbw21.size; omega
  clear lb0w20 lb1w20 lb2w20 lb3w20 ba00_w20 ba01_w20 bW00_w20 bW01_w20 bx000_w20 bx001_w20 bG00_w20 bG01_w20 OWWw20 OWX0w20 OWX1w20 OWGw20 HBw20 zw20 hbw21
  go_wp2_with fail
  refine (HT0.out _ (h0.at_ HBw21.out)).mono ?_
  rintro e w22 ⟨A22, rfl, hownw22, hbw22⟩
  have OLtV0 : Hid (∀ k, (Value.slice A22 xs0.length xs0.length).ownBlock = some k → w21.heap.size ≤ k ∧ k < w22.heap.size) := Lib.hid hownw22.lt
  have OWtV0w22 := Lib.hid hownw22
  have rw22 : w21.heap.size ≤ w22.heap.size := hbw22.size
  have lb0w22 : w.heap.size < w22.heap.size := by have := hbw22.size; omega
  have lb1w22 : w5.heap.size < w22.heap.size := by have := hbw22.size; omega
  have lb2w22 : w7.heap.size < w22.heap.size := by have := hbw22.size; omega
  have lb3w22 : w10.heap.size < w22.heap.size := by have := hbw22.size; omega
  have ba00_w22 : w22.cell? ⟨w.heap.size, 0, none⟩ = some (.int .i64 n0) := keepC hbw22 ba00_w21
  have ba01_w22 : w22.cell? ⟨w.heap.size, 1, none⟩ = some (.slice A0 xs0.length c0) := keepC hbw22 ba01_w21
  have bW00_w22 : w22.cell? ⟨w5.heap.size, 0, none⟩ = some (.int .i64 sd) := keepC hbw22 bW00_w21
  have bW01_w22 : w22.cell? ⟨w5.heap.size, 1, none⟩ = some (.slice A5 ys.length c5) := keepC hbw22 bW01_w21
  have bx000_w22 : w22.cell? ⟨w7.heap.size, 0, none⟩ = some (.int .i64 n0) := keepC hbw22 bx000_w21
  have bx001_w22 : w22.cell? ⟨w7.heap.size, 1, none⟩ = some (.slice A7 xs0.length xs0.length) := keepC hbw22 bx001_w21
  have bG00_w22 : w22.cell? ⟨w10.heap.size, 0, none⟩ = some (.int .i64 sd) := keepC hbw22 bG00_w21
  have bG01_w22 : w22.cell? ⟨w10.heap.size, 1, none⟩ = some (.slice A10 ys.length c10) := keepC hbw22 bG01_w21
  have OWWw22 := Lib.hid (own_below OWWw21.out hbw22)
  have OWX0w22 := Lib.hid (own_below OWX0w21.out hbw22)
  have OWX1w22 := Lib.hid (own_below OWX1w21.out hbw22)
  have OWGw22 := Lib.hid (own_below OWGw21.out hbw22)
  have HBw22 : Hid (Below w.heap.size w w22) := Lib.hid (HBw21.out.trans (hbw22.mono HBw21.out.size))
  clear lb0w21 lb1w21 lb2w21 lb3w21 ba00_w21 ba01_w21 bW00_w21 bW01_w21 bx000_w21 bx001_w21 bG00_w21 bG01_w21 OWWw21 OWX0w21 OWX1w21 OWGw21 HBw21 hbw22 hownw22
  go_wp2_with fail
  refine (HT1.out _ (h1.at_ HBw22.out)).mono ?_
  rintro e w23 ⟨A23, rfl, hownw23, hbw23⟩
  have OLtV1 : Hid (∀ k, (Value.slice A23 xs1.length xs1.length).ownBlock = some k → w22.heap.size ≤ k ∧ k < w23.heap.size) := Lib.hid hownw23.lt
  have OWtV1w23 := Lib.hid hownw23
  have rw23 : w22.heap.size ≤ w23.heap.size := hbw23.size
  have lb0w23 : w.heap.size < w23.heap.size := by have := hbw23.size; omega
  have lb1w23 : w5.heap.size < w23.heap.size := by have := hbw23.size; omega
  have lb2w23 : w7.heap.size < w23.heap.size := by have := hbw23.size; omega
  have lb3w23 : w10.heap.size < w23.heap.size := by have := hbw23.size; omega
  have ba00_w23 : w23.cell? ⟨w.heap.size, 0, none⟩ = some (.int .i64 n0) := keepC hbw23 ba00_w22
  have ba01_w23 : w23.cell? ⟨w.heap.size, 1, none⟩ = some (.slice A0 xs0.length c0) := keepC hbw23 ba01_w22
  have bW00_w23 : w23.cell? ⟨w5.heap.size, 0, none⟩ = some (.int .i64 sd) := keepC hbw23 bW00_w22
  have bW01_w23 : w23.cell? ⟨w5.heap.size, 1, none⟩ = some (.slice A5 ys.length c5) := keepC hbw23 bW01_w22
  have bx000_w23 : w23.cell? ⟨w7.heap.size, 0, none⟩ = some (.int .i64 n0) := keepC hbw23 bx000_w22
  have bx001_w23 : w23.cell? ⟨w7.heap.size, 1, none⟩ = some (.slice A7 xs0.length xs0.length) := keepC hbw23 bx001_w22
  have bG00_w23 : w23.cell? ⟨w10.heap.size, 0, none⟩ = some (.int .i64 sd) := keepC hbw23 bG00_w22
  have bG01_w23 : w23.cell? ⟨w10.heap.size, 1, none⟩ = some (.slice A10 ys.length c10) := keepC hbw23 bG01_w22
  have OWWw23 := Lib.hid (own_below OWWw22.out hbw23)
  have OWX0w23 := Lib.hid (own_below OWX0w22.out hbw23)
  have OWX1w23 := Lib.hid (own_below OWX1w22.out hbw23)
  have OWGw23 := Lib.hid (own_below OWGw22.out hbw23)
  have OWtV0w23 := Lib.hid (own_below OWtV0w22.out hbw23)
  have HBw23 : Hid (Below w.heap.size w w23) := Lib.hid (HBw22.out.trans (hbw23.mono HBw22.out.size))
  clear lb0w22 lb1w22 lb2w22 lb3w22 ba00_w22 ba01_w22 bW00_w22 bW01_w22 bx000_w22 bx001_w22 bG00_w22 bG01_w22 OWWw22 OWX0w22 OWX1w22 OWGw22 OWtV0w22 HBw22 hbw23 hownw23
  go_wp2_with fail
  refine (HI.out A22 A23 _ (Rd.of_own OWtV0w23.out) (Rd.of_own OWtV1w23.out)).mono ?_
  rintro e w24 ⟨A24, c24, rfl, hownw24, hbw24⟩
  have OLV : Hid (∀ k, (Value.slice A24 ys.length c24).ownBlock = some k → w23.heap.size ≤ k ∧ k < w24.heap.size) := Lib.hid hownw24.lt
  have OWVw24 := Lib.hid hownw24
  have rw24 : w23.heap.size ≤ w24.heap.size := hbw24.size
  have lb0w24 : w.heap.size < w24.heap.size := by have := hbw24.size; omega
  have lb1w24 : w5.heap.size < w24.heap.size := by have := hbw24.size; omega
  have lb2w24 : w7.heap.size < w24.heap.size := by have := hbw24.size; omega
  have lb3w24 : w10.heap.size < w24.heap.size := by have := hbw24.size; omega
  have ba00_w24 : w24.cell? ⟨w.heap.size, 0, none⟩ = some (.int .i64 n0) := keepC hbw24 ba00_w23
  have ba01_w24 : w24.cell? ⟨w.heap.size, 1, none⟩ = some (.slice A0 xs0.length c0) := keepC hbw24 ba01_w23
  have bW00_w24 : w24.cell? ⟨w5.heap.size, 0, none⟩ = some (.int .i64 sd) := keepC hbw24 bW00_w23
  have bW01_w24 : w24.cell? ⟨w5.heap.size, 1, none⟩ = some (.slice A5 ys.length c5) := keepC hbw24 bW01_w23
  have bx000_w24 : w24.cell? ⟨w7.heap.size, 0, none⟩ = some (.int .i64 n0) := keepC hbw24 bx000_w23
  have bx001_w24 : w24.cell? ⟨w7.heap.size, 1, none⟩ = some (.slice A7 xs0.length xs0.length) := keepC hbw24 bx001_w23
  have bG00_w24 : w24.cell? ⟨w10.heap.size, 0, none⟩ = some (.int .i64 sd) := keepC hbw24 bG00_w23
  have bG01_w24 : w24.cell? ⟨w10.heap.size, 1, none⟩ = some (.slice A10 ys.length c10) := keepC hbw24 bG01_w23
  have OWWw24 := Lib.hid (own_below OWWw23.out hbw24)
  have OWX0w24 := Lib.hid (own_below OWX0w23.out hbw24)
  have OWX1w24 := Lib.hid (own_below OWX1w23.out hbw24)
  have OWGw24 := Lib.hid (own_below OWGw23.out hbw24)
  have OWtV0w24 := Lib.hid (own_below OWtV0w23.out hbw24)
  have OWtV1w24 := Lib.hid (own_below OWtV1w23.out hbw24)
  have HBw24 : Hid (Below w.heap.size w w24) := Lib.hid (HBw23.out.trans (hbw24.mono HBw23.out.size))
  clear lb0w23 lb1w23 lb2w23 lb3w23 ba00_w23 ba01_w23 bW00_w23 bW01_w23 bx000_w23 bx001_w23 bG00_w23 bG01_w23 OWWw23 OWX0w23 OWX1w23 OWGw23 OWtV0w23 OWtV1w23 HBw23 hbw24 hownw24
  clear OWtV0w24 OLtV0
  clear OWtV1w24 OLtV1
  go_wp2_with fail
  generalize hWw25 : World.alloc w24 _ = w25
  have hbw25 : Below w24.heap.size w24 w25 := by rw [← hWw25]; exact Below.alloc (Below.refl _ _) (by simp; try omega) _
  have sw25 : w24.heap.size + 1 ≤ w25.heap.size := by rw [← hWw25]; simp
  have bV00_w25 : w25.cell? ⟨w24.heap.size, 0, none⟩ = some (.int .i64 sd) := by rw [← hWw25]; simp [go_sem]
  have bV01_w25 : w25.cell? ⟨w24.heap.size, 1, none⟩ = some (.slice A24 ys.length c24) := by rw [← hWw25]; simp [go_sem]
  have lb0w25 : w.heap.size < w25.heap.size := by have := hbw25.size; omega
  have lb1w25 : w5.heap.size < w25.heap.size := by have := hbw25.size; omega
  have lb2w25 : w7.heap.size < w25.heap.size := by have := hbw25.size; omega
  have lb3w25 : w10.heap.size < w25.heap.size := by have := hbw25.size; omega
  have ba00_w25 : w25.cell? ⟨w.heap.size, 0, none⟩ = some (.int .i64 n0) := keepC hbw25 ba00_w24
  have ba01_w25 : w25.cell? ⟨w.heap.size, 1, none⟩ = some (.slice A0 xs0.length c0) := keepC hbw25 ba01_w24
  have bW00_w25 : w25.cell? ⟨w5.heap.size, 0, none⟩ = some (.int .i64 sd) := keepC hbw25 bW00_w24
  have bW01_w25 : w25.cell? ⟨w5.heap.size, 1, none⟩ = some (.slice A5 ys.length c5) := keepC hbw25 bW01_w24
  have bx000_w25 : w25.cell? ⟨w7.heap.size, 0, none⟩ = some (.int .i64 n0) := keepC hbw25 bx000_w24
  have bx001_w25 : w25.cell? ⟨w7.heap.size, 1, none⟩ = some (.slice A7 xs0.length xs0.length) := keepC hbw25 bx001_w24
  have bG00_w25 : w25.cell? ⟨w10.heap.size, 0, none⟩ = some (.int .i64 sd) := keepC hbw25 bG00_w24
  have bG01_w25 : w25.cell? ⟨w10.heap.size, 1, none⟩ = some (.slice A10 ys.length c10) := keepC hbw25 bG01_w24
  have OWWw25 := Lib.hid (own_below OWWw24.out hbw25)
  have OWX0w25 := Lib.hid (own_below OWX0w24.out hbw25)
  have OWX1w25 := Lib.hid (own_below OWX1w24.out hbw25)
  have OWGw25 := Lib.hid (own_below OWGw24.out hbw25)
  have OWVw25 := Lib.hid (own_below OWVw24.out hbw25)
  have HBw25 : Hid (Below w.heap.size w w25) := Lib.hid (HBw24.out.trans (hbw25.mono HBw24.out.size))
  clear lb0w24 lb1w24 lb2w24 lb3w24 ba00_w24 ba01_w24 bW00_w24 bW01_w24 bx000_w24 bx001_w24 bG00_w24 bG01_w24 OWWw24 OWX0w24 OWX1w24 OWGw24 OWVw24 HBw24 hWw25 hbw25
  have lb4w25 : w24.heap.size < w25.heap.size := by omega
  refine (HE.out A24 A5 c24 c5 _ (Rd.of_own OWVw25.out) (Rd.of_own OWWw25.out)).mono ?_
  rintro e w26 ⟨rfl, hbw26⟩
  have lb0w26 : w.heap.size < w26.heap.size := by have := hbw26.size; omega
  have lb1w26 : w5.heap.size < w26.heap.size := by have := hbw26.size; omega
  have lb2w26 : w7.heap.size < w26.heap.size := by have := hbw26.size; omega
  have lb3w26 : w10.heap.size < w26.heap.size := by have := hbw26.size; omega
  have lb4w26 : w24.heap.size < w26.heap.size := by have := hbw26.size; omega
  have ba00_w26 : w26.cell? ⟨w.heap.size, 0, none⟩ = some (.int .i64 n0) := keepC hbw26 ba00_w25
  have ba01_w26 : w26.cell? ⟨w.heap.size, 1, none⟩ = some (.slice A0 xs0.length c0) := keepC hbw26 ba01_w25
  have bW00_w26 : w26.cell? ⟨w5.heap.size, 0, none⟩ = some (.int .i64 sd) := keepC hbw26 bW00_w25
  have bW01_w26 : w26.cell? ⟨w5.heap.size, 1, none⟩ = some (.slice A5 ys.length c5) := keepC hbw26 bW01_w25
  have bx000_w26 : w26.cell? ⟨w7.heap.size, 0, none⟩ = some (.int .i64 n0) := keepC hbw26 bx000_w25
  have bx001_w26 : w26.cell? ⟨w7.heap.size, 1, none⟩ = some (.slice A7 xs0.length xs0.length) := keepC hbw26 bx001_w25
  have bG00_w26 : w26.cell? ⟨w10.heap.size, 0, none⟩ = some (.int .i64 sd) := keepC hbw26 bG00_w25
  have bG01_w26 : w26.cell? ⟨w10.heap.size, 1, none⟩ = some (.slice A10 ys.length c10) := keepC hbw26 bG01_w25
  have bV00_w26 : w26.cell? ⟨w24.heap.size, 0, none⟩ = some (.int .i64 sd) := keepC hbw26 bV00_w25
  have bV01_w26 : w26.cell? ⟨w24.heap.size, 1, none⟩ = some (.slice A24 ys.length c24) := keepC hbw26 bV01_w25
  have OWWw26 := Lib.hid (own_below OWWw25.out hbw26)
  have OWX0w26 := Lib.hid (own_below OWX0w25.out hbw26)
  have OWX1w26 := Lib.hid (own_below OWX1w25.out hbw26)
  have OWGw26 := Lib.hid (own_below OWGw25.out hbw26)
  have OWVw26 := Lib.hid (own_below OWVw25.out hbw26)
  have HBw26 : Hid (Below w.heap.size w w26) := Lib.hid (HBw25.out.trans (hbw26.mono HBw25.out.size))
  have zw26 : w24.heap.size + 1 ≤ w26.heap.size := by have := hbw26.size; omega
  clear lb0w25 lb1w25 lb2w25 lb3w25 lb4w25 ba00_w25 ba01_w25 bW00_w25 bW01_w25 bx000_w25 bx001_w25 bG00_w25 bG01_w25 bV00_w25 bV01_w25 OWWw25 OWX0w25 OWX1w25 OWGw25 OWVw25 HBw25 hbw26
  go_wp2_with fail
  refine (HH.out A10 c10 _ (Rd.of_own OWGw26.out)).mono ?_
  rintro e w27 ⟨rfl, hbw27⟩
  have lb0w27 : w.heap.size < w27.heap.size := by have := hbw27.size; omega
  have lb1w27 : w5.heap.size < w27.heap.size := by have := hbw27.size; omega
  have lb2w27 : w7.heap.size < w27.heap.size := by have := hbw27.size; omega
  have lb3w27 : w10.heap.size < w27.heap.size := by have := hbw27.size; omega
  have lb4w27 : w24.heap.size < w27.heap.size := by have := hbw27.size; omega
  have ba00_w27 : w27.cell? ⟨w.heap.size, 0, none⟩ = some (.int .i64 n0) := keepC hbw27 ba00_w26
  have ba01_w27 : w27.cell? ⟨w.heap.size, 1, none⟩ = some (.slice A0 xs0.length c0) := keepC hbw27 ba01_w26
  have bW00_w27 : w27.cell? ⟨w5.heap.size, 0, none⟩ = some (.int .i64 sd) := keepC hbw27 bW00_w26
  have bW01_w27 : w27.cell? ⟨w5.heap.size, 1, none⟩ = some (.slice A5 ys.length c5) := keepC hbw27 bW01_w26
  have bx000_w27 : w27.cell? ⟨w7.heap.size, 0, none⟩ = some (.int .i64 n0) := keepC hbw27 bx000_w26
  have bx001_w27 : w27.cell? ⟨w7.heap.size, 1, none⟩ = some (.slice A7 xs0.length xs0.length) := keepC hbw27 bx001_w26
  have bG00_w27 : w27.cell? ⟨w10.heap.size, 0, none⟩ = some (.int .i64 sd) := keepC hbw27 bG00_w26
  have bG01_w27 : w27.cell? ⟨w10.heap.size, 1, none⟩ = some (.slice A10 ys.length c10) := keepC hbw27 bG01_w26
  have bV00_w27 : w27.cell? ⟨w24.heap.size, 0, none⟩ = some (.int .i64 sd) := keepC hbw27 bV00_w26
  have bV01_w27 : w27.cell? ⟨w24.heap.size, 1, none⟩ = some (.slice A24 ys.length c24) := keepC hbw27 bV01_w26
  have OWWw27 := Lib.hid (own_below OWWw26.out hbw27)
  have OWX0w27 := Lib.hid (own_below OWX0w26.out hbw27)
  have OWX1w27 := Lib.hid (own_below OWX1w26.out hbw27)
  have OWGw27 := Lib.hid (own_below OWGw26.out hbw27)
  have OWVw27 := Lib.hid (own_below OWVw26.out hbw27)
  have HBw27 : Hid (Below w.heap.size w w27) := Lib.hid (HBw26.out.trans (hbw27.mono HBw26.out.size))
  have zw27 : w24.heap.size + 1 ≤ w27.heap.size := by have := hbw27.size; omega
  clear lb0w26 lb1w26 lb2w26 lb3w26 lb4w26 ba00_w26 ba01_w26 bW00_w26 bW01_w26 bx000_w26 bx001_w26 bG00_w26 bG01_w26 bV00_w26 bV01_w26 OWWw26 OWX0w26 OWX1w26 OWGw26 OWVw26 HBw26 zw26 hbw27
  go_wp2_with fail
  go_ret
  exact ⟨rfl, HBw27.out⟩

set_option maxRecDepth 100000 in
set_option maxHeartbeats 3200000 in
theorem lifted (os : Os) (started : os.Started) (H : Type) (enc : TypeId × Value → H) :
    ReturnsInHanded {} Try.checked os 4 .any (Rows.fnExactWeighChainSpec.pre6 enc Try.prog Try.f4 Rows.fnExactWeighChainRow.domain false) (Rows.fnExactWeighChainSpec.post enc Try.prog Try.f4 false true false false) := by
  refine returnsInHanded_of_change (C := Try.checked) own started (by kernel_rfl) Try.func4
    (ChangeSpec.witness6 (enc := enc) (C := Try.checked) false ⟨#[], #[.agg #[.int .i64 0, .slice none 0 0], .slice none 0 0], []⟩ 8 (by kernel_rfl) (by kernel_rfl) (by kernel_rfl) (by kernel_rfl)) ?_
  intro W base args ds gs before hval0 hW hcnd _
  have hval : ∀ (j : Nat) t v, Try.f4.params[j]? = some t → args[j]? = some v → Value.okWide Try.prog W .any base t v := hval0
  have hW' := hW
  have hlt : ∀ p ∈ before, p.block < W.heap.size := fun p hp => hW.lt p hp
  obtain ⟨p, q, hA0, hV, rfl, hfz, hnd⟩ := hW
  have hA : DataW.TrodAll enc Try.prog W 0 (fun _ => true) true Try.f4.params.toList args.toList ds p := hA0
  rw [Try.params4] at hA hval
  have hA1 := hA
  obtain ⟨v0, vs0, d0, ds0, p0, q0, hargs, rfl, rfl, h0, r0⟩ := trodAll_cons hA
  obtain ⟨v1, vs1, d1, ds1, p1, q1, rfl, rfl, rfl, h1, r1⟩ := trodAll_cons r0
  obtain ⟨rfl, rfl, rfl⟩ := trodAll_nil r1
  obtain rfl : args = #[v0, v1] := by cases args; simp_all
  obtain ⟨rfl, rfl⟩ := trodVars_none hV
  obtain ⟨n0, A0, xs0, c0, rfl, bd0, hx0, hr0, bf0⟩ := open_chain (hval 0 _ _ rfl rfl) h0
  obtain ⟨A1, xs1, c1, rfl, hx1, hr1, bf1⟩ := open_fl h1 (okWide_slice Try.underlying22 (hval 1 _ _ rfl rfl))
  clear hA0 hval0
  refine (walk n0 A0 xs0 c0 A1 xs1 c1 W hr0 hx0 bd0 bf0 hr1 hx1 bf1).mono fun e W' ⟨he, hb⟩ => ?_
  subst he
  rw [List.append_nil] at hW' hlt
  exact ⟨_, rfl, post_of_below (pa := _) (pv := []) hW' (fun _ _ _ => (trodAll_cons_mk (shut_bool Try.underlying4 _) trodAll_mk0))
    (fun sp hsp => trodAll_below cl_laid hb _ _ _ _ (by kernel_rfl) hA1 hlt hsp) (fun _ _ => rfl) (List.append_nil _).symm hb (ok_one (by kernel_rfl) rfl (okWide_bool_mk Try.underlying4 _))⟩

theorem g0 : Try.prog.funcNamed Rows.fnExactWeighChainRow.func = some 4 := by kernel_rfl
theorem g1 : Rows.fnExactWeighChainRow.inPlace = Try.prog.inPlace 4 := by kernel_rfl
theorem g2 : Rows.fnExactWeighChainRow.unfollowed = Try.prog.unfollowed 4 := by kernel_rfl
theorem g3 : Rows.fnExactWeighChainRow.recurses = Try.prog.recurses 4 := by kernel_rfl
theorem g4 : Rows.fnExactWeighChainRow.named = Try.prog.varsNamed 4 := by kernel_rfl
theorem g5 : Rows.fnExactWeighChainRow.wf (OpenSpec.ofChange Rows.fnExactWeighChainSpec) = true := by kernel_rfl
theorem g6 : (Try.f4.params.all (Try.prog.readableRec ·)) = true := by kernel_rfl
theorem g7 : Rows.fnExactWeighChainRow.veiledFits Try.prog Try.f4.params.toList (Try.f4.params.toList ++ Try.f4.resultTypes.toList) = true := by kernel_rfl
theorem g8 : joinedFacts Try.prog 4 Try.f4 Rows.fnExactWeighChainSpec Rows.fnExactWeighChainRow = true :=
  gen_facts _ _ _ _ rfl rfl cl_laid cl_maps cl_stops cl_knobs cl_heard cl_enter cl_lifts cl_make g5 g6 rfl rfl rfl g1 g2 g3 g4
    (by as_aux_lemma => kernel_rfl) (by as_aux_lemma => kernel_rfl) (by as_aux_lemma => kernel_rfl) (by as_aux_lemma => kernel_rfl) (by as_aux_lemma => kernel_rfl) (by as_aux_lemma => kernel_rfl) (by as_aux_lemma => kernel_rfl) (by as_aux_lemma => kernel_rfl)
    cl_keys.symm rfl rfl rfl rfl rfl (by as_aux_lemma => kernel_rfl) (by as_aux_lemma => kernel_rfl) g7
theorem g9 : Try.f4.isInstance Try.prog Rows.fnExactWeighChainRow.origin Rows.fnExactWeighChainRow.targs := of_decide_eq_true (by kernel_rfl)
theorem g10 : Try.f4.isWrapper Try.prog Rows.fnExactWeighChainRow.wrapper Rows.fnExactWeighChainRow.mainSum := by
  unfold Func.isWrapper; first | (rw [if_pos (by decide +kernel)]; kernel_rfl) | (rw [if_neg (by decide +kernel)]; exact ⟨rfl, rfl⟩)
theorem over : Rows.fnExactWeighChainRow.holds Try.pinned (OpenSpec.ofChange Rows.fnExactWeighChainSpec) :=
  OpenClaim.holds_of_wide 4 Try.f4 rfl rfl rfl rfl rfl rfl rfl ⟨rfl, rfl, rfl, rfl, rfl⟩ rfl rfl rfl rfl rfl g0 Try.func4 g8 g9 g10 (fun os started H enc _ => lifted os started H enc)
theorem proved : Rows.FnExactWeighChainSaid := over
end Go.Proofs.Ytnnnpdendnjkhaa.lawWeighChain
