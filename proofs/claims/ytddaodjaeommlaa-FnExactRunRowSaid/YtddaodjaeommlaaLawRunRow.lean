/-
  impl.RunRow returns what spec.RunRow returns, for every chain, row and number of steps (the law FnExactRunRow returns true), in memory of its own where it gives a slice, and leaves its arguments as they were. No condition.
-/
import Derived.Test.YtddaodjaeommlaaRus
import Derived.Test.YtddaodjaeommlaaToi
import Derived.Test.YtddaodjaeommlaaOpen
import Derived.Deep.RegionHeld3
import Derived.Deep.DeepCutAuto
namespace Go.Proofs.Ytddaodjaeommlaa.lawRunRow
open Go.ChangeShapes Go.WideShapes Go.ChangeAt Go.RowKit

theorem both (n0 : Int) (xs0 : List Nat) (xs1 : List Nat) (x2 : Int) (hx0 : xs0.length ≤ 9223372036854775807) (bd0 : -9223372036854775808 ≤ n0 ∧ n0 ≤ 9223372036854775807) (bf0 : ∀ x ∈ xs0, x < 4294967296) (hx1 : xs1.length ≤ 9223372036854775807) (bf1 : ∀ x ∈ xs1, x < 4294967296) (bd2 : -9223372036854775808 ≤ x2 ∧ x2 ≤ 9223372036854775807) : ∃ (ys : List Nat) (ok : Bool), ys.length ≤ 1048576 ∧ (∀ A50 c50 A51 c51 w, Rd w w.heap.size A50 (fl xs0) → Rd w w.heap.size A51 (fl xs1) → Calls Try.prog 53 #[.agg #[.int .i64 n0, .slice A50 xs0.length c50], .slice A51 xs1.length c51, .int .i64 x2] w (fun e w' => ∃ A c, e = .returned (.tuple #[.slice A ys.length c, .bool ok]) ∧ w'.ownsRow w.heap.size 33 1 (.slice A ys.length c) ys.length (fl ys) ∧ Below w.heap.size w w')) ∧
    (∀ A50 A51 w, Rd w w.heap.size A50 (fl xs0) → Rd w w.heap.size A51 (fl xs1) → Calls Try.prog 54 #[.agg #[.int .i64 n0, .slice A50 xs0.length xs0.length], .slice A51 xs1.length xs1.length, .int .i64 x2] w (fun e w' => ∃ A c, e = .returned (.tuple #[.slice A ys.length c, .bool ok]) ∧ w'.ownsRow w.heap.size 33 1 (.slice A ys.length c) ys.length (fl ys) ∧ Below w.heap.size w w')) := by
  have _uhx0 := hx0
  have _ubd0 := bd0
  have _ubf0 := bf0
  have _uhx1 := hx1
  have _ubf1 := bf1
  have _ubd2 := bd2
  have hz : xs0.length ≤ xs0.length := Nat.le_refl _
  cases h : runB n0 xs0 xs1 x2 with
  | false => exact ⟨[], false, by simp, fun A c B d w hA hB => specRunRow_bad n0 A xs0 c B xs1 d x2 w hx0 hx1 hA hB h, fun A B w hA hB => RunRow_bad n0 A xs0 xs0.length B xs1 xs1.length x2 w hz hx0 hx1 hA hB h⟩
  | true =>
    unfold runB at h
    rw [Bool.and_eq_true] at h
    obtain ⟨hf, hin⟩ := h
    have hr : 0 ≤ x2 ∧ x2 ≤ 512 := of_decide_eq_true hin
    obtain ⟨N, rfl⟩ := Int.eq_ofNat_of_zero_le hr.1
    obtain ⟨n, rfl, h1, h2, hl, hp, hrl, hrw, -⟩ := fitB_facts hf
    refine ⟨_, _, ?_, fun A c B d w hA hB => specRunRow_ok n A xs0 c B xs1 d N w hx0 hA hB hf (by omega), fun A B w hA hB => RunRow_ok n A xs0 xs0.length B xs1 xs1.length N w hz hx0 hA hB hf (by omega)⟩
    have hlen : ∀ (s : Nat) (r : List Nat), r.length = n → ((runRow xs0 n s r).getD []).length ≤ n := by
      intro s
      induction s with
      | zero => intro r hr'; show r.length ≤ n; omega
      | succ s ih =>
        intro r hr'
        cases hfin : (stepRow xs0 r n).all (isFin Ieee.single) with
        | true => rw [runRow_yes hfin]; exact ih _ (stepRow_len _ _ _)
        | false => rw [runRow_no hfin]; simp
    have := hlen N xs1 hrl
    unfold runGive
    omega

set_option maxRecDepth 100000 in
set_option maxHeartbeats 12800000 in
theorem walk (n0 : Int) (A0 : Option Addr) (xs0 : List Nat) (c0 : Nat) (A1 : Option Addr) (xs1 : List Nat) (c1 : Nat) (x2 : Int) (w : World) (h0 : Rd w w.heap.size A0 (fl xs0))  (hx0 : xs0.length ≤ 9223372036854775807) (bd0 : -9223372036854775808 ≤ n0 ∧ n0 ≤ 9223372036854775807) (bf0 : ∀ x ∈ xs0, x < 4294967296) (h1 : Rd w w.heap.size A1 (fl xs1))  (hx1 : xs1.length ≤ 9223372036854775807) (bf1 : ∀ x ∈ xs1, x < 4294967296) (bd2 : -9223372036854775808 ≤ x2 ∧ x2 ≤ 9223372036854775807) :
    Calls Try.prog 13 #[.agg #[.int .i64 n0, .slice A0 xs0.length c0], .slice A1 xs1.length c1, .int .i64 x2] w fun e w' => e = .returned (.bool true) ∧ Below w.heap.size w w' := by
  by_cases hq1 : 1048576 < xs1.length
  · clear bd0 bf0 bf1 bd2
    go_enter Try.func13, Try.ntmps13
    go_wp2
    go_ret
    exact ⟨rfl, Below.alloc (Below.refl _ _) (by simp; try omega) _⟩
  have hy1 : xs1.length ≤ 1048576 := by omega
  clear hq1
  have HZ0 := Lib.hid fun w => szChain_any n0 A0 xs0.length c0 (1048576) w hx0 (by omega) (by omega)
  by_cases hl0 : (1048576 : Int) - (xs0.length : Int) < 0
  · have HL0 : Hid (leftOf (1048576) xs0.length = -1) := if_pos hl0
    clear hl0 bd0 bf0 bf1 bd2
    go_enter Try.func13, Try.ntmps13
    go_wp2_with fail
    refine (HZ0.out _).mono ?_
    rw [HL0.out]
    rintro e v0 ⟨rfl, hv0⟩
    have hu0 : Below w.heap.size w v0 := Below.trans (Below.alloc (Below.refl _ _) (by simp; try omega) _) (hv0.mono (by simp; try omega))
    have cc00 : v0.cell? ⟨w.heap.size, 0, none⟩ = some (.int .i64 n0) := keepC hv0 (by simp [go_sem])
    have cc01 : v0.cell? ⟨w.heap.size, 1, none⟩ = some (.slice A0 xs0.length c0) := keepC hv0 (by simp [go_sem])
    clear hv0
    go_wp2_with fail
    go_ret
    exact ⟨rfl, hu0⟩
  have HL0 : Hid (leftOf (1048576) xs0.length = 1048576 - xs0.length) := if_neg hl0
  have hy0 : xs0.length ≤ 1048576 := by omega
  obtain ⟨ys, ok, hm, HS0, HI0⟩ := both n0 xs0 xs1 x2 hx0 bd0 bf0 hx1 bf1 bd2
  have HS := Lib.hid HS0
  have HI := Lib.hid HI0
  clear HS0 HI0
  have HT0 := Lib.hid fun w h => toChain_any n0 A0 xs0 c0 w hy0 h
  have HX0 := Lib.hid fun A B c d w hA hB => eqChain_yes n0 A B xs0 xs0 c d w (by omega) (sameL_refl xs0) hA hB
  have HT1 := Lib.hid fun w h => toFloat32S_any A1 xs1 c1 w hy1 h
  have HX1 := Lib.hid fun A B c d w hA hB => eqFloat32S_yes A B xs1 xs1 c d w (by omega) (sameL_refl xs1) hA hB
  have HMx0 := Lib.hid fun A base c w hb ho => markChain_any n0 A base xs0.length (fl xs0) c (1) w hy0 (by omega) (by omega) hb ho
  have HMx1 := Lib.hid fun A base c w ho => markFloat32S_any A base xs1.length (fl xs1) c (1 + (xs0.length : Int)) w hy1 (by omega) (by omega) ho
  have HE := Lib.hid fun A B c d w hA hB => eqFloat32S_yes A B ys ys c d w (by omega) (sameL_refl ys) hA hB
  have HM := Lib.hid fun A base c w ho => markFloat32S_any A base ys.length (fl ys) c 1 w hm (by omega) (by omega) ho
  have HH := Lib.hid fun A c w hr => heldFloat32S_any A ys.length c 1 w hm (by omega) (by omega) hr
  clear bd0 bf0 bf1 bd2
  have HBw : Hid (Below w.heap.size w w) := Lib.hid (Below.refl _ _)
  go_enter Try.func13, Try.ntmps13
  go_wp2_with fail
  generalize hWw1 : World.alloc w _ = w1
  have hbw1 : Below w.heap.size w w1 := by rw [← hWw1]; exact Below.alloc (Below.refl _ _) (by simp; try omega) _
  have sw1 : w.heap.size + 1 ≤ w1.heap.size := by rw [← hWw1]; simp
  have ba00_w1 : w1.cell? ⟨w.heap.size, 0, none⟩ = some (.int .i64 n0) := by rw [← hWw1]; simp [go_sem]
  have ba01_w1 : w1.cell? ⟨w.heap.size, 1, none⟩ = some (.slice A0 xs0.length c0) := by rw [← hWw1]; simp [go_sem]
  have HBw1 : Hid (Below w.heap.size w w1) := Lib.hid (HBw.out.trans (hbw1.mono HBw.out.size))
  clear HBw hWw1 hbw1
  have lb0w1 : w.heap.size < w1.heap.size := by omega
  refine (HZ0.out _).mono ?_
  rw [HL0.out]
  rintro e w2 ⟨rfl, hbw2⟩
  have lb0w2 : w.heap.size < w2.heap.size := by have := hbw2.size; omega
  have ba00_w2 : w2.cell? ⟨w.heap.size, 0, none⟩ = some (.int .i64 n0) := keepC hbw2 ba00_w1
  have ba01_w2 : w2.cell? ⟨w.heap.size, 1, none⟩ = some (.slice A0 xs0.length c0) := keepC hbw2 ba01_w1
  have HBw2 : Hid (Below w.heap.size w w2) := Lib.hid (HBw1.out.trans (hbw2.mono HBw1.out.size))
  have zw2 : w.heap.size + 1 ≤ w2.heap.size := by have := hbw2.size; omega
  clear lb0w1 ba00_w1 ba01_w1 HBw1 hbw2
  go_wp2_with fail
  refine (HT0.out _ (h0.at_ HBw2.out)).mono ?_
  rintro e w3 ⟨A3, rfl, hownw3, hbw3⟩
  have OLtW0 : Hid (∀ k, (Value.slice A3 xs0.length xs0.length).ownBlock = some k → w2.heap.size ≤ k ∧ k < w3.heap.size) := Lib.hid hownw3.lt
  have OWtW0w3 := Lib.hid hownw3
  have rw3 : w2.heap.size ≤ w3.heap.size := hbw3.size
  have lb0w3 : w.heap.size < w3.heap.size := by have := hbw3.size; omega
  have ba00_w3 : w3.cell? ⟨w.heap.size, 0, none⟩ = some (.int .i64 n0) := keepC hbw3 ba00_w2
  have ba01_w3 : w3.cell? ⟨w.heap.size, 1, none⟩ = some (.slice A0 xs0.length c0) := keepC hbw3 ba01_w2
  have HBw3 : Hid (Below w.heap.size w w3) := Lib.hid (HBw2.out.trans (hbw3.mono HBw2.out.size))
  clear lb0w2 ba00_w2 ba01_w2 HBw2 hbw3 hownw3
  go_wp2_with fail
  refine (HT1.out _ (h1.at_ HBw3.out)).mono ?_
  rintro e w4 ⟨A4, rfl, hownw4, hbw4⟩
  have OLtW1 : Hid (∀ k, (Value.slice A4 xs1.length xs1.length).ownBlock = some k → w3.heap.size ≤ k ∧ k < w4.heap.size) := Lib.hid hownw4.lt
  have OWtW1w4 := Lib.hid hownw4
  have rw4 : w3.heap.size ≤ w4.heap.size := hbw4.size
  have lb0w4 : w.heap.size < w4.heap.size := by have := hbw4.size; omega
  have ba00_w4 : w4.cell? ⟨w.heap.size, 0, none⟩ = some (.int .i64 n0) := keepC hbw4 ba00_w3
  have ba01_w4 : w4.cell? ⟨w.heap.size, 1, none⟩ = some (.slice A0 xs0.length c0) := keepC hbw4 ba01_w3
  have OWtW0w4 := Lib.hid (own_below OWtW0w3.out hbw4)
  have HBw4 : Hid (Below w.heap.size w w4) := Lib.hid (HBw3.out.trans (hbw4.mono HBw3.out.size))
  clear lb0w3 ba00_w3 ba01_w3 OWtW0w3 HBw3 hbw4 hownw4
  go_wp2_with fail
  refine (HS.out A3 _ A4 _ _ (Rd.of_own OWtW0w4.out) (Rd.of_own OWtW1w4.out)).mono ?_
  rintro e w5 ⟨A5, c5, rfl, hownw5, hbw5⟩
  have OLW : Hid (∀ k, (Value.slice A5 ys.length c5).ownBlock = some k → w4.heap.size ≤ k ∧ k < w5.heap.size) := Lib.hid hownw5.lt
  have OWWw5 := Lib.hid hownw5
  have rw5 : w4.heap.size ≤ w5.heap.size := hbw5.size
  have lb0w5 : w.heap.size < w5.heap.size := by have := hbw5.size; omega
  have ba00_w5 : w5.cell? ⟨w.heap.size, 0, none⟩ = some (.int .i64 n0) := keepC hbw5 ba00_w4
  have ba01_w5 : w5.cell? ⟨w.heap.size, 1, none⟩ = some (.slice A0 xs0.length c0) := keepC hbw5 ba01_w4
  have OWtW0w5 := Lib.hid (own_below OWtW0w4.out hbw5)
  have OWtW1w5 := Lib.hid (own_below OWtW1w4.out hbw5)
  have HBw5 : Hid (Below w.heap.size w w5) := Lib.hid (HBw4.out.trans (hbw5.mono HBw4.out.size))
  clear lb0w4 ba00_w4 ba01_w4 OWtW0w4 OWtW1w4 HBw4 hbw5 hownw5
  clear OWtW0w5 OLtW0
  clear OWtW1w5 OLtW1
  go_wp2_with fail
  refine (HT0.out _ (h0.at_ HBw5.out)).mono ?_
  rintro e w6 ⟨A6, rfl, hownw6, hbw6⟩
  have OLX0 : Hid (∀ k, (Value.slice A6 xs0.length xs0.length).ownBlock = some k → w5.heap.size ≤ k ∧ k < w6.heap.size) := Lib.hid hownw6.lt
  have OWX0w6 := Lib.hid hownw6
  have rw6 : w5.heap.size ≤ w6.heap.size := hbw6.size
  have lb0w6 : w.heap.size < w6.heap.size := by have := hbw6.size; omega
  have ba00_w6 : w6.cell? ⟨w.heap.size, 0, none⟩ = some (.int .i64 n0) := keepC hbw6 ba00_w5
  have ba01_w6 : w6.cell? ⟨w.heap.size, 1, none⟩ = some (.slice A0 xs0.length c0) := keepC hbw6 ba01_w5
  have OWWw6 := Lib.hid (own_below OWWw5.out hbw6)
  have HBw6 : Hid (Below w.heap.size w w6) := Lib.hid (HBw5.out.trans (hbw6.mono HBw5.out.size))
  clear lb0w5 ba00_w5 ba01_w5 OWWw5 HBw5 hbw6 hownw6
  go_wp2_with fail
  generalize hWw7 : World.alloc w6 _ = w7
  have hbw7 : Below w6.heap.size w6 w7 := by rw [← hWw7]; exact Below.alloc (Below.refl _ _) (by simp; try omega) _
  have sw7 : w6.heap.size + 1 ≤ w7.heap.size := by rw [← hWw7]; simp
  have bx000_w7 : w7.cell? ⟨w6.heap.size, 0, none⟩ = some (.int .i64 n0) := by rw [← hWw7]; simp [go_sem]
  have bx001_w7 : w7.cell? ⟨w6.heap.size, 1, none⟩ = some (.slice A6 xs0.length xs0.length) := by rw [← hWw7]; simp [go_sem]
  have lb0w7 : w.heap.size < w7.heap.size := by have := hbw7.size; omega
  have ba00_w7 : w7.cell? ⟨w.heap.size, 0, none⟩ = some (.int .i64 n0) := keepC hbw7 ba00_w6
  have ba01_w7 : w7.cell? ⟨w.heap.size, 1, none⟩ = some (.slice A0 xs0.length c0) := keepC hbw7 ba01_w6
  have OWWw7 := Lib.hid (own_below OWWw6.out hbw7)
  have OWX0w7 := Lib.hid (own_below OWX0w6.out hbw7)
  have HBw7 : Hid (Below w.heap.size w w7) := Lib.hid (HBw6.out.trans (hbw7.mono HBw6.out.size))
  clear lb0w6 ba00_w6 ba01_w6 OWWw6 OWX0w6 HBw6 hWw7 hbw7
  have lb1w7 : w6.heap.size < w7.heap.size := by omega
  refine (HT1.out _ (h1.at_ HBw7.out)).mono ?_
  rintro e w8 ⟨A8, rfl, hownw8, hbw8⟩
  have OLX1 : Hid (∀ k, (Value.slice A8 xs1.length xs1.length).ownBlock = some k → w7.heap.size ≤ k ∧ k < w8.heap.size) := Lib.hid hownw8.lt
  have OWX1w8 := Lib.hid hownw8
  have rw8 : w7.heap.size ≤ w8.heap.size := hbw8.size
  have lb0w8 : w.heap.size < w8.heap.size := by have := hbw8.size; omega
  have lb1w8 : w6.heap.size < w8.heap.size := by have := hbw8.size; omega
  have ba00_w8 : w8.cell? ⟨w.heap.size, 0, none⟩ = some (.int .i64 n0) := keepC hbw8 ba00_w7
  have ba01_w8 : w8.cell? ⟨w.heap.size, 1, none⟩ = some (.slice A0 xs0.length c0) := keepC hbw8 ba01_w7
  have bx000_w8 : w8.cell? ⟨w6.heap.size, 0, none⟩ = some (.int .i64 n0) := keepC hbw8 bx000_w7
  have bx001_w8 : w8.cell? ⟨w6.heap.size, 1, none⟩ = some (.slice A6 xs0.length xs0.length) := keepC hbw8 bx001_w7
  have OWWw8 := Lib.hid (own_below OWWw7.out hbw8)
  have OWX0w8 := Lib.hid (own_below OWX0w7.out hbw8)
  have HBw8 : Hid (Below w.heap.size w w8) := Lib.hid (HBw7.out.trans (hbw8.mono HBw7.out.size))
  clear lb0w7 lb1w7 ba00_w7 ba01_w7 bx000_w7 bx001_w7 OWWw7 OWX0w7 HBw7 hbw8 hownw8
  go_wp2_with fail
  refine (HI.out A6 A8 _ (Rd.of_own OWX0w8.out) (Rd.of_own OWX1w8.out)).mono ?_
  rintro e w9 ⟨A9, c9, rfl, hownw9, hbw9⟩
  have OLG : Hid (∀ k, (Value.slice A9 ys.length c9).ownBlock = some k → w8.heap.size ≤ k ∧ k < w9.heap.size) := Lib.hid hownw9.lt
  have OWGw9 := Lib.hid hownw9
  have rw9 : w8.heap.size ≤ w9.heap.size := hbw9.size
  have lb0w9 : w.heap.size < w9.heap.size := by have := hbw9.size; omega
  have lb1w9 : w6.heap.size < w9.heap.size := by have := hbw9.size; omega
  have ba00_w9 : w9.cell? ⟨w.heap.size, 0, none⟩ = some (.int .i64 n0) := keepC hbw9 ba00_w8
  have ba01_w9 : w9.cell? ⟨w.heap.size, 1, none⟩ = some (.slice A0 xs0.length c0) := keepC hbw9 ba01_w8
  have bx000_w9 : w9.cell? ⟨w6.heap.size, 0, none⟩ = some (.int .i64 n0) := keepC hbw9 bx000_w8
  have bx001_w9 : w9.cell? ⟨w6.heap.size, 1, none⟩ = some (.slice A6 xs0.length xs0.length) := keepC hbw9 bx001_w8
  have OWWw9 := Lib.hid (own_below OWWw8.out hbw9)
  have OWX0w9 := Lib.hid (own_below OWX0w8.out hbw9)
  have OWX1w9 := Lib.hid (own_below OWX1w8.out hbw9)
  have HBw9 : Hid (Below w.heap.size w w9) := Lib.hid (HBw8.out.trans (hbw9.mono HBw8.out.size))
  clear lb0w8 lb1w8 ba00_w8 ba01_w8 bx000_w8 bx001_w8 OWWw8 OWX0w8 OWX1w8 HBw8 hbw9 hownw9
  go_wp2_with fail
  refine (HE.out A9 A5 c9 c5 _ (Rd.of_own OWGw9.out) (Rd.of_own OWWw9.out)).mono ?_
  rintro e w10 hqw10
  obtain ⟨rfl, hbw10⟩ := hqw10.below
  have lb0w10 : w.heap.size < w10.heap.size := by have := hbw10.size; omega
  have lb1w10 : w6.heap.size < w10.heap.size := by have := hbw10.size; omega
  have ba00_w10 : w10.cell? ⟨w.heap.size, 0, none⟩ = some (.int .i64 n0) := keepC hbw10 ba00_w9
  have ba01_w10 : w10.cell? ⟨w.heap.size, 1, none⟩ = some (.slice A0 xs0.length c0) := keepC hbw10 ba01_w9
  have bx000_w10 : w10.cell? ⟨w6.heap.size, 0, none⟩ = some (.int .i64 n0) := keepC hbw10 bx000_w9
  have bx001_w10 : w10.cell? ⟨w6.heap.size, 1, none⟩ = some (.slice A6 xs0.length xs0.length) := keepC hbw10 bx001_w9
  have OWWw10 := Lib.hid (own_below OWWw9.out hbw10)
  have OWX0w10 := Lib.hid (own_below OWX0w9.out hbw10)
  have OWX1w10 := Lib.hid (own_below OWX1w9.out hbw10)
  have OWGw10 := Lib.hid (own_below OWGw9.out hbw10)
  have HBw10 : Hid (Below w.heap.size w w10) := Lib.hid (HBw9.out.trans (hbw10.mono HBw9.out.size))
  have zw10 : w9.heap.size ≤ w10.heap.size := by have := hbw10.size; omega
  clear lb0w9 lb1w9 ba00_w9 ba01_w9 bx000_w9 bx001_w9 OWWw9 OWX0w9 OWX1w9 OWGw9 HBw9 hbw10 hqw10
  go_wp2_with fail
  have hMk : Hid (∀ W, Below w10.heap.size w10 W → W.cell? ⟨w.heap.size, 0, none⟩ = some (.int .i64 n0) ∧ W.cell? ⟨w.heap.size, 1, none⟩ = some (.slice A0 xs0.length c0) ∧ W.cell? ⟨w6.heap.size, 0, none⟩ = some (.int .i64 n0) ∧ W.cell? ⟨w6.heap.size, 1, none⟩ = some (.slice A6 xs0.length xs0.length)) := Lib.hid fun W hW => ⟨keepC hW ba00_w10, keepC hW ba01_w10, keepC hW bx000_w10, keepC hW bx001_w10⟩
  go_region_held3 (fun W => W.cell? ⟨w.heap.size, 0, none⟩ = some (.int .i64 n0) ∧ W.cell? ⟨w.heap.size, 1, none⟩ = some (.slice A0 xs0.length c0) ∧ W.cell? ⟨w6.heap.size, 0, none⟩ = some (.int .i64 n0) ∧ W.cell? ⟨w6.heap.size, 1, none⟩ = some (.slice A6 xs0.length xs0.length))
    (first | exact hMk.out _ ((Below.refl _ _).drew) | exact hMk.out _ (by assumption))
    (first
      | (go_at_call 29; refine (HT0.out _ (h0.at_ HBw10.out.drew)).mono ?_; rintro e w11 ⟨A11, rfl, hownw11, hbw11⟩; have hkw11 : Below w10.heap.size w10 w11 := Below.trans (Below.refl _ _).drew hbw11)
      | (go_at_call 31; refine (HX0.out _ _ _ _ _ ((Rd.of_own OWX0w10.out).at_ hkw11) (Rd.of_own hownw11)).mono ?_; rintro e w12 ⟨rfl, hbw12⟩; have hkw12 : Below w10.heap.size w10 w12 := hkw11.trans (hbw12.mono hkw11.size)))
  obtain ⟨ba00_w12, ba01_w12, bx000_w12, bx001_w12⟩ := hMk.out _ hkw12
  have lb0w12 : w.heap.size < w12.heap.size := by have := hkw12.size; omega
  have lb1w12 : w6.heap.size < w12.heap.size := by have := hkw12.size; omega
  have OWWw12 := Lib.hid (own_below OWWw10.out hkw12)
  have OWX0w12 := Lib.hid (own_below OWX0w10.out hkw12)
  have OWX1w12 := Lib.hid (own_below OWX1w10.out hkw12)
  have OWGw12 := Lib.hid (own_below OWGw10.out hkw12)
  have HBw12 : Hid (Below w.heap.size w w12) := Lib.hid (HBw10.out.trans (hkw12.mono HBw10.out.size))
  have zw12 : w9.heap.size ≤ w12.heap.size := by have := hkw12.size; omega
  clear hMk ba00_w10 ba01_w10 bx000_w10 bx001_w10 hbw11 hkw11 hownw11 lb0w10 lb1w10 OWWw10 OWX0w10 OWX1w10 OWGw10 HBw10 zw10 hbw12 hkw12
  go_wp2_with fail
  refine (HT1.out _ (h1.at_ HBw12.out)).mono ?_
  rintro e w13 ⟨A13, rfl, hownw13, hbw13⟩
  have OLY : Hid (∀ k, (Value.slice A13 xs1.length xs1.length).ownBlock = some k → w12.heap.size ≤ k ∧ k < w13.heap.size) := Lib.hid hownw13.lt
  have OWYw13 := Lib.hid hownw13
  have rw13 : w12.heap.size ≤ w13.heap.size := hbw13.size
  have lb0w13 : w.heap.size < w13.heap.size := by have := hbw13.size; omega
  have lb1w13 : w6.heap.size < w13.heap.size := by have := hbw13.size; omega
  have ba00_w13 : w13.cell? ⟨w.heap.size, 0, none⟩ = some (.int .i64 n0) := keepC hbw13 ba00_w12
  have ba01_w13 : w13.cell? ⟨w.heap.size, 1, none⟩ = some (.slice A0 xs0.length c0) := keepC hbw13 ba01_w12
  have bx000_w13 : w13.cell? ⟨w6.heap.size, 0, none⟩ = some (.int .i64 n0) := keepC hbw13 bx000_w12
  have bx001_w13 : w13.cell? ⟨w6.heap.size, 1, none⟩ = some (.slice A6 xs0.length xs0.length) := keepC hbw13 bx001_w12
  have OWWw13 := Lib.hid (own_below OWWw12.out hbw13)
  have OWX0w13 := Lib.hid (own_below OWX0w12.out hbw13)
  have OWX1w13 := Lib.hid (own_below OWX1w12.out hbw13)
  have OWGw13 := Lib.hid (own_below OWGw12.out hbw13)
  have HBw13 : Hid (Below w.heap.size w w13) := Lib.hid (HBw12.out.trans (hbw13.mono HBw12.out.size))
  clear lb0w12 lb1w12 ba00_w12 ba01_w12 bx000_w12 bx001_w12 OWWw12 OWX0w12 OWX1w12 OWGw12 HBw12 hbw13 hownw13
  go_wp2_with fail
  refine (HX1.out A8 A13 _ _ _ (Rd.of_own OWX1w13.out) (Rd.of_own OWYw13.out)).mono ?_
  rintro e w14 hqw14
  obtain ⟨rfl, hbw14⟩ := hqw14.below
  have lb0w14 : w.heap.size < w14.heap.size := by have := hbw14.size; omega
  have lb1w14 : w6.heap.size < w14.heap.size := by have := hbw14.size; omega
  have ba00_w14 : w14.cell? ⟨w.heap.size, 0, none⟩ = some (.int .i64 n0) := keepC hbw14 ba00_w13
  have ba01_w14 : w14.cell? ⟨w.heap.size, 1, none⟩ = some (.slice A0 xs0.length c0) := keepC hbw14 ba01_w13
  have bx000_w14 : w14.cell? ⟨w6.heap.size, 0, none⟩ = some (.int .i64 n0) := keepC hbw14 bx000_w13
  have bx001_w14 : w14.cell? ⟨w6.heap.size, 1, none⟩ = some (.slice A6 xs0.length xs0.length) := keepC hbw14 bx001_w13
  have OWWw14 := Lib.hid (own_below OWWw13.out hbw14)
  have OWX0w14 := Lib.hid (own_below OWX0w13.out hbw14)
  have OWX1w14 := Lib.hid (own_below OWX1w13.out hbw14)
  have OWGw14 := Lib.hid (own_below OWGw13.out hbw14)
  have OWYw14 := Lib.hid (own_below OWYw13.out hbw14)
  have HBw14 : Hid (Below w.heap.size w w14) := Lib.hid (HBw13.out.trans (hbw14.mono HBw13.out.size))
  have zw14 : w13.heap.size ≤ w14.heap.size := by have := hbw14.size; omega
  clear lb0w13 lb1w13 ba00_w13 ba01_w13 bx000_w13 bx001_w13 OWWw13 OWX0w13 OWX1w13 OWGw13 OWYw13 HBw13 hbw14 hqw14
  clear OWYw14 OLY
  go_wp2_with fail
  refine (HMx0.out A6 _ _ w14 (by omega) OWX0w14.out).mono ?_
  rintro e w15 ⟨rfl, hownw15, hgw15⟩
  have ndw15 : ∀ k, (k < w5.heap.size ∨ w6.heap.size ≤ k) → some k ≠ (Value.slice A6 xs0.length xs0.length).ownBlock := fun k hk h => by have := OLX0.out _ h.symm; omega
  have lb0w15 : w.heap.size < w15.heap.size := by have := hgw15.size; omega
  have lb1w15 : w6.heap.size < w15.heap.size := by have := hgw15.size; omega
  have ba00_w15 : w15.cell? ⟨w.heap.size, 0, none⟩ = some (.int .i64 n0) := hgw15.cell ba00_w14 (ndw15 (w.heap.size) (by omega))
  have ba01_w15 : w15.cell? ⟨w.heap.size, 1, none⟩ = some (.slice A0 xs0.length c0) := hgw15.cell ba01_w14 (ndw15 (w.heap.size) (by omega))
  have bx000_w15 : w15.cell? ⟨w6.heap.size, 0, none⟩ = some (.int .i64 n0) := hgw15.cell bx000_w14 (ndw15 (w6.heap.size) (by omega))
  have bx001_w15 : w15.cell? ⟨w6.heap.size, 1, none⟩ = some (.slice A6 xs0.length xs0.length) := hgw15.cell bx001_w14 (ndw15 (w6.heap.size) (by omega))
  have OWWw15 := Lib.hid (OWWw14.out.kept hgw15 (by
    cases hv : (Value.slice A5 ys.length c5).ownBlock with
    | none => exact .inl rfl
    | some k => exact .inr (ndw15 k (by have := OLW.out k hv; omega))))
  have OWX0w15 := Lib.hid hownw15
  have OWX1w15 := Lib.hid (OWX1w14.out.kept hgw15 (by
    cases hv : (Value.slice A8 xs1.length xs1.length).ownBlock with
    | none => exact .inl rfl
    | some k => exact .inr (ndw15 k (by have := OLX1.out k hv; omega))))
  have OWGw15 := Lib.hid (OWGw14.out.kept hgw15 (by
    cases hv : (Value.slice A9 ys.length c9).ownBlock with
    | none => exact .inl rfl
    | some k => exact .inr (ndw15 k (by have := OLG.out k hv; omega))))
  have HBw15 : Hid (Below w.heap.size w w15) := Lib.hid (HBw14.out.grown hgw15 HBw14.out.size (fun k hk => by have := (OLX0.out k hk).1; have := HBw14.out.size; omega))
  have zw15 : w13.heap.size ≤ w15.heap.size := by have := hgw15.size; omega
  clear ndw15 hgw15 hownw15 lb0w14 lb1w14 ba00_w14 ba01_w14 bx000_w14 bx001_w14 OWWw14 OWX0w14 OWX1w14 OWGw14 HBw14 zw14
  go_wp2_with fail
  refine (HMx1.out A8 _ _ w15 OWX1w15.out).mono ?_
  rintro e w16 ⟨rfl, hownw16, hgw16⟩
  have ndw16 : ∀ k, (k < w7.heap.size ∨ w8.heap.size ≤ k) → some k ≠ (Value.slice A8 xs1.length xs1.length).ownBlock := fun k hk h => by have := OLX1.out _ h.symm; omega
  have lb0w16 : w.heap.size < w16.heap.size := by have := hgw16.size; omega
  have lb1w16 : w6.heap.size < w16.heap.size := by have := hgw16.size; omega
  have ba00_w16 : w16.cell? ⟨w.heap.size, 0, none⟩ = some (.int .i64 n0) := hgw16.cell ba00_w15 (ndw16 (w.heap.size) (by omega))
  have ba01_w16 : w16.cell? ⟨w.heap.size, 1, none⟩ = some (.slice A0 xs0.length c0) := hgw16.cell ba01_w15 (ndw16 (w.heap.size) (by omega))
  have bx000_w16 : w16.cell? ⟨w6.heap.size, 0, none⟩ = some (.int .i64 n0) := hgw16.cell bx000_w15 (ndw16 (w6.heap.size) (by omega))
  have bx001_w16 : w16.cell? ⟨w6.heap.size, 1, none⟩ = some (.slice A6 xs0.length xs0.length) := hgw16.cell bx001_w15 (ndw16 (w6.heap.size) (by omega))
  have OWWw16 := Lib.hid (OWWw15.out.kept hgw16 (by
    cases hv : (Value.slice A5 ys.length c5).ownBlock with
    | none => exact .inl rfl
    | some k => exact .inr (ndw16 k (by have := OLW.out k hv; omega))))
  have OWX0w16 := Lib.hid (OWX0w15.out.kept hgw16 (by
    cases hv : (Value.slice A6 xs0.length xs0.length).ownBlock with
    | none => exact .inl rfl
    | some k => exact .inr (ndw16 k (by have := OLX0.out k hv; omega))))
  have OWX1w16 := Lib.hid hownw16
  have OWGw16 := Lib.hid (OWGw15.out.kept hgw16 (by
    cases hv : (Value.slice A9 ys.length c9).ownBlock with
    | none => exact .inl rfl
    | some k => exact .inr (ndw16 k (by have := OLG.out k hv; omega))))
  have HBw16 : Hid (Below w.heap.size w w16) := Lib.hid (HBw15.out.grown hgw16 HBw15.out.size (fun k hk => by have := (OLX1.out k hk).1; have := HBw15.out.size; omega))
  have zw16 : w13.heap.size ≤ w16.heap.size := by have := hgw16.size; omega
  clear ndw16 hgw16 hownw16 lb0w15 lb1w15 ba00_w15 ba01_w15 bx000_w15 bx001_w15 OWWw15 OWX0w15 OWX1w15 OWGw15 HBw15 zw15
  go_wp2_with fail
  refine (HE.out A9 A5 c9 c5 _ (Rd.of_own OWGw16.out) (Rd.of_own OWWw16.out)).mono ?_
  rintro e w17 hqw17
  obtain ⟨rfl, hbw17⟩ := hqw17.below
  have lb0w17 : w.heap.size < w17.heap.size := by have := hbw17.size; omega
  have lb1w17 : w6.heap.size < w17.heap.size := by have := hbw17.size; omega
  have ba00_w17 : w17.cell? ⟨w.heap.size, 0, none⟩ = some (.int .i64 n0) := keepC hbw17 ba00_w16
  have ba01_w17 : w17.cell? ⟨w.heap.size, 1, none⟩ = some (.slice A0 xs0.length c0) := keepC hbw17 ba01_w16
  have bx000_w17 : w17.cell? ⟨w6.heap.size, 0, none⟩ = some (.int .i64 n0) := keepC hbw17 bx000_w16
  have bx001_w17 : w17.cell? ⟨w6.heap.size, 1, none⟩ = some (.slice A6 xs0.length xs0.length) := keepC hbw17 bx001_w16
  have OWWw17 := Lib.hid (own_below OWWw16.out hbw17)
  have OWX0w17 := Lib.hid (own_below OWX0w16.out hbw17)
  have OWX1w17 := Lib.hid (own_below OWX1w16.out hbw17)
  have OWGw17 := Lib.hid (own_below OWGw16.out hbw17)
  have HBw17 : Hid (Below w.heap.size w w17) := Lib.hid (HBw16.out.trans (hbw17.mono HBw16.out.size))
  have zw17 : w13.heap.size ≤ w17.heap.size := by have := hbw17.size; omega
  clear lb0w16 lb1w16 ba00_w16 ba01_w16 bx000_w16 bx001_w16 OWWw16 OWX0w16 OWX1w16 OWGw16 HBw16 zw16 hbw17 hqw17
  go_wp2_with fail
  refine (HM.out A9 _ _ w17 OWGw17.out).mono ?_
  rintro e w18 ⟨rfl, hownw18, hgw18⟩
  have ndw18 : ∀ k, (k < w8.heap.size ∨ w9.heap.size ≤ k) → some k ≠ (Value.slice A9 ys.length c9).ownBlock := fun k hk h => by have := OLG.out _ h.symm; omega
  have lb0w18 : w.heap.size < w18.heap.size := by have := hgw18.size; omega
  have lb1w18 : w6.heap.size < w18.heap.size := by have := hgw18.size; omega
  have ba00_w18 : w18.cell? ⟨w.heap.size, 0, none⟩ = some (.int .i64 n0) := hgw18.cell ba00_w17 (ndw18 (w.heap.size) (by omega))
  have ba01_w18 : w18.cell? ⟨w.heap.size, 1, none⟩ = some (.slice A0 xs0.length c0) := hgw18.cell ba01_w17 (ndw18 (w.heap.size) (by omega))
  have bx000_w18 : w18.cell? ⟨w6.heap.size, 0, none⟩ = some (.int .i64 n0) := hgw18.cell bx000_w17 (ndw18 (w6.heap.size) (by omega))
  have bx001_w18 : w18.cell? ⟨w6.heap.size, 1, none⟩ = some (.slice A6 xs0.length xs0.length) := hgw18.cell bx001_w17 (ndw18 (w6.heap.size) (by omega))
  have OWWw18 := Lib.hid (OWWw17.out.kept hgw18 (by
    cases hv : (Value.slice A5 ys.length c5).ownBlock with
    | none => exact .inl rfl
    | some k => exact .inr (ndw18 k (by have := OLW.out k hv; omega))))
  have OWX0w18 := Lib.hid (OWX0w17.out.kept hgw18 (by
    cases hv : (Value.slice A6 xs0.length xs0.length).ownBlock with
    | none => exact .inl rfl
    | some k => exact .inr (ndw18 k (by have := OLX0.out k hv; omega))))
  have OWX1w18 := Lib.hid (OWX1w17.out.kept hgw18 (by
    cases hv : (Value.slice A8 xs1.length xs1.length).ownBlock with
    | none => exact .inl rfl
    | some k => exact .inr (ndw18 k (by have := OLX1.out k hv; omega))))
  have OWGw18 := Lib.hid hownw18
  have HBw18 : Hid (Below w.heap.size w w18) := Lib.hid (HBw17.out.grown hgw18 HBw17.out.size (fun k hk => by have := (OLG.out k hk).1; have := HBw17.out.size; omega))
  have zw18 : w13.heap.size ≤ w18.heap.size := by have := hgw18.size; omega
  clear ndw18 hgw18 hownw18 lb0w17 lb1w17 ba00_w17 ba01_w17 bx000_w17 bx001_w17 OWWw17 OWX0w17 OWX1w17 OWGw17 HBw17 zw17
  go_wp2_with fail
  refine (HH.out A9 c9 _ (Rd.of_own OWGw18.out)).mono ?_
  rintro e w19 hqw19
  obtain ⟨rfl, hbw19⟩ := hqw19.below
  have lb0w19 : w.heap.size < w19.heap.size := by have := hbw19.size; omega
  have lb1w19 : w6.heap.size < w19.heap.size := by have := hbw19.size; omega
  have ba00_w19 : w19.cell? ⟨w.heap.size, 0, none⟩ = some (.int .i64 n0) := keepC hbw19 ba00_w18
  have ba01_w19 : w19.cell? ⟨w.heap.size, 1, none⟩ = some (.slice A0 xs0.length c0) := keepC hbw19 ba01_w18
  have bx000_w19 : w19.cell? ⟨w6.heap.size, 0, none⟩ = some (.int .i64 n0) := keepC hbw19 bx000_w18
  have bx001_w19 : w19.cell? ⟨w6.heap.size, 1, none⟩ = some (.slice A6 xs0.length xs0.length) := keepC hbw19 bx001_w18
  have OWWw19 := Lib.hid (own_below OWWw18.out hbw19)
  have OWX0w19 := Lib.hid (own_below OWX0w18.out hbw19)
  have OWX1w19 := Lib.hid (own_below OWX1w18.out hbw19)
  have OWGw19 := Lib.hid (own_below OWGw18.out hbw19)
  have HBw19 : Hid (Below w.heap.size w w19) := Lib.hid (HBw18.out.trans (hbw19.mono HBw18.out.size))
  have zw19 : w13.heap.size ≤ w19.heap.size := by have := hbw19.size; omega
  clear lb0w18 lb1w18 ba00_w18 ba01_w18 bx000_w18 bx001_w18 OWWw18 OWX0w18 OWX1w18 OWGw18 HBw18 zw18 hbw19 hqw19
  go_wp2_with fail
  refine (HT0.out _ (h0.at_ HBw19.out)).mono ?_
  rintro e w20 ⟨A20, rfl, hownw20, hbw20⟩
  have OLtV0 : Hid (∀ k, (Value.slice A20 xs0.length xs0.length).ownBlock = some k → w19.heap.size ≤ k ∧ k < w20.heap.size) := Lib.hid hownw20.lt
  have OWtV0w20 := Lib.hid hownw20
  have rw20 : w19.heap.size ≤ w20.heap.size := hbw20.size
  have lb0w20 : w.heap.size < w20.heap.size := by have := hbw20.size; omega
  have lb1w20 : w6.heap.size < w20.heap.size := by have := hbw20.size; omega
  have ba00_w20 : w20.cell? ⟨w.heap.size, 0, none⟩ = some (.int .i64 n0) := keepC hbw20 ba00_w19
  have ba01_w20 : w20.cell? ⟨w.heap.size, 1, none⟩ = some (.slice A0 xs0.length c0) := keepC hbw20 ba01_w19
  have bx000_w20 : w20.cell? ⟨w6.heap.size, 0, none⟩ = some (.int .i64 n0) := keepC hbw20 bx000_w19
  have bx001_w20 : w20.cell? ⟨w6.heap.size, 1, none⟩ = some (.slice A6 xs0.length xs0.length) := keepC hbw20 bx001_w19
  have OWWw20 := Lib.hid (own_below OWWw19.out hbw20)
  have OWX0w20 := Lib.hid (own_below OWX0w19.out hbw20)
  have OWX1w20 := Lib.hid (own_below OWX1w19.out hbw20)
  have OWGw20 := Lib.hid (own_below OWGw19.out hbw20)
  have HBw20 : Hid (Below w.heap.size w w20) := Lib.hid (HBw19.out.trans (hbw20.mono HBw19.out.size))
  clear lb0w19 lb1w19 ba00_w19 ba01_w19 bx000_w19 bx001_w19 OWWw19 OWX0w19 OWX1w19 OWGw19 HBw19 hbw20 hownw20
  go_wp2_with fail
  refine (HT1.out _ (h1.at_ HBw20.out)).mono ?_
  rintro e w21 ⟨A21, rfl, hownw21, hbw21⟩
  have OLtV1 : Hid (∀ k, (Value.slice A21 xs1.length xs1.length).ownBlock = some k → w20.heap.size ≤ k ∧ k < w21.heap.size) := Lib.hid hownw21.lt
  have OWtV1w21 := Lib.hid hownw21
  have rw21 : w20.heap.size ≤ w21.heap.size := hbw21.size
  have lb0w21 : w.heap.size < w21.heap.size := by have := hbw21.size; omega
  have lb1w21 : w6.heap.size < w21.heap.size := by have := hbw21.size; omega
  have ba00_w21 : w21.cell? ⟨w.heap.size, 0, none⟩ = some (.int .i64 n0) := keepC hbw21 ba00_w20
  have ba01_w21 : w21.cell? ⟨w.heap.size, 1, none⟩ = some (.slice A0 xs0.length c0) := keepC hbw21 ba01_w20
  have bx000_w21 : w21.cell? ⟨w6.heap.size, 0, none⟩ = some (.int .i64 n0) := keepC hbw21 bx000_w20
  have bx001_w21 : w21.cell? ⟨w6.heap.size, 1, none⟩ = some (.slice A6 xs0.length xs0.length) := keepC hbw21 bx001_w20
  have OWWw21 := Lib.hid (own_below OWWw20.out hbw21)
  have OWX0w21 := Lib.hid (own_below OWX0w20.out hbw21)
  have OWX1w21 := Lib.hid (own_below OWX1w20.out hbw21)
  have OWGw21 := Lib.hid (own_below OWGw20.out hbw21)
  have OWtV0w21 := Lib.hid (own_below OWtV0w20.out hbw21)
  have HBw21 : Hid (Below w.heap.size w w21) := Lib.hid (HBw20.out.trans (hbw21.mono HBw20.out.size))
  clear lb0w20 lb1w20 ba00_w20 ba01_w20 bx000_w20 bx001_w20 OWWw20 OWX0w20 OWX1w20 OWGw20 OWtV0w20 HBw20 hbw21 hownw21
  go_wp2_with fail
  refine (HI.out A20 A21 _ (Rd.of_own OWtV0w21.out) (Rd.of_own OWtV1w21.out)).mono ?_
  rintro e w22 ⟨A22, c22, rfl, hownw22, hbw22⟩
  have OLV : Hid (∀ k, (Value.slice A22 ys.length c22).ownBlock = some k → w21.heap.size ≤ k ∧ k < w22.heap.size) := Lib.hid hownw22.lt
  have OWVw22 := Lib.hid hownw22
  have rw22 : w21.heap.size ≤ w22.heap.size := hbw22.size
  have lb0w22 : w.heap.size < w22.heap.size := by have := hbw22.size; omega
  have lb1w22 : w6.heap.size < w22.heap.size := by have := hbw22.size; omega
  have ba00_w22 : w22.cell? ⟨w.heap.size, 0, none⟩ = some (.int .i64 n0) := keepC hbw22 ba00_w21
  have ba01_w22 : w22.cell? ⟨w.heap.size, 1, none⟩ = some (.slice A0 xs0.length c0) := keepC hbw22 ba01_w21
  have bx000_w22 : w22.cell? ⟨w6.heap.size, 0, none⟩ = some (.int .i64 n0) := keepC hbw22 bx000_w21
  have bx001_w22 : w22.cell? ⟨w6.heap.size, 1, none⟩ = some (.slice A6 xs0.length xs0.length) := keepC hbw22 bx001_w21
  have OWWw22 := Lib.hid (own_below OWWw21.out hbw22)
  have OWX0w22 := Lib.hid (own_below OWX0w21.out hbw22)
  have OWX1w22 := Lib.hid (own_below OWX1w21.out hbw22)
  have OWGw22 := Lib.hid (own_below OWGw21.out hbw22)
  have OWtV0w22 := Lib.hid (own_below OWtV0w21.out hbw22)
  have OWtV1w22 := Lib.hid (own_below OWtV1w21.out hbw22)
  have HBw22 : Hid (Below w.heap.size w w22) := Lib.hid (HBw21.out.trans (hbw22.mono HBw21.out.size))
  clear lb0w21 lb1w21 ba00_w21 ba01_w21 bx000_w21 bx001_w21 OWWw21 OWX0w21 OWX1w21 OWGw21 OWtV0w21 OWtV1w21 HBw21 hbw22 hownw22
  clear OWtV0w22 OLtV0
  clear OWtV1w22 OLtV1
  go_wp2_with fail
  refine (HE.out A22 A5 c22 c5 _ (Rd.of_own OWVw22.out) (Rd.of_own OWWw22.out)).mono ?_
  rintro e w23 hqw23
  obtain ⟨rfl, hbw23⟩ := hqw23.below
  have lb0w23 : w.heap.size < w23.heap.size := by have := hbw23.size; omega
  have lb1w23 : w6.heap.size < w23.heap.size := by have := hbw23.size; omega
  have ba00_w23 : w23.cell? ⟨w.heap.size, 0, none⟩ = some (.int .i64 n0) := keepC hbw23 ba00_w22
  have ba01_w23 : w23.cell? ⟨w.heap.size, 1, none⟩ = some (.slice A0 xs0.length c0) := keepC hbw23 ba01_w22
  have bx000_w23 : w23.cell? ⟨w6.heap.size, 0, none⟩ = some (.int .i64 n0) := keepC hbw23 bx000_w22
  have bx001_w23 : w23.cell? ⟨w6.heap.size, 1, none⟩ = some (.slice A6 xs0.length xs0.length) := keepC hbw23 bx001_w22
  have OWWw23 := Lib.hid (own_below OWWw22.out hbw23)
  have OWX0w23 := Lib.hid (own_below OWX0w22.out hbw23)
  have OWX1w23 := Lib.hid (own_below OWX1w22.out hbw23)
  have OWGw23 := Lib.hid (own_below OWGw22.out hbw23)
  have OWVw23 := Lib.hid (own_below OWVw22.out hbw23)
  have HBw23 : Hid (Below w.heap.size w w23) := Lib.hid (HBw22.out.trans (hbw23.mono HBw22.out.size))
  have zw23 : w22.heap.size ≤ w23.heap.size := by have := hbw23.size; omega
  clear lb0w22 lb1w22 ba00_w22 ba01_w22 bx000_w22 bx001_w22 OWWw22 OWX0w22 OWX1w22 OWGw22 OWVw22 HBw22 hbw23 hqw23
  go_wp2_with fail
  refine (HH.out A9 c9 _ (Rd.of_own OWGw23.out)).mono ?_
  rintro e w24 hqw24
  obtain ⟨rfl, hbw24⟩ := hqw24.below
  have lb0w24 : w.heap.size < w24.heap.size := by have := hbw24.size; omega
  have lb1w24 : w6.heap.size < w24.heap.size := by have := hbw24.size; omega
  have ba00_w24 : w24.cell? ⟨w.heap.size, 0, none⟩ = some (.int .i64 n0) := keepC hbw24 ba00_w23
  have ba01_w24 : w24.cell? ⟨w.heap.size, 1, none⟩ = some (.slice A0 xs0.length c0) := keepC hbw24 ba01_w23
  have bx000_w24 : w24.cell? ⟨w6.heap.size, 0, none⟩ = some (.int .i64 n0) := keepC hbw24 bx000_w23
  have bx001_w24 : w24.cell? ⟨w6.heap.size, 1, none⟩ = some (.slice A6 xs0.length xs0.length) := keepC hbw24 bx001_w23
  have OWWw24 := Lib.hid (own_below OWWw23.out hbw24)
  have OWX0w24 := Lib.hid (own_below OWX0w23.out hbw24)
  have OWX1w24 := Lib.hid (own_below OWX1w23.out hbw24)
  have OWGw24 := Lib.hid (own_below OWGw23.out hbw24)
  have OWVw24 := Lib.hid (own_below OWVw23.out hbw24)
  have HBw24 : Hid (Below w.heap.size w w24) := Lib.hid (HBw23.out.trans (hbw24.mono HBw23.out.size))
  have zw24 : w22.heap.size ≤ w24.heap.size := by have := hbw24.size; omega
  clear lb0w23 lb1w23 ba00_w23 ba01_w23 bx000_w23 bx001_w23 OWWw23 OWX0w23 OWX1w23 OWGw23 OWVw23 HBw23 zw23 hbw24 hqw24
  go_wp2_with fail
  go_ret
  exact ⟨rfl, HBw24.out⟩

set_option maxRecDepth 100000 in
theorem lifted (os : Os) (started : os.Started) (H : Type) (enc : TypeId × Value → H) :
    ReturnsInHanded {} Try.checked os 13 .any (Rows.fnExactRunRowSpec.pre6 enc Try.prog Try.f13 Rows.fnExactRunRowRow.domain false) (Rows.fnExactRunRowSpec.post enc Try.prog Try.f13 false true false false) := by
  refine returnsInHanded_of_change (C := Try.checked) own started (by kernel_rfl) Try.func13
    (ChangeSpec.witness6 (enc := enc) (C := Try.checked) false ⟨#[], #[.agg #[.int .i64 0, .slice none 0 0], .slice none 0 0, .int .i64 0], []⟩ 8 (by kernel_rfl) (by kernel_rfl) (by kernel_rfl) (by kernel_rfl)) ?_
  intro W base args ds gs before hval0 hW hcnd _
  have hval : ∀ (j : Nat) t v, Try.f13.params[j]? = some t → args[j]? = some v → Value.okWide Try.prog W .any base t v := hval0
  have hW' := hW
  have hlt : ∀ p ∈ before, p.block < W.heap.size := fun p hp => hW.lt p hp
  obtain ⟨p, q, hA0, hV, rfl, hfz, hnd⟩ := hW
  have hA : DataW.TrodAll enc Try.prog W 0 (fun _ => true) true Try.f13.params.toList args.toList ds p := hA0
  rw [Try.params13] at hA hval
  have hA1 := hA
  obtain ⟨v0, vs0, d0, ds0, p0, q0, hargs, rfl, rfl, h0, r0⟩ := trodAll_cons hA
  obtain ⟨v1, vs1, d1, ds1, p1, q1, rfl, rfl, rfl, h1, r1⟩ := trodAll_cons r0
  obtain ⟨v2, vs2, d2, ds2, p2, q2, rfl, rfl, rfl, h2, r2⟩ := trodAll_cons r1
  obtain ⟨rfl, rfl, rfl⟩ := trodAll_nil r2
  obtain rfl : args = #[v0, v1, v2] := by cases args; simp_all
  obtain ⟨rfl, rfl⟩ := trodVars_none hV
  obtain ⟨n0, A0, xs0, c0, rfl, bd0, hx0, hr0, bf0⟩ := open_chain (hval 0 _ _ rfl rfl) h0
  obtain ⟨A1, xs1, c1, rfl, hx1, hr1, bf1⟩ := open_fl h1 (okWide_slice Try.underlying22 (hval 1 _ _ rfl rfl))
  obtain ⟨x2, rfl, -, -, wf2⟩ := open_int Try.underlying2 (hval 2 _ _ rfl rfl) h2
  have bd2 := int_bd wf2
  clear hA0 hval0
  refine (walk n0 A0 xs0 c0 A1 xs1 c1 x2 W hr0 hx0 bd0 bf0 hr1 hx1 bf1 bd2).mono fun e W' ⟨he, hb⟩ => ?_
  subst he
  rw [List.append_nil] at hW' hlt
  exact ⟨_, rfl, post_of_below (pa := _) (pv := []) hW' (fun _ _ _ => (trodAll_cons_mk (shut_bool Try.underlying4 _) trodAll_mk0))
    (fun sp hsp => trodAll_below cl_laid hb _ _ _ _ (by kernel_rfl) hA1 hlt hsp) (fun _ _ => rfl) (List.append_nil _).symm hb (ok_one (by kernel_rfl) rfl (okWide_bool_mk Try.underlying4 _))⟩

theorem g0 : Try.prog.funcNamed Rows.fnExactRunRowRow.func = some 13 := by kernel_rfl
theorem g1 : Rows.fnExactRunRowRow.inPlace = Try.prog.inPlace 13 := by kernel_rfl
theorem g2 : Rows.fnExactRunRowRow.unfollowed = Try.prog.unfollowed 13 := by kernel_rfl
theorem g3 : Rows.fnExactRunRowRow.recurses = Try.prog.recurses 13 := by kernel_rfl
theorem g4 : Rows.fnExactRunRowRow.named = Try.prog.varsNamed 13 := by kernel_rfl
theorem g5 : Rows.fnExactRunRowRow.wf (OpenSpec.ofChange Rows.fnExactRunRowSpec) = true := by kernel_rfl
theorem g6 : (Try.f13.params.all (Try.prog.readableRec ·)) = true := by kernel_rfl
theorem g7 : Rows.fnExactRunRowRow.veiledFits Try.prog Try.f13.params.toList (Try.f13.params.toList ++ Try.f13.resultTypes.toList) = true := by kernel_rfl
theorem g8 : joinedFacts Try.prog 13 Try.f13 Rows.fnExactRunRowSpec Rows.fnExactRunRowRow = true :=
  gen_facts _ _ _ _ rfl rfl cl_laid cl_maps cl_stops cl_knobs cl_heard cl_enter cl_lifts cl_make g5 g6 rfl rfl rfl g1 g2 g3 g4
    (by as_aux_lemma => kernel_rfl) (by as_aux_lemma => kernel_rfl) (by as_aux_lemma => kernel_rfl) (by as_aux_lemma => kernel_rfl) (by as_aux_lemma => kernel_rfl) (by as_aux_lemma => kernel_rfl) (by as_aux_lemma => kernel_rfl) (by as_aux_lemma => kernel_rfl)
    cl_keys.symm rfl rfl rfl rfl rfl (by as_aux_lemma => kernel_rfl) (by as_aux_lemma => kernel_rfl) g7
theorem g9 : Try.f13.isInstance Try.prog Rows.fnExactRunRowRow.origin Rows.fnExactRunRowRow.targs := of_decide_eq_true (by kernel_rfl)
theorem g10 : Try.f13.isWrapper Try.prog Rows.fnExactRunRowRow.wrapper Rows.fnExactRunRowRow.mainSum := by
  unfold Func.isWrapper; first | (rw [if_pos (by decide +kernel)]; kernel_rfl) | (rw [if_neg (by decide +kernel)]; exact ⟨rfl, rfl⟩)
theorem over : Rows.fnExactRunRowRow.holds Try.pinned (OpenSpec.ofChange Rows.fnExactRunRowSpec) :=
  OpenClaim.holds_of_wide 13 Try.f13 rfl rfl rfl rfl rfl rfl rfl ⟨rfl, rfl, rfl, rfl, rfl⟩ rfl rfl rfl rfl rfl g0 Try.func13 g8 g9 g10 (fun os started H enc _ => lifted os started H enc)
theorem proved : Rows.FnExactRunRowSaid := over
end Go.Proofs.Ytddaodjaeommlaa.lawRunRow
