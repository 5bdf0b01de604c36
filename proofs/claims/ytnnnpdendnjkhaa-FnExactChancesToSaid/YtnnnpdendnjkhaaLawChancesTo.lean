/-
  impl.ChancesTo returns what spec.ChancesTo returns, for every chain and two states (the law FnExactChancesTo returns true), in memory of its own where it gives a slice, and leaves its arguments as they were. No condition.
-/
import Derived.Test.YtnnnpdendnjkhaaTt3
import Derived.Test.YtnnnpdendnjkhaaToi
import Derived.Test.YtnnnpdendnjkhaaOpen
import Derived.Test.YtnnnpdendnjkhaaGive
import Derived.Deep.RegionHeld3
import Derived.Deep.DeepCutAuto
namespace Go.Proofs.Ytnnnpdendnjkhaa.lawChancesTo
open Go.ChangeShapes Go.WideShapes Go.ChangeAt Go.RowKit

theorem both (n0 : Int) (xs0 : List Nat) (x1 : Int) (x2 : Int) (hx0 : xs0.length ≤ 9223372036854775807) (bd0 : -9223372036854775808 ≤ n0 ∧ n0 ≤ 9223372036854775807) (bf0 : ∀ x ∈ xs0, x < 4294967296) (bd1 : -9223372036854775808 ≤ x1 ∧ x1 ≤ 9223372036854775807) (bd2 : -9223372036854775808 ≤ x2 ∧ x2 ≤ 9223372036854775807) : ∃ (ys : List Nat) (ok : Bool), ys.length ≤ 1048576 ∧ (∀ A50 c50 w, Rd w w.heap.size A50 (fl xs0) → Calls Try.prog 28 #[.agg #[.int .i64 n0, .slice A50 xs0.length c50], .int .i64 x1, .int .i64 x2] w (fun e w' => ∃ A c, e = .returned (.tuple #[.slice A ys.length c, .bool ok]) ∧ w'.ownsRow w.heap.size 42 1 (.slice A ys.length c) ys.length (fl ys) ∧ Below w.heap.size w w')) ∧
    (∀ A50 w, Rd w w.heap.size A50 (fl xs0) → Calls Try.prog 29 #[.agg #[.int .i64 n0, .slice A50 xs0.length xs0.length], .int .i64 x1, .int .i64 x2] w (fun e w' => ∃ A c, e = .returned (.tuple #[.slice A ys.length c, .bool ok]) ∧ w'.ownsRow w.heap.size 42 1 (.slice A ys.length c) ys.length (fl ys) ∧ Below w.heap.size w w')) := by
  have _uhx0 := hx0
  have _ubd0 := bd0
  have _ubf0 := bf0
  have _ubd1 := bd1
  have _ubd2 := bd2
  have hz : xs0.length ≤ xs0.length := Nat.le_refl _
  cases h : chB n0 xs0 x1 x2 with
  | false => exact ⟨[], false, by simp, fun A c w hA => specChancesTo_bad n0 x1 x2 A xs0 c w hx0 hA h, fun A w hA => ChancesTo_bad n0 x1 x2 A xs0 xs0.length w hz hx0 hA h⟩
  | true =>
    unfold chB at h
    rw [Bool.and_eq_true, Bool.and_eq_true, Bool.and_eq_true] at h
    obtain ⟨hv, hs, ht, hne⟩ := h
    obtain ⟨n, rfl, h1, h2, -⟩ := validB_facts hv
    have hr : 0 ≤ x1 ∧ x1 ≤ (n : Int) - 1 := of_decide_eq_true (show inB x1 0 ((n : Int) - 1) = true from hs)
    have hq : 0 ≤ x2 ∧ x2 ≤ (n : Int) - 1 := of_decide_eq_true (show inB x2 0 ((n : Int) - 1) = true from ht)
    have hd : x1 ≠ x2 := by simpa using hne
    obtain ⟨g, rfl⟩ := Int.eq_ofNat_of_zero_le hr.1
    obtain ⟨o, rfl⟩ := Int.eq_ofNat_of_zero_le hq.1
    refine ⟨_, _, ?_, fun A c w hA => specChancesTo_ok n g o A xs0 c w hx0 hA hv (by omega) (by omega) (by omega), fun A w hA => ChancesTo_ok n g o A xs0 xs0.length w hz hx0 hA hv (by omega) (by omega) (by omega)⟩
    cases hT : chancesN xs0 n g o with
    | none => simp
    | some ys =>
      show ys.length ≤ _
      rw [givenO_len hT]
      omega

set_option maxRecDepth 100000 in
set_option maxHeartbeats 12800000 in
theorem walk (n0 : Int) (A0 : Option Addr) (xs0 : List Nat) (c0 : Nat) (x1 : Int) (x2 : Int) (w : World) (h0 : Rd w w.heap.size A0 (fl xs0))  (hx0 : xs0.length ≤ 9223372036854775807) (bd0 : -9223372036854775808 ≤ n0 ∧ n0 ≤ 9223372036854775807) (bf0 : ∀ x ∈ xs0, x < 4294967296) (bd1 : -9223372036854775808 ≤ x1 ∧ x1 ≤ 9223372036854775807) (bd2 : -9223372036854775808 ≤ x2 ∧ x2 ≤ 9223372036854775807) :
    Calls Try.prog 7 #[.agg #[.int .i64 n0, .slice A0 xs0.length c0], .int .i64 x1, .int .i64 x2] w fun e w' => e = .returned (.bool true) ∧ Below w.heap.size w w' := by
  have HZ0 := Lib.hid fun w => szChain_any n0 A0 xs0.length c0 (1048576) w hx0 (by omega) (by omega)
  by_cases hl0 : (1048576 : Int) - (xs0.length : Int) < 0
  · have HL0 : Hid (leftOf (1048576) xs0.length = -1) := if_pos hl0
    clear hl0 bd0 bf0 bd1 bd2
    go_enter Try.func7, Try.ntmps7
    go_wp2_with fail
    refine (HZ0.out _).mono ?_
    rw [HL0.out]
    rintro e v0 ⟨rfl, hv0⟩
    have hu0 : Below w.heap.size w v0 := Below.trans (Below.alloc (Below.refl _ _) (by simp; try omega) _) (hv0.mono (by simp; try omega))
    have cc00 : v0.cell? ⟨w.heap.size, 0, none⟩ = some (.int .i64 n0) := keepC hv0 (by simp [go_sem])
    have cc01 : v0.cell? ⟨w.heap.size, 1, none⟩ = some (.slice A0 xs0.length c0) := keepC hv0 (by simp [go_sem])
    clear hv0
    go_wp2_with fail
    go_ret
    exact ⟨rfl, hu0⟩
  have HL0 : Hid (leftOf (1048576) xs0.length = 1048576 - xs0.length) := if_neg hl0
  have hy0 : xs0.length ≤ 1048576 := by omega
  obtain ⟨ys, ok, hm, HS0, HI0⟩ := both n0 xs0 x1 x2 hx0 bd0 bf0 bd1 bd2
  have HS := Lib.hid HS0
  have HI := Lib.hid HI0
  clear HS0 HI0
  have HT0 := Lib.hid fun w h => toChain_any n0 A0 xs0 c0 w hy0 h
  have HX0 := Lib.hid fun A B c d w hA hB => eqChain_yes n0 A B xs0 xs0 c d w (by omega) (sameL_refl xs0) hA hB
  have HMx0 := Lib.hid fun A base c w hb ho => markChain_any n0 A base xs0.length (fl xs0) c (1) w hy0 (by omega) (by omega) hb ho
  have HE := Lib.hid fun A B c d w hA hB => eqFloat32S_yes A B ys ys c d w (by omega) (sameL_refl ys) hA hB
  have HM := Lib.hid fun A base c w ho => markFloat32S_any A base ys.length (fl ys) c 1 w hm (by omega) (by omega) ho
  have HH := Lib.hid fun A c w hr => heldFloat32S_any A ys.length c 1 w hm (by omega) (by omega) hr
  clear bd0 bf0 bd1 bd2
  have HBw : Hid (Below w.heap.size w w) := Lib.hid (Below.refl _ _)
  go_enter Try.func7, Try.ntmps7
  go_wp2_with fail
  generalize hWw1 : World.alloc w _ = w1
  have hbw1 : Below w.heap.size w w1 := by rw [← hWw1]; exact Below.alloc (Below.refl _ _) (by simp; try omega) _
  have sw1 : w.heap.size + 1 ≤ w1.heap.size := by rw [← hWw1]; simp
  have ba00_w1 : w1.cell? ⟨w.heap.size, 0, none⟩ = some (.int .i64 n0) := by rw [← hWw1]; simp [go_sem]
  have ba01_w1 : w1.cell? ⟨w.heap.size, 1, none⟩ = some (.slice A0 xs0.length c0) := by rw [← hWw1]; simp [go_sem]
  have HBw1 : Hid (Below w.heap.size w w1) := Lib.hid (HBw.out.trans (hbw1.mono HBw.out.size))
  clear HBw hWw1 hbw1
  have lb0w1 : w.heap.size < w1.heap.size := by omega
  refine (HZ0.out _).mono ?_
  rw [HL0.out]
  rintro e w2 ⟨rfl, hbw2⟩
  have lb0w2 : w.heap.size < w2.heap.size := by have := hbw2.size; omega
  have ba00_w2 : w2.cell? ⟨w.heap.size, 0, none⟩ = some (.int .i64 n0) := keepC hbw2 ba00_w1
  have ba01_w2 : w2.cell? ⟨w.heap.size, 1, none⟩ = some (.slice A0 xs0.length c0) := keepC hbw2 ba01_w1
  have HBw2 : Hid (Below w.heap.size w w2) := Lib.hid (HBw1.out.trans (hbw2.mono HBw1.out.size))
  have zw2 : w.heap.size + 1 ≤ w2.heap.size := by have := hbw2.size; omega
  clear lb0w1 ba00_w1 ba01_w1 HBw1 hbw2
  go_wp2_with fail
  refine (HT0.out _ (h0.at_ HBw2.out)).mono ?_
  rintro e w3 ⟨A3, rfl, hownw3, hbw3⟩
  have OLtW0 : Hid (∀ k, (Value.slice A3 xs0.length xs0.length).ownBlock = some k → w2.heap.size ≤ k ∧ k < w3.heap.size) := Lib.hid hownw3.lt
  have OWtW0w3 := Lib.hid hownw3
  have rw3 : w2.heap.size ≤ w3.heap.size := hbw3.size
  have lb0w3 : w.heap.size < w3.heap.size := by have := hbw3.size; omega
  have ba00_w3 : w3.cell? ⟨w.heap.size, 0, none⟩ = some (.int .i64 n0) := keepC hbw3 ba00_w2
  have ba01_w3 : w3.cell? ⟨w.heap.size, 1, none⟩ = some (.slice A0 xs0.length c0) := keepC hbw3 ba01_w2
  have HBw3 : Hid (Below w.heap.size w w3) := Lib.hid (HBw2.out.trans (hbw3.mono HBw2.out.size))
  clear lb0w2 ba00_w2 ba01_w2 HBw2 hbw3 hownw3
  go_wp2_with fail
  refine (HS.out A3 _ _ (Rd.of_own OWtW0w3.out)).mono ?_
  rintro e w4 ⟨A4, c4, rfl, hownw4, hbw4⟩
  have OLW : Hid (∀ k, (Value.slice A4 ys.length c4).ownBlock = some k → w3.heap.size ≤ k ∧ k < w4.heap.size) := Lib.hid hownw4.lt
  have OWWw4 := Lib.hid hownw4
  have rw4 : w3.heap.size ≤ w4.heap.size := hbw4.size
  have lb0w4 : w.heap.size < w4.heap.size := by have := hbw4.size; omega
  have ba00_w4 : w4.cell? ⟨w.heap.size, 0, none⟩ = some (.int .i64 n0) := keepC hbw4 ba00_w3
  have ba01_w4 : w4.cell? ⟨w.heap.size, 1, none⟩ = some (.slice A0 xs0.length c0) := keepC hbw4 ba01_w3
  have OWtW0w4 := Lib.hid (own_below OWtW0w3.out hbw4)
  have HBw4 : Hid (Below w.heap.size w w4) := Lib.hid (HBw3.out.trans (hbw4.mono HBw3.out.size))
  clear lb0w3 ba00_w3 ba01_w3 OWtW0w3 HBw3 hbw4 hownw4
  clear OWtW0w4 OLtW0
  go_wp2_with fail
  refine (HT0.out _ (h0.at_ HBw4.out)).mono ?_
  rintro e w5 ⟨A5, rfl, hownw5, hbw5⟩
  have OLX0 : Hid (∀ k, (Value.slice A5 xs0.length xs0.length).ownBlock = some k → w4.heap.size ≤ k ∧ k < w5.heap.size) := Lib.hid hownw5.lt
  have OWX0w5 := Lib.hid hownw5
  have rw5 : w4.heap.size ≤ w5.heap.size := hbw5.size
  have lb0w5 : w.heap.size < w5.heap.size := by have := hbw5.size; omega
  have ba00_w5 : w5.cell? ⟨w.heap.size, 0, none⟩ = some (.int .i64 n0) := keepC hbw5 ba00_w4
  have ba01_w5 : w5.cell? ⟨w.heap.size, 1, none⟩ = some (.slice A0 xs0.length c0) := keepC hbw5 ba01_w4
  have OWWw5 := Lib.hid (own_below OWWw4.out hbw5)
  have HBw5 : Hid (Below w.heap.size w w5) := Lib.hid (HBw4.out.trans (hbw5.mono HBw4.out.size))
  clear lb0w4 ba00_w4 ba01_w4 OWWw4 HBw4 hbw5 hownw5
  go_wp2_with fail
  generalize hWw6 : World.alloc w5 _ = w6
  have hbw6 : Below w5.heap.size w5 w6 := by rw [← hWw6]; exact Below.alloc (Below.refl _ _) (by simp; try omega) _
  have sw6 : w5.heap.size + 1 ≤ w6.heap.size := by rw [← hWw6]; simp
  have bx000_w6 : w6.cell? ⟨w5.heap.size, 0, none⟩ = some (.int .i64 n0) := by rw [← hWw6]; simp [go_sem]
  have bx001_w6 : w6.cell? ⟨w5.heap.size, 1, none⟩ = some (.slice A5 xs0.length xs0.length) := by rw [← hWw6]; simp [go_sem]
  have lb0w6 : w.heap.size < w6.heap.size := by have := hbw6.size; omega
  have ba00_w6 : w6.cell? ⟨w.heap.size, 0, none⟩ = some (.int .i64 n0) := keepC hbw6 ba00_w5
  have ba01_w6 : w6.cell? ⟨w.heap.size, 1, none⟩ = some (.slice A0 xs0.length c0) := keepC hbw6 ba01_w5
  have OWWw6 := Lib.hid (own_below OWWw5.out hbw6)
  have OWX0w6 := Lib.hid (own_below OWX0w5.out hbw6)
  have HBw6 : Hid (Below w.heap.size w w6) := Lib.hid (HBw5.out.trans (hbw6.mono HBw5.out.size))
  clear lb0w5 ba00_w5 ba01_w5 OWWw5 OWX0w5 HBw5 hWw6 hbw6
  have lb1w6 : w5.heap.size < w6.heap.size := by omega
  refine (HI.out A5 _ (Rd.of_own OWX0w6.out)).mono ?_
  rintro e w7 ⟨A7, c7, rfl, hownw7, hbw7⟩
  have OLG : Hid (∀ k, (Value.slice A7 ys.length c7).ownBlock = some k → w6.heap.size ≤ k ∧ k < w7.heap.size) := Lib.hid hownw7.lt
  have OWGw7 := Lib.hid hownw7
  have rw7 : w6.heap.size ≤ w7.heap.size := hbw7.size
  have lb0w7 : w.heap.size < w7.heap.size := by have := hbw7.size; omega
  have lb1w7 : w5.heap.size < w7.heap.size := by have := hbw7.size; omega
  have ba00_w7 : w7.cell? ⟨w.heap.size, 0, none⟩ = some (.int .i64 n0) := keepC hbw7 ba00_w6
  have ba01_w7 : w7.cell? ⟨w.heap.size, 1, none⟩ = some (.slice A0 xs0.length c0) := keepC hbw7 ba01_w6
  have bx000_w7 : w7.cell? ⟨w5.heap.size, 0, none⟩ = some (.int .i64 n0) := keepC hbw7 bx000_w6
  have bx001_w7 : w7.cell? ⟨w5.heap.size, 1, none⟩ = some (.slice A5 xs0.length xs0.length) := keepC hbw7 bx001_w6
  have OWWw7 := Lib.hid (own_below OWWw6.out hbw7)
  have OWX0w7 := Lib.hid (own_below OWX0w6.out hbw7)
  have HBw7 : Hid (Below w.heap.size w w7) := Lib.hid (HBw6.out.trans (hbw7.mono HBw6.out.size))
  clear lb0w6 lb1w6 ba00_w6 ba01_w6 bx000_w6 bx001_w6 OWWw6 OWX0w6 HBw6 hbw7 hownw7
  go_wp2_with fail
  refine (HE.out A7 A4 c7 c4 _ (Rd.of_own OWGw7.out) (Rd.of_own OWWw7.out)).mono ?_
  rintro e w8 hqw8
  obtain ⟨rfl, hbw8⟩ := hqw8.below
  have lb0w8 : w.heap.size < w8.heap.size := by have := hbw8.size; omega
  have lb1w8 : w5.heap.size < w8.heap.size := by have := hbw8.size; omega
  have ba00_w8 : w8.cell? ⟨w.heap.size, 0, none⟩ = some (.int .i64 n0) := keepC hbw8 ba00_w7
  have ba01_w8 : w8.cell? ⟨w.heap.size, 1, none⟩ = some (.slice A0 xs0.length c0) := keepC hbw8 ba01_w7
  have bx000_w8 : w8.cell? ⟨w5.heap.size, 0, none⟩ = some (.int .i64 n0) := keepC hbw8 bx000_w7
  have bx001_w8 : w8.cell? ⟨w5.heap.size, 1, none⟩ = some (.slice A5 xs0.length xs0.length) := keepC hbw8 bx001_w7
  have OWWw8 := Lib.hid (own_below OWWw7.out hbw8)
  have OWX0w8 := Lib.hid (own_below OWX0w7.out hbw8)
  have OWGw8 := Lib.hid (own_below OWGw7.out hbw8)
  have HBw8 : Hid (Below w.heap.size w w8) := Lib.hid (HBw7.out.trans (hbw8.mono HBw7.out.size))
  have zw8 : w7.heap.size ≤ w8.heap.size := by have := hbw8.size; omega
  clear lb0w7 lb1w7 ba00_w7 ba01_w7 bx000_w7 bx001_w7 OWWw7 OWX0w7 OWGw7 HBw7 hbw8 hqw8
  go_wp2_with fail
  have hMk : Hid (∀ W, Below w8.heap.size w8 W → W.cell? ⟨w.heap.size, 0, none⟩ = some (.int .i64 n0) ∧ W.cell? ⟨w.heap.size, 1, none⟩ = some (.slice A0 xs0.length c0) ∧ W.cell? ⟨w5.heap.size, 0, none⟩ = some (.int .i64 n0) ∧ W.cell? ⟨w5.heap.size, 1, none⟩ = some (.slice A5 xs0.length xs0.length)) := Lib.hid fun W hW => ⟨keepC hW ba00_w8, keepC hW ba01_w8, keepC hW bx000_w8, keepC hW bx001_w8⟩
  go_region_held3 (fun W => W.cell? ⟨w.heap.size, 0, none⟩ = some (.int .i64 n0) ∧ W.cell? ⟨w.heap.size, 1, none⟩ = some (.slice A0 xs0.length c0) ∧ W.cell? ⟨w5.heap.size, 0, none⟩ = some (.int .i64 n0) ∧ W.cell? ⟨w5.heap.size, 1, none⟩ = some (.slice A5 xs0.length xs0.length))
    (first | exact hMk.out _ ((Below.refl _ _).drew) | exact hMk.out _ (by assumption))
    (first
      | (go_at_call 10; refine (HT0.out _ (h0.at_ HBw8.out.drew)).mono ?_; rintro e w9 ⟨A9, rfl, hownw9, hbw9⟩; have hkw9 : Below w8.heap.size w8 w9 := Below.trans (Below.refl _ _).drew hbw9)
      | (go_at_call 13; refine (HX0.out _ _ _ _ _ ((Rd.of_own OWX0w8.out).at_ hkw9) (Rd.of_own hownw9)).mono ?_; rintro e w10 ⟨rfl, hbw10⟩; have hkw10 : Below w8.heap.size w8 w10 := hkw9.trans (hbw10.mono hkw9.size)))
  obtain ⟨ba00_w10, ba01_w10, bx000_w10, bx001_w10⟩ := hMk.out _ hkw10
  have lb0w10 : w.heap.size < w10.heap.size := by have := hkw10.size; omega
  have lb1w10 : w5.heap.size < w10.heap.size := by have := hkw10.size; omega
  have OWWw10 := Lib.hid (own_below OWWw8.out hkw10)
  have OWX0w10 := Lib.hid (own_below OWX0w8.out hkw10)
  have OWGw10 := Lib.hid (own_below OWGw8.out hkw10)
  have HBw10 : Hid (Below w.heap.size w w10) := Lib.hid (HBw8.out.trans (hkw10.mono HBw8.out.size))
  have zw10 : w7.heap.size ≤ w10.heap.size := by have := hkw10.size; omega
  clear hMk ba00_w8 ba01_w8 bx000_w8 bx001_w8 hbw9 hkw9 hownw9 lb0w8 lb1w8 OWWw8 OWX0w8 OWGw8 HBw8 zw8 hbw10 hkw10
  go_wp2_with fail
  refine (HMx0.out A5 _ _ w10 (by omega) OWX0w10.out).mono ?_
  rintro e w11 ⟨rfl, hownw11, hgw11⟩
  have ndw11 : ∀ k, (k < w4.heap.size ∨ w5.heap.size ≤ k) → some k ≠ (Value.slice A5 xs0.length xs0.length).ownBlock := fun k hk h => by have := OLX0.out _ h.symm; omega
  have lb0w11 : w.heap.size < w11.heap.size := by have := hgw11.size; omega
  have lb1w11 : w5.heap.size < w11.heap.size := by have := hgw11.size; omega
  have ba00_w11 : w11.cell? ⟨w.heap.size, 0, none⟩ = some (.int .i64 n0) := hgw11.cell ba00_w10 (ndw11 (w.heap.size) (by omega))
  have ba01_w11 : w11.cell? ⟨w.heap.size, 1, none⟩ = some (.slice A0 xs0.length c0) := hgw11.cell ba01_w10 (ndw11 (w.heap.size) (by omega))
  have bx000_w11 : w11.cell? ⟨w5.heap.size, 0, none⟩ = some (.int .i64 n0) := hgw11.cell bx000_w10 (ndw11 (w5.heap.size) (by omega))
  have bx001_w11 : w11.cell? ⟨w5.heap.size, 1, none⟩ = some (.slice A5 xs0.length xs0.length) := hgw11.cell bx001_w10 (ndw11 (w5.heap.size) (by omega))
  have OWWw11 := Lib.hid (OWWw10.out.kept hgw11 (by
    cases hv : (Value.slice A4 ys.length c4).ownBlock with
    | none => exact .inl rfl
    | some k => exact .inr (ndw11 k (by have := OLW.out k hv; omega))))
  have OWX0w11 := Lib.hid hownw11
  have OWGw11 := Lib.hid (OWGw10.out.kept hgw11 (by
    cases hv : (Value.slice A7 ys.length c7).ownBlock with
    | none => exact .inl rfl
    | some k => exact .inr (ndw11 k (by have := OLG.out k hv; omega))))
  have HBw11 : Hid (Below w.heap.size w w11) := Lib.hid (HBw10.out.grown hgw11 HBw10.out.size (fun k hk => by have := (OLX0.out k hk).1; have := HBw10.out.size; omega))
  have zw11 : w7.heap.size ≤ w11.heap.size := by have := hgw11.size; omega
  clear ndw11 hgw11 hownw11 lb0w10 lb1w10 ba00_w10 ba01_w10 bx000_w10 bx001_w10 OWWw10 OWX0w10 OWGw10 HBw10 zw10
  go_wp2_with fail
  refine (HE.out A7 A4 c7 c4 _ (Rd.of_own OWGw11.out) (Rd.of_own OWWw11.out)).mono ?_
  rintro e w12 hqw12
  obtain ⟨rfl, hbw12⟩ := hqw12.below
  have lb0w12 : w.heap.size < w12.heap.size := by have := hbw12.size; omega
  have lb1w12 : w5.heap.size < w12.heap.size := by have := hbw12.size; omega
  have ba00_w12 : w12.cell? ⟨w.heap.size, 0, none⟩ = some (.int .i64 n0) := keepC hbw12 ba00_w11
  have ba01_w12 : w12.cell? ⟨w.heap.size, 1, none⟩ = some (.slice A0 xs0.length c0) := keepC hbw12 ba01_w11
  have bx000_w12 : w12.cell? ⟨w5.heap.size, 0, none⟩ = some (.int .i64 n0) := keepC hbw12 bx000_w11
  have bx001_w12 : w12.cell? ⟨w5.heap.size, 1, none⟩ = some (.slice A5 xs0.length xs0.length) := keepC hbw12 bx001_w11
  have OWWw12 := Lib.hid (own_below OWWw11.out hbw12)
  have OWX0w12 := Lib.hid (own_below OWX0w11.out hbw12)
  have OWGw12 := Lib.hid (own_below OWGw11.out hbw12)
  have HBw12 : Hid (Below w.heap.size w w12) := Lib.hid (HBw11.out.trans (hbw12.mono HBw11.out.size))
  have zw12 : w7.heap.size ≤ w12.heap.size := by have := hbw12.size; omega
  clear lb0w11 lb1w11 ba00_w11 ba01_w11 bx000_w11 bx001_w11 OWWw11 OWX0w11 OWGw11 HBw11 zw11 hbw12 hqw12
  go_wp2_with fail
  refine (HM.out A7 _ _ w12 OWGw12.out).mono ?_
  rintro e w13 ⟨rfl, hownw13, hgw13⟩
  have ndw13 : ∀ k, (k < w6.heap.size ∨ w7.heap.size ≤ k) → some k ≠ (Value.slice A7 ys.length c7).ownBlock := fun k hk h => by have := OLG.out _ h.symm; omega
  have lb0w13 : w.heap.size < w13.heap.size := by have := hgw13.size; omega
  have lb1w13 : w5.heap.size < w13.heap.size := by have := hgw13.size; omega
  have ba00_w13 : w13.cell? ⟨w.heap.size, 0, none⟩ = some (.int .i64 n0) := hgw13.cell ba00_w12 (ndw13 (w.heap.size) (by omega))
  have ba01_w13 : w13.cell? ⟨w.heap.size, 1, none⟩ = some (.slice A0 xs0.length c0) := hgw13.cell ba01_w12 (ndw13 (w.heap.size) (by omega))
  have bx000_w13 : w13.cell? ⟨w5.heap.size, 0, none⟩ = some (.int .i64 n0) := hgw13.cell bx000_w12 (ndw13 (w5.heap.size) (by omega))
  have bx001_w13 : w13.cell? ⟨w5.heap.size, 1, none⟩ = some (.slice A5 xs0.length xs0.length) := hgw13.cell bx001_w12 (ndw13 (w5.heap.size) (by omega))
  have OWWw13 := Lib.hid (OWWw12.out.kept hgw13 (by
    cases hv : (Value.slice A4 ys.length c4).ownBlock with
    | none => exact .inl rfl
    | some k => exact .inr (ndw13 k (by have := OLW.out k hv; omega))))
  have OWX0w13 := Lib.hid (OWX0w12.out.kept hgw13 (by
    cases hv : (Value.slice A5 xs0.length xs0.length).ownBlock with
    | none => exact .inl rfl
    | some k => exact .inr (ndw13 k (by have := OLX0.out k hv; omega))))
  have OWGw13 := Lib.hid hownw13
  have HBw13 : Hid (Below w.heap.size w w13) := Lib.hid (HBw12.out.grown hgw13 HBw12.out.size (fun k hk => by have := (OLG.out k hk).1; have := HBw12.out.size; omega))
  have zw13 : w7.heap.size ≤ w13.heap.size := by have := hgw13.size; omega
  clear ndw13 hgw13 hownw13 lb0w12 lb1w12 ba00_w12 ba01_w12 bx000_w12 bx001_w12 OWWw12 OWX0w12 OWGw12 HBw12 zw12
  go_wp2_with fail
  refine (HH.out A7 c7 _ (Rd.of_own OWGw13.out)).mono ?_
  rintro e w14 hqw14
  obtain ⟨rfl, hbw14⟩ := hqw14.below
  have lb0w14 : w.heap.size < w14.heap.size := by have := hbw14.size; omega
  have lb1w14 : w5.heap.size < w14.heap.size := by have := hbw14.size; omega
  have ba00_w14 : w14.cell? ⟨w.heap.size, 0, none⟩ = some (.int .i64 n0) := keepC hbw14 ba00_w13
  have ba01_w14 : w14.cell? ⟨w.heap.size, 1, none⟩ = some (.slice A0 xs0.length c0) := keepC hbw14 ba01_w13
  have bx000_w14 : w14.cell? ⟨w5.heap.size, 0, none⟩ = some (.int .i64 n0) := keepC hbw14 bx000_w13
  have bx001_w14 : w14.cell? ⟨w5.heap.size, 1, none⟩ = some (.slice A5 xs0.length xs0.length) := keepC hbw14 bx001_w13
  have OWWw14 := Lib.hid (own_below OWWw13.out hbw14)
  have OWX0w14 := Lib.hid (own_below OWX0w13.out hbw14)
  have OWGw14 := Lib.hid (own_below OWGw13.out hbw14)
  have HBw14 : Hid (Below w.heap.size w w14) := Lib.hid (HBw13.out.trans (hbw14.mono HBw13.out.size))
  have zw14 : w7.heap.size ≤ w14.heap.size := by have := hbw14.size; omega
  clear lb0w13 lb1w13 ba00_w13 ba01_w13 bx000_w13 bx001_w13 OWWw13 OWX0w13 OWGw13 HBw13 zw13 hbw14 hqw14
  go_wp2_with fail
  refine (HT0.out _ (h0.at_ HBw14.out)).mono ?_
  rintro e w15 ⟨A15, rfl, hownw15, hbw15⟩
  have OLtV0 : Hid (∀ k, (Value.slice A15 xs0.length xs0.length).ownBlock = some k → w14.heap.size ≤ k ∧ k < w15.heap.size) := Lib.hid hownw15.lt
  have OWtV0w15 := Lib.hid hownw15
  have rw15 : w14.heap.size ≤ w15.heap.size := hbw15.size
  have lb0w15 : w.heap.size < w15.heap.size := by have := hbw15.size; omega
  have lb1w15 : w5.heap.size < w15.heap.size := by have := hbw15.size; omega
  have ba00_w15 : w15.cell? ⟨w.heap.size, 0, none⟩ = some (.int .i64 n0) := keepC hbw15 ba00_w14
  have ba01_w15 : w15.cell? ⟨w.heap.size, 1, none⟩ = some (.slice A0 xs0.length c0) := keepC hbw15 ba01_w14
  have bx000_w15 : w15.cell? ⟨w5.heap.size, 0, none⟩ = some (.int .i64 n0) := keepC hbw15 bx000_w14
  have bx001_w15 : w15.cell? ⟨w5.heap.size, 1, none⟩ = some (.slice A5 xs0.length xs0.length) := keepC hbw15 bx001_w14
  have OWWw15 := Lib.hid (own_below OWWw14.out hbw15)
  have OWX0w15 := Lib.hid (own_below OWX0w14.out hbw15)
  have OWGw15 := Lib.hid (own_below OWGw14.out hbw15)
  have HBw15 : Hid (Below w.heap.size w w15) := Lib.hid (HBw14.out.trans (hbw15.mono HBw14.out.size))
  clear lb0w14 lb1w14 ba00_w14 ba01_w14 bx000_w14 bx001_w14 OWWw14 OWX0w14 OWGw14 HBw14 hbw15 hownw15
  go_wp2_with fail
  refine (HI.out A15 _ (Rd.of_own OWtV0w15.out)).mono ?_
  rintro e w16 ⟨A16, c16, rfl, hownw16, hbw16⟩
  have OLV : Hid (∀ k, (Value.slice A16 ys.length c16).ownBlock = some k → w15.heap.size ≤ k ∧ k < w16.heap.size) := Lib.hid hownw16.lt
  have OWVw16 := Lib.hid hownw16
  have rw16 : w15.heap.size ≤ w16.heap.size := hbw16.size
  have lb0w16 : w.heap.size < w16.heap.size := by have := hbw16.size; omega
  have lb1w16 : w5.heap.size < w16.heap.size := by have := hbw16.size; omega
  have ba00_w16 : w16.cell? ⟨w.heap.size, 0, none⟩ = some (.int .i64 n0) := keepC hbw16 ba00_w15
  have ba01_w16 : w16.cell? ⟨w.heap.size, 1, none⟩ = some (.slice A0 xs0.length c0) := keepC hbw16 ba01_w15
  have bx000_w16 : w16.cell? ⟨w5.heap.size, 0, none⟩ = some (.int .i64 n0) := keepC hbw16 bx000_w15
  have bx001_w16 : w16.cell? ⟨w5.heap.size, 1, none⟩ = some (.slice A5 xs0.length xs0.length) := keepC hbw16 bx001_w15
  have OWWw16 := Lib.hid (own_below OWWw15.out hbw16)
  have OWX0w16 := Lib.hid (own_below OWX0w15.out hbw16)
  have OWGw16 := Lib.hid (own_below OWGw15.out hbw16)
  have OWtV0w16 := Lib.hid (own_below OWtV0w15.out hbw16)
  have HBw16 : Hid (Below w.heap.size w w16) := Lib.hid (HBw15.out.trans (hbw16.mono HBw15.out.size))
  clear lb0w15 lb1w15 ba00_w15 ba01_w15 bx000_w15 bx001_w15 OWWw15 OWX0w15 OWGw15 OWtV0w15 HBw15 hbw16 hownw16
  clear OWtV0w16 OLtV0
  go_wp2_with fail
  refine (HE.out A16 A4 c16 c4 _ (Rd.of_own OWVw16.out) (Rd.of_own OWWw16.out)).mono ?_
  rintro e w17 hqw17
  obtain ⟨rfl, hbw17⟩ := hqw17.below
  have lb0w17 : w.heap.size < w17.heap.size := by have := hbw17.size; omega
  have lb1w17 : w5.heap.size < w17.heap.size := by have := hbw17.size; omega
  have ba00_w17 : w17.cell? ⟨w.heap.size, 0, none⟩ = some (.int .i64 n0) := keepC hbw17 ba00_w16
  have ba01_w17 : w17.cell? ⟨w.heap.size, 1, none⟩ = some (.slice A0 xs0.length c0) := keepC hbw17 ba01_w16
  have bx000_w17 : w17.cell? ⟨w5.heap.size, 0, none⟩ = some (.int .i64 n0) := keepC hbw17 bx000_w16
  have bx001_w17 : w17.cell? ⟨w5.heap.size, 1, none⟩ = some (.slice A5 xs0.length xs0.length) := keepC hbw17 bx001_w16
  have OWWw17 := Lib.hid (own_below OWWw16.out hbw17)
  have OWX0w17 := Lib.hid (own_below OWX0w16.out hbw17)
  have OWGw17 := Lib.hid (own_below OWGw16.out hbw17)
  have OWVw17 := Lib.hid (own_below OWVw16.out hbw17)
  have HBw17 : Hid (Below w.heap.size w w17) := Lib.hid (HBw16.out.trans (hbw17.mono HBw16.out.size))
  have zw17 : w16.heap.size ≤ w17.heap.size := by have := hbw17.size; omega
  clear lb0w16 lb1w16 ba00_w16 ba01_w16 bx000_w16 bx001_w16 OWWw16 OWX0w16 OWGw16 OWVw16 HBw16 hbw17 hqw17
  go_wp2_with fail
  refine (HH.out A7 c7 _ (Rd.of_own OWGw17.out)).mono ?_
  rintro e w18 hqw18
  obtain ⟨rfl, hbw18⟩ := hqw18.below
  have lb0w18 : w.heap.size < w18.heap.size := by have := hbw18.size; omega
  have lb1w18 : w5.heap.size < w18.heap.size := by have := hbw18.size; omega
  have ba00_w18 : w18.cell? ⟨w.heap.size, 0, none⟩ = some (.int .i64 n0) := keepC hbw18 ba00_w17
  have ba01_w18 : w18.cell? ⟨w.heap.size, 1, none⟩ = some (.slice A0 xs0.length c0) := keepC hbw18 ba01_w17
  have bx000_w18 : w18.cell? ⟨w5.heap.size, 0, none⟩ = some (.int .i64 n0) := keepC hbw18 bx000_w17
  have bx001_w18 : w18.cell? ⟨w5.heap.size, 1, none⟩ = some (.slice A5 xs0.length xs0.length) := keepC hbw18 bx001_w17
  have OWWw18 := Lib.hid (own_below OWWw17.out hbw18)
  have OWX0w18 := Lib.hid (own_below OWX0w17.out hbw18)
  have OWGw18 := Lib.hid (own_below OWGw17.out hbw18)
  have OWVw18 := Lib.hid (own_below OWVw17.out hbw18)
  have HBw18 : Hid (Below w.heap.size w w18) := Lib.hid (HBw17.out.trans (hbw18.mono HBw17.out.size))
  have zw18 : w16.heap.size ≤ w18.heap.size := by have := hbw18.size; omega
  clear lb0w17 lb1w17 ba00_w17 ba01_w17 bx000_w17 bx001_w17 OWWw17 OWX0w17 OWGw17 OWVw17 HBw17 zw17 hbw18 hqw18
  go_wp2_with fail
  go_ret
  exact ⟨rfl, HBw18.out⟩

set_option maxRecDepth 100000 in
set_option maxHeartbeats 3200000 in
theorem lifted (os : Os) (started : os.Started) (H : Type) (enc : TypeId × Value → H) :
    ReturnsInHanded {} Try.checked os 7 .any (Rows.fnExactChancesToSpec.pre6 enc Try.prog Try.f7 Rows.fnExactChancesToRow.domain false) (Rows.fnExactChancesToSpec.post enc Try.prog Try.f7 false true false false) := by
  refine returnsInHanded_of_change (C := Try.checked) own started (by kernel_rfl) Try.func7
    (ChangeSpec.witness6 (enc := enc) (C := Try.checked) false ⟨#[], #[.agg #[.int .i64 0, .slice none 0 0], .int .i64 0, .int .i64 0], []⟩ 8 (by kernel_rfl) (by kernel_rfl) (by kernel_rfl) (by kernel_rfl)) ?_
  intro W base args ds gs before hval0 hW hcnd _
  have hval : ∀ (j : Nat) t v, Try.f7.params[j]? = some t → args[j]? = some v → Value.okWide Try.prog W .any base t v := hval0
  have hW' := hW
  have hlt : ∀ p ∈ before, p.block < W.heap.size := fun p hp => hW.lt p hp
  obtain ⟨p, q, hA0, hV, rfl, hfz, hnd⟩ := hW
  have hA : DataW.TrodAll enc Try.prog W 0 (fun _ => true) true Try.f7.params.toList args.toList ds p := hA0
  rw [Try.params7] at hA hval
  have hA1 := hA
  obtain ⟨v0, vs0, d0, ds0, p0, q0, hargs, rfl, rfl, h0, r0⟩ := trodAll_cons hA
  obtain ⟨v1, vs1, d1, ds1, p1, q1, rfl, rfl, rfl, h1, r1⟩ := trodAll_cons r0
  obtain ⟨v2, vs2, d2, ds2, p2, q2, rfl, rfl, rfl, h2, r2⟩ := trodAll_cons r1
  obtain ⟨rfl, rfl, rfl⟩ := trodAll_nil r2
  obtain rfl : args = #[v0, v1, v2] := by cases args; simp_all
  obtain ⟨rfl, rfl⟩ := trodVars_none hV
  obtain ⟨n0, A0, xs0, c0, rfl, bd0, hx0, hr0, bf0⟩ := open_chain (hval 0 _ _ rfl rfl) h0
  obtain ⟨x1, rfl, -, -, wf1⟩ := open_int Try.underlying2 (hval 1 _ _ rfl rfl) h1
  have bd1 := int_bd wf1
  obtain ⟨x2, rfl, -, -, wf2⟩ := open_int Try.underlying2 (hval 2 _ _ rfl rfl) h2
  have bd2 := int_bd wf2
  clear hA0 hval0
  refine (walk n0 A0 xs0 c0 x1 x2 W hr0 hx0 bd0 bf0 bd1 bd2).mono fun e W' ⟨he, hb⟩ => ?_
  subst he
  rw [List.append_nil] at hW' hlt
  exact ⟨_, rfl, post_of_below (pa := _) (pv := []) hW' (fun _ _ _ => (trodAll_cons_mk (shut_bool Try.underlying4 _) trodAll_mk0))
    (fun sp hsp => trodAll_below cl_laid hb _ _ _ _ (by kernel_rfl) hA1 hlt hsp) (fun _ _ => rfl) (List.append_nil _).symm hb (ok_one (by kernel_rfl) rfl (okWide_bool_mk Try.underlying4 _))⟩

theorem g0 : Try.prog.funcNamed Rows.fnExactChancesToRow.func = some 7 := by kernel_rfl
theorem g1 : Rows.fnExactChancesToRow.inPlace = Try.prog.inPlace 7 := by kernel_rfl
theorem g2 : Rows.fnExactChancesToRow.unfollowed = Try.prog.unfollowed 7 := by kernel_rfl
theorem g3 : Rows.fnExactChancesToRow.recurses = Try.prog.recurses 7 := by kernel_rfl
theorem g4 : Rows.fnExactChancesToRow.named = Try.prog.varsNamed 7 := by kernel_rfl
theorem g5 : Rows.fnExactChancesToRow.wf (OpenSpec.ofChange Rows.fnExactChancesToSpec) = true := by kernel_rfl
theorem g6 : (Try.f7.params.all (Try.prog.readableRec ·)) = true := by kernel_rfl
theorem g7 : Rows.fnExactChancesToRow.veiledFits Try.prog Try.f7.params.toList (Try.f7.params.toList ++ Try.f7.resultTypes.toList) = true := by kernel_rfl
theorem g8 : joinedFacts Try.prog 7 Try.f7 Rows.fnExactChancesToSpec Rows.fnExactChancesToRow = true :=
  gen_facts _ _ _ _ rfl rfl cl_laid cl_maps cl_stops cl_knobs cl_heard cl_enter cl_lifts cl_make g5 g6 rfl rfl rfl g1 g2 g3 g4
    (by as_aux_lemma => kernel_rfl) (by as_aux_lemma => kernel_rfl) (by as_aux_lemma => kernel_rfl) (by as_aux_lemma => kernel_rfl) (by as_aux_lemma => kernel_rfl) (by as_aux_lemma => kernel_rfl) (by as_aux_lemma => kernel_rfl) (by as_aux_lemma => kernel_rfl)
    cl_keys.symm rfl rfl rfl rfl rfl (by as_aux_lemma => kernel_rfl) (by as_aux_lemma => kernel_rfl) g7
theorem g9 : Try.f7.isInstance Try.prog Rows.fnExactChancesToRow.origin Rows.fnExactChancesToRow.targs := of_decide_eq_true (by kernel_rfl)
theorem g10 : Try.f7.isWrapper Try.prog Rows.fnExactChancesToRow.wrapper Rows.fnExactChancesToRow.mainSum := by
  unfold Func.isWrapper; first | (rw [if_pos (by decide +kernel)]; kernel_rfl) | (rw [if_neg (by decide +kernel)]; exact ⟨rfl, rfl⟩)
theorem over : Rows.fnExactChancesToRow.holds Try.pinned (OpenSpec.ofChange Rows.fnExactChancesToSpec) :=
  OpenClaim.holds_of_wide 7 Try.f7 rfl rfl rfl rfl rfl rfl rfl ⟨rfl, rfl, rfl, rfl, rfl⟩ rfl rfl rfl rfl rfl g0 Try.func7 g8 g9 g10 (fun os started H enc _ => lifted os started H enc)
theorem proved : Rows.FnExactChancesToSaid := over
end Go.Proofs.Ytnnnpdendnjkhaa.lawChancesTo
