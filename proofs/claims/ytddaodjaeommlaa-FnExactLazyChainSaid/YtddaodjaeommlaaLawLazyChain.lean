/-
  impl.LazyChain returns what spec.LazyChain returns, for every chain and number (the law FnExactLazyChain returns true), in memory of its own, and leaves its arguments as they were. No condition.
-/
import Derived.Test.YtddaodjaeommlaaLaz2
import Derived.Deep.RegionHeld3
namespace Go.Proofs.Ytddaodjaeommlaa.lawLazyChain
open Go.ChangeShapes Go.WideShapes Go.ChangeAt Go.RowKit

theorem both (n : Int) (xs : List Nat) (st : Nat) (hx : xs.length ≤ 9223372036854775807) : ∃ sd ys ok, ys.length ≤ 1048576 ∧
    (∀ A c w, Rd w w.heap.size A (fl xs) → Calls Try.prog 43 #[.agg #[.int .i64 n, .slice A xs.length c], .float .f32 st] w (chOut sd ys ok w)) ∧
    (∀ A w, Rd w w.heap.size A (fl xs) → Calls Try.prog 44 #[.agg #[.int .i64 n, .slice A xs.length xs.length], .float .f32 st] w (chOut sd ys ok w)) := by
  cases h : (validB n xs && partB st) with
  | false => exact ⟨0, [], false, by simp, fun A c w hR => specLazyChain_bad n A xs c st w hx hR h, fun A w hR => LazyChain_bad n A xs xs.length st w (Nat.le_refl _) hx hR h⟩
  | true =>
    rw [Bool.and_eq_true] at h
    obtain ⟨m, rfl, h1, h2, -⟩ := validB_facts h.1
    refine ⟨_, _, _, ?_, fun A c w hR => specLazyChain_ok m A xs c st w hx hR h.1 h.2, fun A w hR => LazyChain_ok m A xs xs.length st w (Nat.le_refl _) hx hR h.1 h.2⟩
    unfold stepsOf
    have h3 : m * m ≤ 144 := Nat.mul_le_mul h2 h2
    split
    · rw [tab_len]; omega
    · simp

set_option maxHeartbeats 6400000 in
theorem walk (n : Int) (A : Option Addr) (xs : List Nat) (c : Nat) (st : Nat) (w : World) (h : Rd w w.heap.size A (fl xs)) (hx : xs.length ≤ 9223372036854775807) (_bd : -9223372036854775808 ≤ n ∧ n ≤ 9223372036854775807) (_bf : ∀ x ∈ xs, x < 4294967296) :
    Calls Try.prog 9 #[.agg #[.int .i64 n, .slice A xs.length c], .float .f32 st] w fun e w' => e = .returned (.bool true) ∧ Below w.heap.size w w' := by
  have HZ := Lib.hid fun w => szChain_any n A xs.length c 1048576 w hx (by omega) (by omega)
  by_cases hl : (1048576 : Int) - (xs.length : Int) < 0
  · have HL : Hid (leftOf 1048576 xs.length = -1) := if_pos hl
    clear hl _bf
    go_enter Try.func9, Try.ntmps9
    go_wp2_with (go_at_call 27; refine (HZ.out _).mono ?_; rw [HL.out]; rintro e w1 ⟨rfl, hb1⟩)
    go_ret
    exact ⟨rfl, Below.trans ((Below.refl _ _).alloc (Nat.le_refl _) _) (hb1.mono (by simp))⟩
  have HL : Hid (leftOf 1048576 xs.length = 1048576 - xs.length) := if_neg hl
  have hx2 : xs.length ≤ 1048576 := by omega
  obtain ⟨sd, ys, ok, hy, hs, hi⟩ := both n xs st hx
  have HS := Lib.hid hs
  have HI := Lib.hid hi
  have HT := Lib.hid fun w h => toChain_any n A xs c w hx2 h
  have HE := Lib.hid fun A B c d w hA hB => eqChain_yes sd A B ys ys c d w (by omega) (sameL_refl ys) hA hB
  have HX := Lib.hid fun A B c d w hA hB => eqChain_yes n A B xs xs c d w (by omega) (sameL_refl xs) hA hB
  have HMx := Lib.hid fun A base c w hb ho => markChain_any n A base xs.length (fl xs) c 1 w hx2 (by omega) (by omega) hb ho
  have HM := Lib.hid fun A base c w hb ho => markChain_any sd A base ys.length (fl ys) c 1 w hy (by omega) (by omega) hb ho
  have HH := Lib.hid fun A c w hr => heldChain_any sd A ys.length c 1 w hy (by omega) (by omega) hr
  clear hs hi _bd _bf
  go_enter Try.func9, Try.ntmps9
  go_wp2_with fail
  refine (HZ.out _).mono ?_
  rw [HL.out]
  rintro e w1 ⟨rfl, hb1⟩
  have a0w1 : w1.cell? ⟨w.heap.size, 0, none⟩ = some (.int .i64 n) := keepC hb1 (by simp)
  have a1w1 : w1.cell? ⟨w.heap.size, 1, none⟩ = some (.slice A xs.length c) := keepC hb1 (by simp)
  have HB1 : Hid (Below w.heap.size w w1) := Below.trans ((Below.refl _ _).alloc (Nat.le_refl _) _) (hb1.mono (by simp))
  have l1 : w.heap.size < w1.heap.size := by have := hb1.size; simp at this; omega
  clear hb1
  go_wp2_with fail
  refine (HT.out _ (h.at_ HB1.out)).mono ?_
  rintro e w2 ⟨A2, rfl, hown2, hb2⟩
  have a0w2 : w2.cell? ⟨w.heap.size, 0, none⟩ = some (.int .i64 n) := keepC hb2 a0w1
  have a1w2 : w2.cell? ⟨w.heap.size, 1, none⟩ = some (.slice A xs.length c) := keepC hb2 a1w1
  clear a0w1 a1w1
  have HB2 : Hid (Below w.heap.size w w2) := HB1.out.trans (hb2.mono (by omega))
  have l2 : w.heap.size < w2.heap.size := by have := hb2.size; omega
  clear hb2 HB1 l1
  go_wp2_with fail
  refine (HS.out _ _ _ (Rd.of_own hown2)).mono ?_
  rintro e w3 ⟨A3, c3, rfl, hown3, hb3⟩
  clear hown2
  have a0w3 : w3.cell? ⟨w.heap.size, 0, none⟩ = some (.int .i64 n) := keepC hb3 a0w2
  have a1w3 : w3.cell? ⟨w.heap.size, 1, none⟩ = some (.slice A xs.length c) := keepC hb3 a1w2
  clear a0w2 a1w2
  have HB3 : Hid (Below w.heap.size w w3) := HB2.out.trans (hb3.mono (by omega))
  have l3 : w.heap.size < w3.heap.size := by have := hb3.size; omega
  have rd3 := Rd.of_own hown3
  clear hb3 HB2 l2 hown3
  go_wp2_with fail
  refine (HT.out _ (h.at_ (HB3.out.alloc HB3.out.size _))).mono ?_
  rintro e w4 ⟨A4, rfl, hown4', hb4⟩
  have hown4 := own_base (base' := w3.heap.size + 1) hown4' (by simp)
  have a0w4 : w4.cell? ⟨w.heap.size, 0, none⟩ = some (.int .i64 n) := keepC hb4 (keepC ((Below.refl _ _).alloc (Nat.le_refl _) _) a0w3)
  have a1w4 : w4.cell? ⟨w.heap.size, 1, none⟩ = some (.slice A xs.length c) := keepC hb4 (keepC ((Below.refl _ _).alloc (Nat.le_refl _) _) a1w3)
  clear a0w3 a1w3
  have p0w4 : w4.cell? ⟨w3.heap.size, 0, none⟩ = some (.int .i64 sd) := keepC hb4 (by simp)
  have p1w4 : w4.cell? ⟨w3.heap.size, 1, none⟩ = some (.slice A3 ys.length c3) := keepC hb4 (by simp)
  have HC4 : Hid (Below w3.heap.size w3 w4) := Below.trans ((Below.refl _ _).alloc (Nat.le_refl _) _) (hb4.mono (by simp))
  have l4 : w3.heap.size < w4.heap.size := by have := hb4.size; simp at this; omega
  have l4' : w.heap.size < w4.heap.size := by omega
  have ol4 : ∀ k, (Value.slice A4 xs.length xs.length).ownBlock = some k → w3.heap.size + 1 ≤ k ∧ k < w4.heap.size := hown4.lt
  have OL4 := Lib.hid ol4
  have OW4 := Lib.hid hown4
  clear hb4 hown4 hown4' ol4
  go_wp2_with fail
  refine (HI.out _ _ ((Rd.of_own OW4.out).at_ ((Below.refl _ _).alloc (Nat.le_refl _) _))).mono ?_
  rintro e w5 ⟨A5, c5, rfl, hown5', hb5⟩
  have hown5 := own_base (base' := w4.heap.size + 1) hown5' (by simp)
  have a0w5 : w5.cell? ⟨w.heap.size, 0, none⟩ = some (.int .i64 n) := keepC hb5 (keepC ((Below.refl _ _).alloc (Nat.le_refl _) _) a0w4)
  have a1w5 : w5.cell? ⟨w.heap.size, 1, none⟩ = some (.slice A xs.length c) := keepC hb5 (keepC ((Below.refl _ _).alloc (Nat.le_refl _) _) a1w4)
  have p0w5 : w5.cell? ⟨w3.heap.size, 0, none⟩ = some (.int .i64 sd) := keepC hb5 (keepC ((Below.refl _ _).alloc (Nat.le_refl _) _) p0w4)
  have p1w5 : w5.cell? ⟨w3.heap.size, 1, none⟩ = some (.slice A3 ys.length c3) := keepC hb5 (keepC ((Below.refl _ _).alloc (Nat.le_refl _) _) p1w4)
  clear a0w4 a1w4 p0w4 p1w4
  have q0w5 : w5.cell? ⟨w4.heap.size, 0, none⟩ = some (.int .i64 n) := keepC hb5 (by simp)
  have q1w5 : w5.cell? ⟨w4.heap.size, 1, none⟩ = some (.slice A4 xs.length xs.length) := keepC hb5 (by simp)
  have HC5 : Hid (Below w3.heap.size w3 w5) := (HC4.out.alloc HC4.out.size _).trans (hb5.mono (by simp; omega))
  have l5 : w4.heap.size < w5.heap.size := by have := hb5.size; simp at this; omega
  have l5' : w3.heap.size < w5.heap.size := by omega
  have l5'' : w.heap.size < w5.heap.size := by omega
  have ol5 : ∀ k, (Value.slice A5 ys.length c5).ownBlock = some k → w4.heap.size + 1 ≤ k ∧ k < w5.heap.size := hown5.lt
  have OL5 := Lib.hid ol5
  have OW5 := Lib.hid hown5
  have OW45 := Lib.hid (own_below (OW4.out.alloc _) hb5)
  clear hb5 hown5 hown5' ol5 OW4 HC4
  go_wp2_with fail
  have B6 : Below w3.heap.size w3 (w5.alloc (.cells #[.int .i64 sd, .slice A5 ys.length c5] 30)) := HC5.out.alloc HC5.out.size _
  refine (HE.out A5 A3 c5 c3 _ ((Rd.of_own OW5.out).at_ ((Below.refl _ _).alloc (Nat.le_refl _) _)) ((rd3.below B6).more B6.size)).mono ?_
  rintro e w6 ⟨rfl, hb6⟩
  have a0w6 : w6.cell? ⟨w.heap.size, 0, none⟩ = some (.int .i64 n) := keepC hb6 (keepC ((Below.refl _ _).alloc (Nat.le_refl _) _) a0w5)
  have a1w6 : w6.cell? ⟨w.heap.size, 1, none⟩ = some (.slice A xs.length c) := keepC hb6 (keepC ((Below.refl _ _).alloc (Nat.le_refl _) _) a1w5)
  have p0w6 : w6.cell? ⟨w3.heap.size, 0, none⟩ = some (.int .i64 sd) := keepC hb6 (keepC ((Below.refl _ _).alloc (Nat.le_refl _) _) p0w5)
  have p1w6 : w6.cell? ⟨w3.heap.size, 1, none⟩ = some (.slice A3 ys.length c3) := keepC hb6 (keepC ((Below.refl _ _).alloc (Nat.le_refl _) _) p1w5)
  have q0w6 : w6.cell? ⟨w4.heap.size, 0, none⟩ = some (.int .i64 n) := keepC hb6 (keepC ((Below.refl _ _).alloc (Nat.le_refl _) _) q0w5)
  have q1w6 : w6.cell? ⟨w4.heap.size, 1, none⟩ = some (.slice A4 xs.length xs.length) := keepC hb6 (keepC ((Below.refl _ _).alloc (Nat.le_refl _) _) q1w5)
  clear a0w5 a1w5 p0w5 p1w5 q0w5 q1w5
  have r0w6 : w6.cell? ⟨w5.heap.size, 0, none⟩ = some (.int .i64 sd) := keepC hb6 (by simp)
  have r1w6 : w6.cell? ⟨w5.heap.size, 1, none⟩ = some (.slice A5 ys.length c5) := keepC hb6 (by simp)
  have HC6 : Hid (Below w3.heap.size w3 w6) := B6.trans (hb6.mono (by simp; omega))
  have l6 : w5.heap.size < w6.heap.size := by have := hb6.size; simp at this; omega
  have OW46 := Lib.hid (own_below (OW45.out.alloc _) hb6)
  have OW56 := Lib.hid (own_below (OW5.out.alloc _) hb6)
  clear hb6 B6 OW45 OW5 HC5
  have hMk : Hid (∀ W, Below w6.heap.size w6 W → W.cell? ⟨w.heap.size, 0, none⟩ = some (.int .i64 n) ∧ W.cell? ⟨w.heap.size, 1, none⟩ = some (.slice A xs.length c) ∧ W.cell? ⟨w3.heap.size, 0, none⟩ = some (.int .i64 sd) ∧ W.cell? ⟨w3.heap.size, 1, none⟩ = some (.slice A3 ys.length c3) ∧ W.cell? ⟨w4.heap.size, 0, none⟩ = some (.int .i64 n) ∧ W.cell? ⟨w4.heap.size, 1, none⟩ = some (.slice A4 xs.length xs.length) ∧ W.cell? ⟨w5.heap.size, 0, none⟩ = some (.int .i64 sd) ∧ W.cell? ⟨w5.heap.size, 1, none⟩ = some (.slice A5 ys.length c5)) := fun W hW => ⟨keepC hW a0w6, keepC hW a1w6, keepC hW p0w6, keepC hW p1w6, keepC hW q0w6, keepC hW q1w6, keepC hW r0w6, keepC hW r1w6⟩
  have HBW : Hid (Below w.heap.size w w6) := HB3.out.trans (HC6.out.mono (by omega))
  go_wp2_with fail
  go_region_held3 (fun W => W.cell? ⟨w.heap.size, 0, none⟩ = some (.int .i64 n) ∧ W.cell? ⟨w.heap.size, 1, none⟩ = some (.slice A xs.length c) ∧ W.cell? ⟨w3.heap.size, 0, none⟩ = some (.int .i64 sd) ∧ W.cell? ⟨w3.heap.size, 1, none⟩ = some (.slice A3 ys.length c3) ∧ W.cell? ⟨w4.heap.size, 0, none⟩ = some (.int .i64 n) ∧ W.cell? ⟨w4.heap.size, 1, none⟩ = some (.slice A4 xs.length xs.length) ∧ W.cell? ⟨w5.heap.size, 0, none⟩ = some (.int .i64 sd) ∧ W.cell? ⟨w5.heap.size, 1, none⟩ = some (.slice A5 ys.length c5))
    (first | exact hMk.out _ ((Below.refl _ _).drew) | exact hMk.out _ (by assumption))
    (first
      | (go_at_call 29; refine (HT.out _ (h.at_ HBW.out.drew)).mono ?_; rintro e w7 ⟨A7, rfl, hown7, hb7⟩; have hk7 : Below w6.heap.size w6 w7 := Below.trans (Below.refl _ _).drew hb7)
      | (go_at_call 31; refine (HX.out _ _ _ _ _ ((Rd.of_own OW46.out).at_ hk7) (Rd.of_own hown7)).mono ?_; rintro e w8 ⟨rfl, hb8⟩; have hk8 : Below w6.heap.size w6 w8 := hk7.trans (hb8.mono hk7.size)))
  obtain ⟨a0w8, a1w8, p0w8, p1w8, q0w8, q1w8, r0w8, r1w8⟩ := hMk.out _ hk8
  have HC8 : Hid (Below w3.heap.size w3 w8) := HC6.out.trans (hk8.mono (by omega))
  have l8 : w5.heap.size < w8.heap.size := by have := hk8.size; omega
  have OW48 := Lib.hid (own_below OW46.out hk8)
  have OW58 := Lib.hid (own_below OW56.out hk8)
  clear hb7 hb8 hk7 hk8 hown7 hMk OW46 OW56 HC6 a0w6 a1w6 p0w6 p1w6 q0w6 q1w6 r0w6 r1w6
  go_wp2_with fail
  refine (HMx.out A4 _ _ w8 (by omega) OW48.out).mono ?_
  rintro e w9 ⟨rfl, hown9, hg9⟩
  have n4 : ∀ k, (k ≤ w3.heap.size ∨ w4.heap.size ≤ k) → some k ≠ (Value.slice A4 xs.length xs.length).ownBlock := fun k hk h => by have := OL4.out _ h.symm; omega
  have a0w9 : w9.cell? ⟨w.heap.size, 0, none⟩ = some (.int .i64 n) := hg9.cell a0w8 (n4 (w.heap.size) (by omega))
  have a1w9 : w9.cell? ⟨w.heap.size, 1, none⟩ = some (.slice A xs.length c) := hg9.cell a1w8 (n4 (w.heap.size) (by omega))
  have p0w9 : w9.cell? ⟨w3.heap.size, 0, none⟩ = some (.int .i64 sd) := hg9.cell p0w8 (n4 (w3.heap.size) (by omega))
  have p1w9 : w9.cell? ⟨w3.heap.size, 1, none⟩ = some (.slice A3 ys.length c3) := hg9.cell p1w8 (n4 (w3.heap.size) (by omega))
  have q0w9 : w9.cell? ⟨w4.heap.size, 0, none⟩ = some (.int .i64 n) := hg9.cell q0w8 (n4 (w4.heap.size) (by omega))
  have q1w9 : w9.cell? ⟨w4.heap.size, 1, none⟩ = some (.slice A4 xs.length xs.length) := hg9.cell q1w8 (n4 (w4.heap.size) (by omega))
  have r0w9 : w9.cell? ⟨w5.heap.size, 0, none⟩ = some (.int .i64 sd) := hg9.cell r0w8 (n4 (w5.heap.size) (by omega))
  have r1w9 : w9.cell? ⟨w5.heap.size, 1, none⟩ = some (.slice A5 ys.length c5) := hg9.cell r1w8 (n4 (w5.heap.size) (by omega))
  clear a0w8 a1w8 p0w8 p1w8 q0w8 q1w8 r0w8 r1w8
  have HC9 : Hid (Below w3.heap.size w3 w9) := HC8.out.grown hg9 HC8.out.size (fun k hk => by have := (OL4.out k hk).1; omega)
  have l9 : w5.heap.size < w9.heap.size := by have := hg9.size; omega
  have OW59 := Lib.hid (OW58.out.kept hg9 (by
    cases hv : (Value.slice A5 ys.length c5).ownBlock with
    | none => exact .inl rfl
    | some k => exact .inr (n4 k (.inr (by have := (OL5.out k hv).1; omega)))))
  clear hown9 hg9 OW48 OW58 HC8 n4
  go_wp2_with fail
  refine (HE.out A5 A3 c5 c3 w9 (Rd.of_own OW59.out) ((rd3.below HC9.out).more HC9.out.size)).mono ?_
  rintro e w10 ⟨rfl, hb10⟩
  have a0w10 : w10.cell? ⟨w.heap.size, 0, none⟩ = some (.int .i64 n) := keepC hb10 a0w9
  have a1w10 : w10.cell? ⟨w.heap.size, 1, none⟩ = some (.slice A xs.length c) := keepC hb10 a1w9
  have p0w10 : w10.cell? ⟨w3.heap.size, 0, none⟩ = some (.int .i64 sd) := keepC hb10 p0w9
  have p1w10 : w10.cell? ⟨w3.heap.size, 1, none⟩ = some (.slice A3 ys.length c3) := keepC hb10 p1w9
  have q0w10 : w10.cell? ⟨w4.heap.size, 0, none⟩ = some (.int .i64 n) := keepC hb10 q0w9
  have q1w10 : w10.cell? ⟨w4.heap.size, 1, none⟩ = some (.slice A4 xs.length xs.length) := keepC hb10 q1w9
  have r0w10 : w10.cell? ⟨w5.heap.size, 0, none⟩ = some (.int .i64 sd) := keepC hb10 r0w9
  have r1w10 : w10.cell? ⟨w5.heap.size, 1, none⟩ = some (.slice A5 ys.length c5) := keepC hb10 r1w9
  clear a0w9 a1w9 p0w9 p1w9 q0w9 q1w9 r0w9 r1w9
  have HC10 : Hid (Below w3.heap.size w3 w10) := HC9.out.trans (hb10.mono (by omega))
  have l10 : w5.heap.size < w10.heap.size := by have := hb10.size; omega
  have OW510 := Lib.hid (own_below OW59.out hb10)
  clear hb10 OW59 HC9
  go_wp2_with fail
  refine (HM.out A5 _ _ w10 (by omega) OW510.out).mono ?_
  rintro e w11 ⟨rfl, hown11, hg11⟩
  have n5 : ∀ k, (k ≤ w4.heap.size ∨ w5.heap.size ≤ k) → some k ≠ (Value.slice A5 ys.length c5).ownBlock := fun k hk h => by have := OL5.out _ h.symm; omega
  have a0w11 : w11.cell? ⟨w.heap.size, 0, none⟩ = some (.int .i64 n) := hg11.cell a0w10 (n5 (w.heap.size) (by omega))
  have a1w11 : w11.cell? ⟨w.heap.size, 1, none⟩ = some (.slice A xs.length c) := hg11.cell a1w10 (n5 (w.heap.size) (by omega))
  have p0w11 : w11.cell? ⟨w3.heap.size, 0, none⟩ = some (.int .i64 sd) := hg11.cell p0w10 (n5 (w3.heap.size) (by omega))
  have p1w11 : w11.cell? ⟨w3.heap.size, 1, none⟩ = some (.slice A3 ys.length c3) := hg11.cell p1w10 (n5 (w3.heap.size) (by omega))
  have q0w11 : w11.cell? ⟨w4.heap.size, 0, none⟩ = some (.int .i64 n) := hg11.cell q0w10 (n5 (w4.heap.size) (by omega))
  have q1w11 : w11.cell? ⟨w4.heap.size, 1, none⟩ = some (.slice A4 xs.length xs.length) := hg11.cell q1w10 (n5 (w4.heap.size) (by omega))
  have r0w11 : w11.cell? ⟨w5.heap.size, 0, none⟩ = some (.int .i64 sd) := hg11.cell r0w10 (n5 (w5.heap.size) (by omega))
  have r1w11 : w11.cell? ⟨w5.heap.size, 1, none⟩ = some (.slice A5 ys.length c5) := hg11.cell r1w10 (n5 (w5.heap.size) (by omega))
  clear a0w10 a1w10 p0w10 p1w10 q0w10 q1w10 r0w10 r1w10
  have HC11 : Hid (Below w3.heap.size w3 w11) := HC10.out.grown hg11 HC10.out.size (fun k hk => by have := (OL5.out k hk).1; omega)
  have l11 : w5.heap.size < w11.heap.size := by have := hg11.size; omega
  have OW511 := Lib.hid hown11
  clear hown11 hg11 OW510 HC10 n5
  go_wp2_with fail
  refine (HH.out A5 c5 w11 (Rd.of_own OW511.out)).mono ?_
  rintro e w12 ⟨rfl, hb12⟩
  have a0w12 : w12.cell? ⟨w.heap.size, 0, none⟩ = some (.int .i64 n) := keepC hb12 a0w11
  have a1w12 : w12.cell? ⟨w.heap.size, 1, none⟩ = some (.slice A xs.length c) := keepC hb12 a1w11
  have p0w12 : w12.cell? ⟨w3.heap.size, 0, none⟩ = some (.int .i64 sd) := keepC hb12 p0w11
  have p1w12 : w12.cell? ⟨w3.heap.size, 1, none⟩ = some (.slice A3 ys.length c3) := keepC hb12 p1w11
  have q0w12 : w12.cell? ⟨w4.heap.size, 0, none⟩ = some (.int .i64 n) := keepC hb12 q0w11
  have q1w12 : w12.cell? ⟨w4.heap.size, 1, none⟩ = some (.slice A4 xs.length xs.length) := keepC hb12 q1w11
  have r0w12 : w12.cell? ⟨w5.heap.size, 0, none⟩ = some (.int .i64 sd) := keepC hb12 r0w11
  have r1w12 : w12.cell? ⟨w5.heap.size, 1, none⟩ = some (.slice A5 ys.length c5) := keepC hb12 r1w11
  clear a0w11 a1w11 p0w11 p1w11 q0w11 q1w11 r0w11 r1w11
  have HC12 : Hid (Below w3.heap.size w3 w12) := HC11.out.trans (hb12.mono (by omega))
  have l12 : w5.heap.size < w12.heap.size := by have := hb12.size; omega
  have OW512 := Lib.hid (own_below OW511.out hb12)
  clear hb12 OW511 HC11
  go_wp2_with fail
  refine (HT.out _ (h.at_ (HB3.out.trans (HC12.out.mono (by omega))))).mono ?_
  rintro e w13 ⟨A13, rfl, hown13, hb13⟩
  have a0w13 : w13.cell? ⟨w.heap.size, 0, none⟩ = some (.int .i64 n) := keepC hb13 a0w12
  have a1w13 : w13.cell? ⟨w.heap.size, 1, none⟩ = some (.slice A xs.length c) := keepC hb13 a1w12
  have p0w13 : w13.cell? ⟨w3.heap.size, 0, none⟩ = some (.int .i64 sd) := keepC hb13 p0w12
  have p1w13 : w13.cell? ⟨w3.heap.size, 1, none⟩ = some (.slice A3 ys.length c3) := keepC hb13 p1w12
  have q0w13 : w13.cell? ⟨w4.heap.size, 0, none⟩ = some (.int .i64 n) := keepC hb13 q0w12
  have q1w13 : w13.cell? ⟨w4.heap.size, 1, none⟩ = some (.slice A4 xs.length xs.length) := keepC hb13 q1w12
  have r0w13 : w13.cell? ⟨w5.heap.size, 0, none⟩ = some (.int .i64 sd) := keepC hb13 r0w12
  have r1w13 : w13.cell? ⟨w5.heap.size, 1, none⟩ = some (.slice A5 ys.length c5) := keepC hb13 r1w12
  clear a0w12 a1w12 p0w12 p1w12 q0w12 q1w12 r0w12 r1w12
  have HC13 : Hid (Below w3.heap.size w3 w13) := HC12.out.trans (hb13.mono (by omega))
  have l13 : w5.heap.size < w13.heap.size := by have := hb13.size; omega
  have OW513 := Lib.hid (own_below OW512.out hb13)
  clear hb13 OW512 HC12
  go_wp2_with fail
  refine (HI.out _ _ (Rd.of_own hown13)).mono ?_
  rintro e w14 ⟨A14, c14, rfl, hown14, hb14⟩
  have a0w14 : w14.cell? ⟨w.heap.size, 0, none⟩ = some (.int .i64 n) := keepC hb14 a0w13
  have a1w14 : w14.cell? ⟨w.heap.size, 1, none⟩ = some (.slice A xs.length c) := keepC hb14 a1w13
  have p0w14 : w14.cell? ⟨w3.heap.size, 0, none⟩ = some (.int .i64 sd) := keepC hb14 p0w13
  have p1w14 : w14.cell? ⟨w3.heap.size, 1, none⟩ = some (.slice A3 ys.length c3) := keepC hb14 p1w13
  have q0w14 : w14.cell? ⟨w4.heap.size, 0, none⟩ = some (.int .i64 n) := keepC hb14 q0w13
  have q1w14 : w14.cell? ⟨w4.heap.size, 1, none⟩ = some (.slice A4 xs.length xs.length) := keepC hb14 q1w13
  have r0w14 : w14.cell? ⟨w5.heap.size, 0, none⟩ = some (.int .i64 sd) := keepC hb14 r0w13
  have r1w14 : w14.cell? ⟨w5.heap.size, 1, none⟩ = some (.slice A5 ys.length c5) := keepC hb14 r1w13
  clear a0w13 a1w13 p0w13 p1w13 q0w13 q1w13 r0w13 r1w13
  have HC14 : Hid (Below w3.heap.size w3 w14) := HC13.out.trans (hb14.mono (by omega))
  have l14 : w5.heap.size < w14.heap.size := by have := hb14.size; omega
  have l14' : w3.heap.size < w14.heap.size := by omega
  have OW514 := Lib.hid (own_below OW513.out hb14)
  have R14 := Rd.of_own hown14
  clear hb14 OW513 HC13 hown13 hown14
  go_wp2_with fail
  have B15 : Below w3.heap.size w3 (w14.alloc (.cells #[.int .i64 sd, .slice A14 ys.length c14] 30)) := HC14.out.alloc HC14.out.size _
  refine (HE.out A14 A3 c14 c3 _ (R14.at_ ((Below.refl _ _).alloc (Nat.le_refl _) _)) ((rd3.below B15).more B15.size)).mono ?_
  rintro e w15 ⟨rfl, hb15⟩
  have r0w15 : w15.cell? ⟨w5.heap.size, 0, none⟩ = some (.int .i64 sd) := keepC hb15 (keepC ((Below.refl _ _).alloc (Nat.le_refl _) _) r0w14)
  have r1w15 : w15.cell? ⟨w5.heap.size, 1, none⟩ = some (.slice A5 ys.length c5) := keepC hb15 (keepC ((Below.refl _ _).alloc (Nat.le_refl _) _) r1w14)
  have HC15 : Hid (Below w3.heap.size w3 w15) := B15.trans (hb15.mono (by simp; omega))
  have l15 : w5.heap.size < w15.heap.size := by have := hb15.size; simp at this; omega
  have OW515 := Lib.hid (own_below (OW514.out.alloc _) hb15)
  clear hb15 OW514 HC14 R14
  go_wp2_with fail
  refine (HH.out A5 c5 w15 (Rd.of_own OW515.out)).mono ?_
  rintro e w16 ⟨rfl, hb16⟩
  go_wp2_with fail
  go_ret
  exact ⟨rfl, (HB3.out.trans (HC15.out.mono (by omega))).trans (hb16.mono (by omega))⟩

set_option maxRecDepth 100000 in
theorem lifted (os : Os) (started : os.Started) (H : Type) (enc : TypeId × Value → H) :
    ReturnsInHanded {} Try.checked os 9 .any (Rows.fnExactLazyChainSpec.pre6 enc Try.prog Try.f9 Rows.fnExactLazyChainRow.domain false) (Rows.fnExactLazyChainSpec.post enc Try.prog Try.f9 false true false false) := by
  refine returnsInHanded_of_change (C := Try.checked) own started (by kernel_rfl) Try.func9
    (ChangeSpec.witness6 (enc := enc) (C := Try.checked) false ⟨#[], #[.agg #[.int .i64 0, .slice none 0 0], .float .f32 0], []⟩ 8 (by kernel_rfl) (by kernel_rfl) (by kernel_rfl) (by kernel_rfl)) ?_
  intro W base args ds gs before hval0 hW hcnd _
  have hval : ∀ (j : Nat) t v, Try.f9.params[j]? = some t → args[j]? = some v → Value.okWide Try.prog W .any base t v := hval0
  have hW' := hW
  have hlt : ∀ p ∈ before, p.block < W.heap.size := fun p hp => hW.lt p hp
  obtain ⟨p, q, hA0, hV, rfl, hfz, hnd⟩ := hW
  have hA : DataW.TrodAll enc Try.prog W 0 (fun _ => true) true Try.f9.params.toList args.toList ds p := hA0
  rw [Try.params9] at hA hval
  have hA1 := hA
  obtain ⟨v0, vs0, d0, ds0, p0, q0, hargs, rfl, rfl, h0, r0⟩ := trodAll_cons hA
  obtain ⟨v1, vs1, d1, ds1, p1, q1, rfl, rfl, rfl, h1, r1⟩ := trodAll_cons r0
  obtain ⟨rfl, rfl, rfl⟩ := trodAll_nil r1
  obtain rfl : args = #[v0, v1] := by cases args; simp_all
  obtain ⟨rfl, rfl⟩ := trodVars_none hV
  obtain ⟨n0, A0, xs0, c0, rfl, bd0, hx0, hr0, bf0⟩ := open_chain (hval 0 _ _ rfl rfl) h0
  obtain ⟨x1, rfl, -, -, wf1⟩ := open_float Try.underlying33 (hval 1 _ _ rfl rfl) h1
  clear hA0 hval0
  refine (walk n0 A0 xs0 c0 x1 W hr0 hx0 bd0 bf0).mono fun e W' ⟨he, hb⟩ => ?_
  subst he
  rw [List.append_nil] at hW' hlt
  exact ⟨_, rfl, post_of_below (pa := _) (pv := []) hW' (fun _ _ _ => (trodAll_cons_mk (shut_bool Try.underlying4 _) trodAll_mk0))
    (fun sp hsp => trodAll_below cl_laid hb _ _ _ _ (by kernel_rfl) hA1 hlt hsp) (fun _ _ => rfl) (List.append_nil _).symm hb (ok_one (by kernel_rfl) rfl (okWide_bool_mk Try.underlying4 _))⟩

theorem g0 : Try.prog.funcNamed Rows.fnExactLazyChainRow.func = some 9 := by kernel_rfl
theorem g1 : Rows.fnExactLazyChainRow.inPlace = Try.prog.inPlace 9 := by kernel_rfl
theorem g2 : Rows.fnExactLazyChainRow.unfollowed = Try.prog.unfollowed 9 := by kernel_rfl
theorem g3 : Rows.fnExactLazyChainRow.recurses = Try.prog.recurses 9 := by kernel_rfl
theorem g4 : Rows.fnExactLazyChainRow.named = Try.prog.varsNamed 9 := by kernel_rfl
theorem g5 : Rows.fnExactLazyChainRow.wf (OpenSpec.ofChange Rows.fnExactLazyChainSpec) = true := by kernel_rfl
theorem g6 : (Try.f9.params.all (Try.prog.readableRec ·)) = true := by kernel_rfl
theorem g7 : Rows.fnExactLazyChainRow.veiledFits Try.prog Try.f9.params.toList (Try.f9.params.toList ++ Try.f9.resultTypes.toList) = true := by kernel_rfl
theorem g8 : joinedFacts Try.prog 9 Try.f9 Rows.fnExactLazyChainSpec Rows.fnExactLazyChainRow = true :=
  gen_facts _ _ _ _ rfl rfl cl_laid cl_maps cl_stops cl_knobs cl_heard cl_enter cl_lifts cl_make g5 g6 rfl rfl rfl g1 g2 g3 g4
    (by as_aux_lemma => kernel_rfl) (by as_aux_lemma => kernel_rfl) (by as_aux_lemma => kernel_rfl) (by as_aux_lemma => kernel_rfl) (by as_aux_lemma => kernel_rfl) (by as_aux_lemma => kernel_rfl) (by as_aux_lemma => kernel_rfl) (by as_aux_lemma => kernel_rfl)
    cl_keys.symm rfl rfl rfl rfl rfl (by as_aux_lemma => kernel_rfl) (by as_aux_lemma => kernel_rfl) g7
theorem g9 : Try.f9.isInstance Try.prog Rows.fnExactLazyChainRow.origin Rows.fnExactLazyChainRow.targs := of_decide_eq_true (by kernel_rfl)
theorem g10 : Try.f9.isWrapper Try.prog Rows.fnExactLazyChainRow.wrapper Rows.fnExactLazyChainRow.mainSum := by
  unfold Func.isWrapper; first | (rw [if_pos (by decide +kernel)]; kernel_rfl) | (rw [if_neg (by decide +kernel)]; exact ⟨rfl, rfl⟩)
theorem over : Rows.fnExactLazyChainRow.holds Try.pinned (OpenSpec.ofChange Rows.fnExactLazyChainSpec) :=
  OpenClaim.holds_of_wide 9 Try.f9 rfl rfl rfl rfl rfl rfl rfl ⟨rfl, rfl, rfl, rfl, rfl⟩ rfl rfl rfl rfl rfl g0 Try.func9 g8 g9 g10 (fun os started H enc _ => lifted os started H enc)
theorem proved : Rows.FnExactLazyChainSaid := over
end Go.Proofs.Ytddaodjaeommlaa.lawLazyChain
