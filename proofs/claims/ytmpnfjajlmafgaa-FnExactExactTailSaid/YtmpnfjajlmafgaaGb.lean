/-
  spec.LessTail and spec.BothTails (printed by twospec.py).
-/
import Derived.Test.YtmpnfjajlmafgaaGa
namespace Go.Proofs.Ytmpnfjajlmafgaa
open Go Go.RowKit

theorem tbAt_box {w : World} {r l : Int} {A : Option Addr} {n c : Nat} : TbAt (w.alloc (.cells #[.int .i64 r, .int .i64 l, .slice A n c] 28)) w.heap.size r l A n c := ⟨by simp, by simp, by simp⟩
theorem tl2_yes {inI : Nat → Bool} {wI : Nat → Int} {k : Nat} (h : inI k = true) : tl2 inI wI (k + 1) = (IntKind.i64.wrap ((tl2 inI wI k).1 + wI k), IntKind.i64.wrap ((tl2 inI wI k).2 + wI k)) := by
  show (if inI k = true then _ else _, _) = _
  rw [if_pos h]
  rfl
theorem tl2_no {inI : Nat → Bool} {wI : Nat → Int} {k : Nat} (h : inI k = false) : tl2 inI wI (k + 1) = ((tl2 inI wI k).1, IntKind.i64.wrap ((tl2 inI wI k).2 + wI k)) := by
  show (if inI k = true then _ else _, _) = _
  rw [if_neg (by rw [h]; decide)]
  rfl
theorem two_yes {a b c d : Nat} (hs : 1 ≤ a + b + c + d ∧ a + b + c + d ≤ 60) : twoB 2 2 [(a : Int), b, c, d] = true := by
  unfold twoB tabB
  have e1 : sumI [(a : Int), b, c, d] 4 = ((a + b + c + d : Nat) : Int) := by
    have := sumI_nat [a, b, c, d] 4 (by simp)
    simp at this
    rw [this]
    push_cast
    omega
  have e2 : ([(a : Int), b, c, d]).length = 4 := rfl
  rw [e2, e1]
  simp only [Bool.and_eq_true, decide_eq_true_eq]
  refine ⟨⟨⟨⟨⟨by decide, by decide⟩, by decide⟩, ?_⟩, inB_yes (by omega) (by omega)⟩, by decide, by decide⟩
  simp only [List.all_cons, List.all_nil, Bool.and_eq_true, and_true]
  exact ⟨inB_yes (by omega) (by omega), inB_yes (by omega) (by omega), inB_yes (by omega) (by omega), inB_yes (by omega) (by omega)⟩
set_option maxRecDepth 100000 in
set_option maxHeartbeats 1600000 in
theorem specLessTail_bad (r l : Int) (A : Option Addr) (xs : List Int) (c : Nat) (w : World) (hx : xs.length ≤ 9223372036854775807) (h : Rd w w.heap.size A (il xs)) (hb : twoB r l xs = false) : Calls Try.prog 10 #[tbV r l A xs.length c] w (tlOut 0 0 false w) := by
  have hbx := below_al (Below.refl w.heap.size w) (.cells #[.int .i64 r, .int .i64 l, .slice A xs.length c] 28)
  have HV := Lib.hid (l06Two_any w.heap.size r l A xs c _ hx tbAt_box (h.at_ hbx))
  rw [hb] at HV
  have KB := Lib.hid hbx
  unfold tbV tlOut at *
  unfold BoolOut at HV
  clear h hb
  generalize xs.length = n at *
  go_enter Try.func10, Try.ntmps10
  go_upto_region 1 with fail
  generalize World.alloc w _ = w1 at *
  go_wp2_with (go_at_call 31; refine HV.out.mono ?_; rintro e w2 ⟨rfl, hb2⟩; have B2 := Lib.hid (below_next KB.out hb2); clear hb2)
  go_ret3
  exact ⟨rfl, B2.out⟩
set_option maxRecDepth 100000 in
set_option maxHeartbeats 1600000 in
theorem specLessTail_ok (a b c d : Nat) (A : Option Addr) (ct : Nat) (w : World) (hs : 1 ≤ a + b + c + d ∧ a + b + c + d ≤ 60) (h : Rd w w.heap.size A (il [(a : Int), b, c, d])) :
    Calls Try.prog 10 #[tbV 2 2 A 4 ct] w (tlOut (tl2 (fun i => decide (i ≤ a - lowT a b d)) (wI2 a b c d) (manyT a b c d)).1 (tl2 (fun i => decide (i ≤ a - lowT a b d)) (wI2 a b c d) (manyT a b c d)).2 true w) := by
  have hv : twoB 2 2 [(a : Int), b, c, d] = true := two_yes hs
  have hbx := below_al (Below.refl w.heap.size w) (.cells #[.int .i64 2, .int .i64 2, .slice A 4 ct] 28)
  have HV := Lib.hid (l06Two_any w.heap.size 2 2 A [(a : Int), b, c, d] ct _ (by simp) tbAt_box (h.at_ hbx))
  rw [hv] at HV
  obtain ⟨g, o, rfl, hg, hcs⟩ := rd_cells (ns := [a, b, c, d]) (show Rd w w.heap.size A (nlv [a, b, c, d]) from h) (by simp)
  have hcs : ∀ i, i < 4 → w.cell? ⟨g, o + i, none⟩ = some (.int .i64 (([a, b, c, d] : List Nat)[i]! : Nat)) := hcs
  have KB := Lib.hid hbx
  have HP : Hid (∀ W, Below (w.alloc (.cells #[.int .i64 2, .int .i64 2, .slice (some ⟨g, o, none⟩) 4 ct] 28)).heap.size (w.alloc (.cells #[.int .i64 2, .int .i64 2, .slice (some ⟨g, o, none⟩) 4 ct] 28)) W → Calls Try.prog 32 #[.pointer (some ⟨w.heap.size, 0, none⟩)] W (pairOut a b c d W)) := Lib.hid fun W hW => l06Pair_any w.heap.size g o a b c d ct W (by omega) (tbAt_box.keep hW) fun i hi => keepC hW (keepC hbx (hcs i hi))
  obtain ⟨ty, hty⟩ : ∃ ty : Nat → Int × Int, ty = tl2 (fun i => decide (i ≤ a - lowT a b d)) (wI2 a b c d) := ⟨_, rfl⟩
  have HT0 : Hid (ty 0 = (0, 0)) := Lib.hid (by rw [hty]; rfl)
  have HTY : Hid (∀ k, k ≤ a - lowT a b d → ty (k + 1) = (IntKind.i64.wrap ((ty k).1 + (wN a b c d k : Nat)), IntKind.i64.wrap ((ty k).2 + (wN a b c d k : Nat)))) := Lib.hid fun k h => by
    rw [hty]
    exact tl2_yes (decide_eq_true h)
  have HTN : Hid (∀ k, ¬ k ≤ a - lowT a b d → ty (k + 1) = ((ty k).1, IntKind.i64.wrap ((ty k).2 + (wN a b c d k : Nat)))) := Lib.hid fun k h => by
    rw [hty]
    exact tl2_no (decide_eq_false fun e => h e)
  have hat : a - lowT a b d < manyT a b c d := by unfold manyT lowT; omega
  have hmany : manyT a b c d ≤ 61 := by unfold manyT lowT; omega
  rw [← hty]
  unfold pairOut at HP
  unfold tbV at *
  unfold tlOut at *
  unfold BoolOut at HV
  have e4 : ([(a : Int), b, c, d]).length = 4 := rfl
  rw [e4] at HV
  clear h hv hcs e4 hty hs hbx hg
  generalize wN a b c d = f at *
  generalize manyT a b c d = many at *
  generalize a - lowT a b d = at9 at *
  go_enter Try.func10, Try.ntmps10
  go_upto_region 1 with fail
  generalize World.alloc w _ = w1 at *
  go_wp2_with (first
    | (go_at_call 31; refine HV.out.mono ?_; rintro e w2 ⟨rfl, hb2⟩; have HP2 := Lib.hid (HP.out w2 hb2); have B2 := Lib.hid (below_next KB.out hb2); clear hb2)
    | (go_at_call 32; refine HP2.out.mono ?_; rintro e w3 ⟨g9, c9, rfl, ho3, hb3⟩; have O3 := Lib.hid ho3; have B3 := Lib.hid (below_next B2.out hb3); clear ho3 hb3))
  clear HP HP2 HV B2 KB
  go_loop [7, 8, 9] (fun pv av iv => ∃ k : Nat, k ≤ many ∧ iv = .int .i64 k ∧ pv = .int .i64 (ty k).1 ∧ av = .int .i64 (ty k).2) (fun _ _ iv => many - (intOf iv).toNat)
  case atStart => exact ⟨0, Nat.zero_le _, rfl, by rw [HT0.out], by rw [HT0.out]⟩
  case round =>
    obtain ⟨k, hk, rfl, rfl, rfl⟩ := hrel
    by_cases hkm : k < many
    · have y0 := own_cellAt O3.out (wl_at hkm)
      by_cases hin : k ≤ at9
      · have hs := Lib.hid (HTY.out k hin)
        clear HTY HTN
        go_wp2
        go_round
        case rel => exact ⟨k + 1, by omega, by go_num, by rw [hs.out]; simp [w64y], by rw [hs.out]; simp [w64y]⟩
        case measure => simp [intOf]; omega
      · have hs := Lib.hid (HTN.out k hin)
        clear HTY HTN
        go_wp2
        go_round
        case rel => exact ⟨k + 1, by omega, by go_num, by rw [hs.out], by rw [hs.out]; simp [w64y]⟩
        case measure => simp [intOf]; omega
    · obtain rfl : k = many := by omega
      go_wp2
      go_ret3
      exact ⟨rfl, B3.out⟩
set_option maxRecDepth 100000 in
set_option maxHeartbeats 1600000 in
theorem specBothTails_bad (r l : Int) (A : Option Addr) (xs : List Int) (c : Nat) (w : World) (hx : xs.length ≤ 9223372036854775807) (h : Rd w w.heap.size A (il xs)) (hb : twoB r l xs = false) : Calls Try.prog 14 #[tbV r l A xs.length c] w (tlOut 0 0 false w) := by
  have hbx := below_al (Below.refl w.heap.size w) (.cells #[.int .i64 r, .int .i64 l, .slice A xs.length c] 28)
  have HV := Lib.hid (l06Two_any w.heap.size r l A xs c _ hx tbAt_box (h.at_ hbx))
  rw [hb] at HV
  have KB := Lib.hid hbx
  unfold tbV tlOut at *
  unfold BoolOut at HV
  clear h hb
  generalize xs.length = n at *
  go_enter Try.func14, Try.ntmps14
  go_upto_region 1 with fail
  generalize World.alloc w _ = w1 at *
  go_wp2_with (go_at_call 31; refine HV.out.mono ?_; rintro e w2 ⟨rfl, hb2⟩; have B2 := Lib.hid (below_next KB.out hb2); clear hb2)
  go_ret3
  exact ⟨rfl, B2.out⟩
set_option maxRecDepth 100000 in
set_option maxHeartbeats 1600000 in
theorem specBothTails_ok (a b c d : Nat) (A : Option Addr) (ct : Nat) (w : World) (hs : 1 ≤ a + b + c + d ∧ a + b + c + d ≤ 60) (h : Rd w w.heap.size A (il [(a : Int), b, c, d])) :
    Calls Try.prog 14 #[tbV 2 2 A 4 ct] w (tlOut (tl2 (fun i => decide (wI2 a b c d i ≤ wI2 a b c d (a - lowT a b d))) (wI2 a b c d) (manyT a b c d)).1 (tl2 (fun i => decide (wI2 a b c d i ≤ wI2 a b c d (a - lowT a b d))) (wI2 a b c d) (manyT a b c d)).2 true w) := by
  have hv : twoB 2 2 [(a : Int), b, c, d] = true := two_yes hs
  have hbx := below_al (Below.refl w.heap.size w) (.cells #[.int .i64 2, .int .i64 2, .slice A 4 ct] 28)
  have HV := Lib.hid (l06Two_any w.heap.size 2 2 A [(a : Int), b, c, d] ct _ (by simp) tbAt_box (h.at_ hbx))
  rw [hv] at HV
  obtain ⟨g, o, rfl, hg, hcs⟩ := rd_cells (ns := [a, b, c, d]) (show Rd w w.heap.size A (nlv [a, b, c, d]) from h) (by simp)
  have hcs : ∀ i, i < 4 → w.cell? ⟨g, o + i, none⟩ = some (.int .i64 (([a, b, c, d] : List Nat)[i]! : Nat)) := hcs
  have KB := Lib.hid hbx
  have HP : Hid (∀ W, Below (w.alloc (.cells #[.int .i64 2, .int .i64 2, .slice (some ⟨g, o, none⟩) 4 ct] 28)).heap.size (w.alloc (.cells #[.int .i64 2, .int .i64 2, .slice (some ⟨g, o, none⟩) 4 ct] 28)) W → Calls Try.prog 32 #[.pointer (some ⟨w.heap.size, 0, none⟩)] W (pairOut a b c d W)) := Lib.hid fun W hW => l06Pair_any w.heap.size g o a b c d ct W (by omega) (tbAt_box.keep hW) fun i hi => keepC hW (keepC hbx (hcs i hi))
  obtain ⟨ty, hty⟩ : ∃ ty : Nat → Int × Int, ty = tl2 (fun i => decide (wI2 a b c d i ≤ wI2 a b c d (a - lowT a b d))) (wI2 a b c d) := ⟨_, rfl⟩
  have HT0 : Hid (ty 0 = (0, 0)) := Lib.hid (by rw [hty]; rfl)
  have HTY : Hid (∀ k, wN a b c d k ≤ wN a b c d (a - lowT a b d) → ty (k + 1) = (IntKind.i64.wrap ((ty k).1 + (wN a b c d k : Nat)), IntKind.i64.wrap ((ty k).2 + (wN a b c d k : Nat)))) := Lib.hid fun k h => by
    rw [hty]
    exact tl2_yes (decide_eq_true (Int.ofNat_le.2 h))
  have HTN : Hid (∀ k, ¬ wN a b c d k ≤ wN a b c d (a - lowT a b d) → ty (k + 1) = ((ty k).1, IntKind.i64.wrap ((ty k).2 + (wN a b c d k : Nat)))) := Lib.hid fun k h => by
    rw [hty]
    exact tl2_no (decide_eq_false fun e => h (Int.ofNat_le.1 e))
  have hat : a - lowT a b d < manyT a b c d := by unfold manyT lowT; omega
  have hmany : manyT a b c d ≤ 61 := by unfold manyT lowT; omega
  rw [← hty]
  unfold pairOut at HP
  unfold tbV at *
  unfold tlOut at *
  unfold BoolOut at HV
  have e4 : ([(a : Int), b, c, d]).length = 4 := rfl
  rw [e4] at HV
  clear h hv hcs e4 hty hs hbx hg
  generalize wN a b c d = f at *
  generalize manyT a b c d = many at *
  generalize a - lowT a b d = at9 at *
  go_enter Try.func14, Try.ntmps14
  go_upto_region 1 with fail
  generalize World.alloc w _ = w1 at *
  go_wp2_with (first
    | (go_at_call 31; refine HV.out.mono ?_; rintro e w2 ⟨rfl, hb2⟩; have HP2 := Lib.hid (HP.out w2 hb2); have B2 := Lib.hid (below_next KB.out hb2); clear hb2)
    | (go_at_call 32; refine HP2.out.mono ?_; rintro e w3 ⟨g9, c9, rfl, ho3, hb3⟩; have O3 := Lib.hid ho3; have B3 := Lib.hid (below_next B2.out hb3); clear ho3 hb3))
  clear HP HP2 HV B2 KB
  have y9 := own_cellAt O3.out (wl_at hat)
  have K9 := Lib.hid y9
  clear y9
  go_loopw [7, 8, 9] (fun pv av iv wr => ∃ k : Nat, k ≤ many ∧ iv = .int .i64 k ∧ pv = .int .i64 (ty k).1 ∧ av = .int .i64 (ty k).2 ∧ Below w3.heap.size w3 wr) (fun _ _ iv _ => many - (intOf iv).toNat)
  case atStart => exact ⟨0, Nat.zero_le _, rfl, by rw [HT0.out], by rw [HT0.out], Below.refl _ _⟩
  case round =>
    obtain ⟨k, hk, rfl, rfl, rfl, hb⟩ := hrel
    rename World => wr
    have B := Lib.hid hb
    clear hb
    by_cases hkm : k < many
    · have y0 := keepC B.out (own_cellAt O3.out (wl_at hkm))
      have y9 := keepC B.out K9.out
      have hkI : (k : Int) < (many : Int) := by omega
      have haI : (at9 : Int) < (many : Int) := by omega
      by_cases hin : f k ≤ f at9
      · have hs := Lib.hid (HTY.out k hin)
        have hinI : ((f k : Nat) : Int) ≤ ((f at9 : Nat) : Int) := Int.ofNat_le.2 hin
        clear HTY HTN
        generalize f k = fk at *
        generalize f at9 = fa at *
        go_wp2_with fail
        go_quiet (fail)
        have B9 := Lib.hid (below_drewN B.out nq)
        have y8 : (wr.drewN nq).cell? ⟨g9, k, none⟩ = some (.int .i64 (fk : Nat)) := y0
        generalize wr.drewN nq = wq at *
        go_wp2_with fail
        go_roundw
        case rel => exact ⟨k + 1, by omega, by go_num, by rw [hs.out]; simp [w64y], by rw [hs.out]; simp [w64y], B9.out⟩
        case measure => simp [intOf]; omega
      · have hs := Lib.hid (HTN.out k hin)
        have hinI : ¬ ((f k : Nat) : Int) ≤ ((f at9 : Nat) : Int) := fun e => hin (Int.ofNat_le.1 e)
        clear HTY HTN
        generalize f k = fk at *
        generalize f at9 = fa at *
        go_wp2_with fail
        go_quiet (fail)
        have B9 := Lib.hid (below_drewN B.out nq)
        generalize wr.drewN nq = wq at *
        go_wp2_with fail
        go_roundw
        case rel => exact ⟨k + 1, by omega, by go_num, by rw [hs.out], by rw [hs.out]; simp [w64y], B9.out⟩
        case measure => simp [intOf]; omega
    · obtain rfl : k = many := by omega
      go_wp2_with fail
      go_ret3
      exact ⟨rfl, below_next B3.out B.out⟩
end Go.Proofs.Ytmpnfjajlmafgaa
