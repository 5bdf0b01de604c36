/-
  laws.FnBalances answers yes, for every two inputs, and leaves its arguments as they were. No condition.
-/
import Derived.Test.YtlhepgdheopgaaaBh
import Derived.Test.YtlhepgdheopgaaaFrb
import Derived.Test.YtlhepgdheopgaaaClosed
import Derived.BigQuiet
import Derived.Deep.DeepCutAuto
namespace Go.Proofs.Ytlhepgdheopgaaa.lawBalances
open Go.ChangeShapes Go.WideShapes Go.ChangeAt Go.RowKit

set_option maxRecDepth 100000 in
set_option maxHeartbeats 6400000 in
theorem walk (A B : Option Addr) (n m ca cb : Nat) (W : World) (hA : BR W A n) (hB : BR W B m) :
    Calls Try.prog 3 #[.slice A n ca, .slice B m cb] W fun e w' => e = .returned (.bool true) ∧ Below W.heap.size W w' := by
  have HL := Lib.hid (b10Long_any A B n m ca cb W)
  by_cases hlg : 1048576 < n ∨ 1048576 < m
  · have hb : (decide (1048576 < n) || decide (1048576 < m)) = true := by simpa using hlg
    rw [hb] at HL
    clear hlg hb hA hB
    go_enter Try.func3, Try.ntmps3
    go_wp2_with (go_at_call 6; (with_reducible refine HL.out.mono ?_); rintro e w1 ⟨rfl, rfl⟩)
    go_ret
    exact ⟨rfl, Below.refl _ _⟩
  · have hb : (decide (1048576 < n) || decide (1048576 < m)) = false := by simp; omega
    rw [hb] at HL
    have HC := Lib.hid (B10Chain_any A n ca W (by omega) hA)
    have HP : Hid (∀ k : Nat, k ≤ 12 → ∀ W', Below W.heap.size W W' → Calls Try.prog 8 #[.slice B m cb, .int .i64 k] W' (fun e w' => ∃ A c ws, e = .returned (.slice A k c) ∧ Rw 4 4 k ws ∧ w'.ownsRow W'.heap.size 31 1 (.slice A k c) k (fl ws) ∧ Below W'.heap.size W' w')) := Lib.hid fun k hk W' hW => B10Picks_any B m cb k W' (by omega) hk (hB.keep hW)
    clear hlg hb hA hB
    go_enter Try.func3, Try.ntmps3
    go_upto_region 3 with (go_at_call 6; (with_reducible refine HL.out.mono ?_); rintro e w1 ⟨rfl, rfl⟩)
    clear HL
    go_upto_region 4 with (go_at_call 7; (with_reducible refine HC.out.mono ?_); rintro e w1 ⟨k, q, A1, c1, hk2, hk5, hq, rfl, ho, hb⟩; have O1 := Lib.hid ho; have B1 := Lib.hid hb; have CH := Lib.hid (src_chn hk2 hk5 hq); clear ho hb hq)
    have X1 := Lib.hid (own_cap O1.out)
    generalize tab k (srcF q k) = xs at *
    have F2 : Hid (∀ w2, w2 = w1.alloc (.cells #[.int .i64 k, .slice A1 (k * k : Nat) c1] 26) → Below W.heap.size W w2 ∧ (w2.cell? ⟨w1.heap.size, 0, none⟩ = some (.int .i64 k) ∧ w2.cell? ⟨w1.heap.size, 1, none⟩ = some (.slice A1 (k * k : Nat) c1)) ∧ Rd w2 w2.heap.size A1 (fl xs)) := Lib.hid fun w2 h => by
      subst h
      exact ⟨below_al B1.out _, ⟨by simp [go_sem], by simp [go_sem]⟩, (Rd.of_own O1.out).at_ (below_al (Below.refl _ _) _)⟩
    have hF := F2.out _ rfl
    obtain ⟨t0, t1⟩ := hF.2.1
    have B2 := Lib.hid hF.1
    have R2 := Lib.hid hF.2.2
    clear F2 hF O1 B1 HC
    generalize World.alloc w1 _ = w2 at *
    generalize w1.heap.size = b5 at *
    -- the weights
    go_upto_region 5 with (go_at_call 8; (with_reducible refine (HP.out k (by omega) _ B2.out).mono ?_); rintro e w3 ⟨A6, c6, ws, rfl, hw, ho, hb⟩; have s0 := keepC hb t0; have s1 := keepC hb t1; have B3 := Lib.hid (below_next B2.out hb); have R3 := Lib.hid (R2.out.at_ hb); have V3 := Lib.hid (Rd.of_own ho); have WS := Lib.hid hw; clear ho hb hw; clear t0 t1)
    clear B2 R2 HP
    -- the chain that is weighed
    have HW := Lib.hid (WeighChain_at (d := c6) (W := w3) CH.out WS.out hk5 X1.out.1 X1.out.2 R3.out V3.out)
    go_upto_region 6 with (go_at_call 9; (with_reducible refine HW.out.mono ?_); rintro e w4 ⟨A7, c7, rfl, ho, hb⟩; have O4 := Lib.hid ho; have H4 := Lib.hid hb; clear ho hb)
    have X7 := Lib.hid (own_cap O4.out)
    have F5 : Hid (∀ w5, w5 = w4.alloc (.cells #[.int .i64 k, .slice A7 (k * k : Nat) c7] 26) → Below W.heap.size W w5 ∧ (w5.cell? ⟨w4.heap.size, 0, none⟩ = some (.int .i64 k) ∧ w5.cell? ⟨w4.heap.size, 1, none⟩ = some (.slice A7 (k * k : Nat) c7)) ∧ (w5.cell? ⟨b5, 0, none⟩ = some (.int .i64 k) ∧ w5.cell? ⟨b5, 1, none⟩ = some (.slice A1 (k * k : Nat) c1)) ∧ Rd w5 w5.heap.size A1 (fl xs) ∧ Rd w5 w5.heap.size A6 (fl ws) ∧ Rd w5 w5.heap.size A7 (fl (wC xs ws k))) := Lib.hid fun w5 h => by
      subst h
      have hb := below_al H4.out (.cells #[.int .i64 k, .slice A7 (k * k : Nat) c7] 26)
      exact ⟨below_next B3.out hb, ⟨by simp [go_sem], by simp [go_sem]⟩, ⟨keepC hb s0, keepC hb s1⟩, R3.out.at_ hb, V3.out.at_ hb, (Rd.of_own O4.out).at_ (below_al (Below.refl _ _) _)⟩
    have hF := F5.out _ rfl
    obtain ⟨y0, y1⟩ := hF.2.1
    obtain ⟨t0, t1⟩ := hF.2.2.1
    have B5 := Lib.hid hF.1
    have R5 := Lib.hid hF.2.2.2.1
    have V5 := Lib.hid hF.2.2.2.2.1
    have Z5 := Lib.hid hF.2.2.2.2.2
    clear F5 hF O4 H4 B3 R3 V3 HW s0 s1
    generalize World.alloc w4 _ = w5 at *
    generalize w4.heap.size = b7 at *
    -- its balance
    have HM := Lib.hid (BalanceMiss_at (d := c6) (W := w5) CH.out WS.out hk5 X7.out.1 X7.out.2 Z5.out V5.out)
    unfold missOut at HM
    have HMS := miss_small CH.out WS.out hk5
    generalize missTo (wC xs ws k) ws k (k * k) = ms at *
    obtain ⟨hms1, hms2⟩ := HMS
    go_upto_region 7 with (go_at_call 10; (with_reducible refine HM.out.mono ?_); rintro e w6 ⟨rfl, hb⟩; have u0 := keepC hb y0; have u1 := keepC hb y1; have v0 := keepC hb t0; have v1 := keepC hb t1; have B6 := Lib.hid (below_next B5.out hb); have R6 := Lib.hid (R5.out.at_ hb); have V6 := Lib.hid (V5.out.at_ hb); have Z6 := Lib.hid (Z5.out.at_ hb); clear hb; clear y0 y1 t0 t1)
    clear HM B5 R5 V5 Z5
    have HVC : Hid (∀ W', Below w6.heap.size w6 W' → Calls Try.prog 11 #[.agg #[.int .i64 k, .slice A7 (k * k : Nat) c7]] W' (fun e w' => e = .returned (.bool true) ∧ Below W'.heap.size W' w')) := Lib.hid fun W' hW => by
      have hc := wC_chn CH.out WS.out hk5
      have h := specValidChain_any k A7 (wC xs ws k) c7 W' (by have := hc.len; have := X7.out; omega) (Z6.out.at_ hW)
      rw [hc.len, hc.valid (by decide)] at h
      exact h
    go_upto_region 9 with (go_at_call 11; (with_reducible refine (HVC.out _ (Below.refl _ _)).mono ?_); rintro e w7 ⟨rfl, hb⟩; have y0 := keepC hb u0; have y1 := keepC hb u1; have t0 := keepC hb v0; have t1 := keepC hb v1; have B7 := Lib.hid (below_next B6.out hb); have R7 := Lib.hid (R6.out.at_ hb); have V7 := Lib.hid (V6.out.at_ hb); have Z7 := Lib.hid (Z6.out.at_ hb); clear hb; clear u0 u1 v0 v1)
    clear HVC B6 R6 V6 Z6 hms1 hms2
    -- a step
    have HS := Lib.hid (StepRow_at (d := c6) (W := w7) CH.out WS.out hk5 X7.out.1 X7.out.2 Z7.out V7.out)
    go_upto_region 10 with (go_at_call 12; (with_reducible refine HS.out.mono ?_); rintro e w8 ⟨A8, c8, rfl, ho, hb⟩; have v0 := keepC hb t0; have v1 := keepC hb t1; have B8 := Lib.hid (below_next B7.out hb); have R8 := Lib.hid (R7.out.at_ hb); have V8 := Lib.hid (V7.out.at_ hb); have O8 := Lib.hid (Rd.of_own ho); clear hb ho; clear y0 y1 t0 t1)
    clear HS B7 R7 V7 Z7
    have HG : Hid (∀ i, i < k → (FloatKind.f64.format.order (gapD (wd (rowOf (stepRow (wC xs ws k) ws k) i)) (wd (rowOf ws i))) 4576918229304087675 == some .gt) = false ∧ (∀ w, (convert 31 37 (.float .f32 (rowOf (stepRow (wC xs ws k) ws k) i))).run Try.prog w = .ok (.float .f64 (wd (rowOf (stepRow (wC xs ws k) ws k) i))) w) ∧ (∀ w, (convert 31 37 (.float .f32 (rowOf ws i))).run Try.prog w = .ok (.float .f64 (wd (rowOf ws i))) w) ∧ (∀ w, Calls Try.prog 13 #[.float .f64 (wd (rowOf (stepRow (wC xs ws k) ws k) i)), .float .f64 (wd (rowOf ws i))] w (Quiet (.float .f64 (gapD (wd (rowOf (stepRow (wC xs ws k) ws k) i)) (wd (rowOf ws i)))) w))) := Lib.hid fun i hi => by
      obtain ⟨⟨g1, g2⟩, g3, g4, g5⟩ := step_gap CH.out WS.out hk5 hi
      exact ⟨g3, g4, g5, fun w => b10Gap_quiet _ _ w g1 g2⟩
    have hl8 : (fl (stepRow (wC xs ws k) ws k)).length = k := by rw [fl_len, stepRow_len]
    have hl6 : (fl ws).length = k := by rw [fl_len]; exact WS.out.len
    obtain ⟨ba, oa, rfl, hba, hca⟩ := O8.out (by omega)
    obtain ⟨bb, ob, rfl, hbb, hcb⟩ := V8.out (by omega)
    have CA : Hid (∀ i, i < k → w8.cell? ⟨ba, oa + i, none⟩ = some (.float .f32 (rowOf (stepRow (wC xs ws k) ws k) i))) := Lib.hid fun i hi => rowOf_cell (by rw [stepRow_len]; exact hi) hca
    have CB2 : Hid (∀ i, i < k → w8.cell? ⟨bb, ob + i, none⟩ = some (.float .f32 (rowOf ws i))) := Lib.hid fun i hi => rowOf_cell (by rw [WS.out.len]; exact hi) hcb
    clear O8 V8 hca hcb hl8 hl6
    generalize stepRow (wC xs ws k) ws k = sr at *
    go_wp2_with fail
    go_loopw [93] (fun t wr => ∃ i r : Nat, i ≤ k ∧ t = .int .i64 i ∧ wr = w8.drewN r) (fun t _ => k - (intOf t).toNat)
    case atStart => exact ⟨0, 0, Nat.zero_le _, rfl, rfl⟩
    case round =>
      obtain ⟨i, r, hi, rfl, rfl⟩ := hrel
      by_cases hlt : i < k
      · obtain ⟨g3, g4, g5, g6⟩ := HG.out i hlt
        have xa := CA.out i hlt
        have xb := CB2.out i hlt
        have GG := Lib.hid g6
        clear g6
        generalize rowOf sr i = z1 at *
        generalize rowOf ws i = z2 at *
        generalize gapD (wd z1) (wd z2) = gp at *
        generalize wd z1 = y1 at *
        generalize wd z2 = y2 at *
        go_wp2_with fail
        go_quiet ((go_at_call 13; first | exact quiet_one (GG.out _) | exact quiet_add (GG.out _)))
        go_wp2_with fail
        go_roundw
        case rel => exact ⟨i + 1, _, by omega, by go_num, rfl⟩
        case measure => simp [intOf]; omega
      · obtain rfl : k = i := by omega
        have t0 : (w8.drewN r).cell? ⟨b5, 0, none⟩ = some (.int .i64 k) := v0
        have t1 : (w8.drewN r).cell? ⟨b5, 1, none⟩ = some (.slice A1 (k * k : Nat) c1) := v1
        have B9 := Lib.hid (below_dn B8.out r)
        have R9 := Lib.hid (R8.out.at_ (below_dn (Below.refl _ _) r))
        clear v0 v1 B8 R8 HG CA CB2 hba hbb
        generalize w8.drewN r = w9 at *
        have HR1 := Lib.hid (specRestOf_at (c := c1) (near := 0) CH.out hk5 (by decide +kernel) R9.out)
        go_wp2_with fail
        refine HR1.out.mono ?_
        rintro e w10 ho
        obtain ⟨hb, hc⟩ := rest_cases CH.out hk5 ho
        have u0 := keepC hb t0
        have u1 := keepC hb t1
        have B10 := Lib.hid (below_next B9.out hb)
        have R10 := Lib.hid (R9.out.at_ hb)
        have HR2 := Lib.hid (specRestOf_at (c := c1) (near := 925353388) CH.out hk5 (by decide +kernel) R10.out)
        clear HR1 ho hb t0 t1 B9 R9
        rcases hc with ⟨r, t, A14, c14, rfl, hr, hw⟩ | ⟨A14, c14, rfl⟩
        rotate_left
        go_wp2_with fail
        refine HR2.out.mono ?_
        rintro e w11 ho
        obtain ⟨hb, hc⟩ := rest_cases CH.out hk5 ho
        have t0 := keepC hb u0
        have t1 := keepC hb u1
        have B11 := Lib.hid (below_next B10.out hb)
        have R11 := Lib.hid (R10.out.at_ hb)
        clear HR2 ho hb u0 u1 B10 R10
        rcases hc with ⟨r, t, A14, c14, rfl, hr, hw⟩ | ⟨A14, c14, rfl⟩
        rotate_left
        · clear t0 t1 R11
          go_wp2_with fail
          go_ret
          exact ⟨rfl, B11.out⟩
        have HRW := Lib.hid hr
        have HWW := Lib.hid hw
        clear hr hw
        go_wp2_with fail
        refine HR2.out.mono ?_
        rintro e w11 ho
        obtain ⟨hb, hc⟩ := rest_cases CH.out hk5 ho
        have t0 := keepC hb u0
        have t1 := keepC hb u1
        have B11 := Lib.hid (below_next B10.out hb)
        have R11 := Lib.hid (R10.out.at_ hb)
        have hr := HRW.out.at_ hb
        have hw := HWW.out
        clear HR2 ho hb u0 u1 B10 R10 HRW HWW
        rcases hc with ⟨_, _, A17, c17, rfl, -, -⟩ | ⟨A17, c17, rfl⟩
        all_goals
          have HRW := Lib.hid hr
          have HWW := Lib.hid hw
          clear hr hw
          go_wp2_with fail
        all_goals
          have HB1 := Lib.hid (specBackChain_at (c := c1) (d := c14) (W := w11) (CH.out.valid (by decide)) CH.out.len HWW.out (by omega) (by omega) R11.out HRW.out)
          refine HB1.out.mono ?_
          rintro e w12 ho
          cases hv : validB k (tab k (backF xs r k)) with
          | false =>
            obtain ⟨A20, c20, rfl, hb⟩ := back_no ho hv
            have hb' := below_al hb (.cells #[.int .i64 0, .slice A20 0 c20] 26)
            have v0 := keepC hb' t0
            have v1 := keepC hb' t1
            have B13 := Lib.hid (below_next B11.out hb')
            have HB2 := Lib.hid (BackChain_at (c := c1) (d := c14) (CH.out.valid (by decide)) CH.out.len HWW.out (by omega) (by omega) X1.out.1 X1.out.2 (R11.out.at_ hb') (HRW.out.at_ hb'))
            have HV := Lib.hid hv
            clear hb hb' ho t0 t1 HB1 hv
            go_wp2_with fail
            refine HB2.out.mono ?_
            rintro e w13 ho2
            obtain ⟨A22, c22, rfl, hb2⟩ := back_no ho2 HV.out
            have B14 := Lib.hid (below_al (below_next B13.out hb2) (.cells #[.int .i64 0, .slice A22 0 c22] 26))
            clear ho2 hb2 v0 v1
            go_wp2_with fail
            go_ret
            exact ⟨rfl, B14.out⟩
          | true =>
            obtain ⟨A20, c20, rfl, -, hb⟩ := back_yes ho hv
            have hb' := below_al hb (.cells #[.int .i64 k, .slice A20 (k * k : Nat) c20] 26)
            have v0 := keepC hb' t0
            have v1 := keepC hb' t1
            have B13 := Lib.hid (below_next B11.out hb')
            have R13 := Lib.hid (R11.out.at_ hb')
            have Q13 := Lib.hid (HRW.out.at_ hb')
            have HB2 := Lib.hid (BackChain_at (c := c1) (d := c14) (CH.out.valid (by decide)) CH.out.len HWW.out (by omega) (by omega) X1.out.1 X1.out.2 R13.out Q13.out)
            have HV := Lib.hid hv
            clear hb hb' ho t0 t1 HB1 hv B11 R11 HRW
            go_upto_region 25 with fail
            generalize World.alloc w12 _ = w13 at *
            generalize w12.heap.size = b20 at *
            go_wp2_with fail
            refine HB2.out.mono ?_
            rintro e w14 ho2
            obtain ⟨A22, c22, rfl, ho22, hb2⟩ := back_yes ho2 HV.out
            have hb' := below_al hb2 (.cells #[.int .i64 k, .slice A22 (k * k : Nat) c22] 26)
            have t0 := keepC hb' v0
            have t1 := keepC hb' v1
            have y0 : (w14.alloc (.cells #[.int .i64 k, .slice A22 (k * k : Nat) c22] 26)).cell? ⟨w14.heap.size, 0, none⟩ = some (.int .i64 k) := by simp [go_sem]
            have y1 : (w14.alloc (.cells #[.int .i64 k, .slice A22 (k * k : Nat) c22] 26)).cell? ⟨w14.heap.size, 1, none⟩ = some (.slice A22 (k * k : Nat) c22) := by simp [go_sem]
            have B15 := Lib.hid (below_next B13.out hb')
            have R15 := Lib.hid (R13.out.at_ hb')
            have Q15 := Lib.hid (Q13.out.at_ hb')
            have X22 := Lib.hid (own_cap ho22)
            have Y15 := Lib.hid ((Rd.of_own ho22).at_ (below_al (Below.refl _ _) (.cells #[.int .i64 k, .slice A22 (k * k : Nat) c22] 26)))
            have HB3 := Lib.hid (specBackChain_at (c := c22) (d := c14) HV.out (tab_len _ _) HWW.out (by omega) (by omega) Y15.out Q15.out)
            clear hb2 hb' ho2 ho22 v0 v1 B13 R13 Q13 HB2
            go_upto_region 26 with fail
            generalize World.alloc w14 _ = w15 at *
            generalize w14.heap.size = b22 at *
            go_wp2_with fail
            refine HB3.out.mono ?_
            rintro e w16 ho3
            cases hv2 : validB k (tab k (backF (tab k (backF xs r k)) r k)) with
            | false =>
              obtain ⟨A24, c24, rfl, hb⟩ := back_no ho3 hv2
              have hb' := below_al hb (.cells #[.int .i64 0, .slice A24 0 c24] 26)
              have v0 := keepC hb' y0
              have v1 := keepC hb' y1
              have B17 := Lib.hid (below_next B15.out hb')
              have HB4 := Lib.hid (BackChain_at (c := c22) (d := c14) HV.out (tab_len _ _) HWW.out (by omega) (by omega) X22.out.1 X22.out.2 (Y15.out.at_ hb') (Q15.out.at_ hb'))
              have HV2 := Lib.hid hv2
              clear hb hb' ho3 y0 y1 t0 t1 HB3 hv2
              go_wp2_with fail
              refine HB4.out.mono ?_
              rintro e w18 ho4
              obtain ⟨A26, c26, rfl, hb4⟩ := back_no ho4 HV2.out
              have B18 := Lib.hid (below_al (below_next B17.out hb4) (.cells #[.int .i64 0, .slice A26 0 c26] 26))
              clear ho4 hb4 v0 v1
              go_wp2_with fail
              go_ret
              exact ⟨rfl, B18.out⟩
            | true =>
              obtain ⟨A24, c24, rfl, -, hb⟩ := back_yes ho3 hv2
              have hb' := below_al hb (.cells #[.int .i64 k, .slice A24 (k * k : Nat) c24] 26)
              have v0 := keepC hb' y0
              have v1 := keepC hb' y1
              have u1 := keepC hb' t1
              have B17 := Lib.hid (below_next B15.out hb')
              have R17 := Lib.hid (R15.out.at_ hb')
              have HB4 := Lib.hid (BackChain_at (c := c22) (d := c14) HV.out (tab_len _ _) HWW.out (by omega) (by omega) X22.out.1 X22.out.2 (Y15.out.at_ hb') (Q15.out.at_ hb'))
              have HV2 := Lib.hid hv2
              clear hb hb' ho3 y0 y1 t0 t1 HB3 hv2 B15 R15 Q15 Y15
              go_upto_region 31 with fail
              generalize World.alloc w16 _ = w17 at *
              generalize w16.heap.size = b24 at *
              go_wp2_with fail
              refine HB4.out.mono ?_
              rintro e w18 ho4
              obtain ⟨A26, c26, rfl, ho26, hb4⟩ := back_yes ho4 HV2.out
              have hb' := below_al hb4 (.cells #[.int .i64 k, .slice A26 (k * k : Nat) c26] 26)
              have t1 := keepC hb' u1
              have y1 : (w18.alloc (.cells #[.int .i64 k, .slice A26 (k * k : Nat) c26] 26)).cell? ⟨w18.heap.size, 1, none⟩ = some (.slice A26 (k * k : Nat) c26) := by simp [go_sem]
              have B19 := Lib.hid (below_next B17.out hb')
              have R19 := R17.out.at_ hb'
              have Z19 := (Rd.of_own ho26).at_ (below_al (Below.refl _ _) (.cells #[.int .i64 k, .slice A26 (k * k : Nat) c26] 26))
              have hkk : 1 ≤ k * k := Nat.mul_le_mul (show 1 ≤ k by omega) (show 1 ≤ k by omega)
              have hkt : k * k ≤ 25 := Nat.mul_le_mul hk5 hk5
              have la : (fl (tab k (backF (tab k (backF xs r k)) r k))).length = k * k := by rw [fl_len]; exact tab_len _ _
              have lb : (fl xs).length = k * k := by rw [fl_len]; exact CH.out.len
              obtain ⟨ba, oa, rfl, hba, hca⟩ := Z19 (by omega)
              obtain ⟨bb, ob, rfl, hbb, hcb⟩ := R19 (by omega)
              have CA : Hid (∀ i, i < k * k → (w18.alloc (.cells #[.int .i64 k, .slice (some ⟨ba, oa, none⟩) (k * k : Nat) c26] 26)).cell? ⟨ba, oa + i, none⟩ = some (.float .f32 (rowOf (againC xs r k) i))) := Lib.hid fun i hi => rowOf_cell (by show i < (tab k _).length; rw [tab_len]; exact hi) hca
              have CB2 : Hid (∀ i, i < k * k → (w18.alloc (.cells #[.int .i64 k, .slice (some ⟨ba, oa, none⟩) (k * k : Nat) c26] 26)).cell? ⟨bb, ob + i, none⟩ = some (.float .f32 (rowOf xs i))) := Lib.hid fun i hi => rowOf_cell (by rw [CH.out.len]; exact hi) hcb
              have HG : Hid (∀ i, i < k * k → (FloatKind.f64.format.order (gapD (wd (rowOf (againC xs r k) i)) (wd (rowOf xs i))) 4562254508917369340 == some .gt) = false ∧ (∀ w, (convert 31 37 (.float .f32 (rowOf (againC xs r k) i))).run Try.prog w = .ok (.float .f64 (wd (rowOf (againC xs r k) i))) w) ∧ (∀ w, (convert 31 37 (.float .f32 (rowOf xs i))).run Try.prog w = .ok (.float .f64 (wd (rowOf xs i))) w) ∧ (∀ w, Calls Try.prog 13 #[.float .f64 (wd (rowOf (againC xs r k) i)), .float .f64 (wd (rowOf xs i))] w (Quiet (.float .f64 (gapD (wd (rowOf (againC xs r k) i)) (wd (rowOf xs i)))) w))) := Lib.hid fun i hi => by
                obtain ⟨⟨g1, g2⟩, g3, g4, g5⟩ := again_gap CH.out HWW.out hi
                exact ⟨g3, g4, g5, fun w => b10Gap_quiet _ _ w g1 g2⟩
              clear hb4 hb' ho4 ho26 v0 v1 u1 B17 R17 R19 Z19 HB4 hca hcb la lb hkk
              go_upto_region 32 with fail
              generalize World.alloc w18 _ = w19 at *
              generalize w18.heap.size = b26 at *
              generalize againC xs r k = sr at *
              generalize hkn : k * k = N at *
              clear hkn
              go_wp2_with fail
              go_loopw [174] (fun t wr => ∃ i r : Nat, i ≤ N ∧ t = .int .i64 i ∧ wr = w19.drewN r) (fun t _ => N - (intOf t).toNat)
              case atStart => exact ⟨0, 0, Nat.zero_le _, rfl, rfl⟩
              case round =>
                obtain ⟨i, rr, hi, rfl, rfl⟩ := hrel
                by_cases hlt : i < N
                · obtain ⟨g3, g4, g5, g6⟩ := HG.out i hlt
                  have xa := CA.out i hlt
                  have xb := CB2.out i hlt
                  have GG := Lib.hid g6
                  clear g6
                  generalize rowOf sr i = z1 at *
                  generalize rowOf xs i = z2 at *
                  generalize gapD (wd z1) (wd z2) = gp at *
                  generalize wd z1 = y1' at *
                  generalize wd z2 = y2' at *
                  go_wp2_with fail
                  go_quiet ((go_at_call 13; first | exact quiet_one (GG.out _) | exact quiet_add (GG.out _)))
                  go_wp2_with fail
                  go_roundw
                  case rel => exact ⟨i + 1, _, by omega, by go_num, rfl⟩
                  case measure => simp [intOf]; omega
                · go_wp2_with fail
                  go_ret
                  exact ⟨rfl, below_dn B19.out rr⟩
set_option maxRecDepth 100000 in
set_option maxHeartbeats 3200000 in
theorem lifted (os : Os) (started : os.Started) (H : Type) (enc : TypeId × Value → H) :
    ReturnsInHanded {} Try.checked os 3 .any (Rows.fnBalancesSpec.pre6 enc Try.prog Try.f3 Rows.fnBalancesRow.domain false) (Rows.fnBalancesSpec.post enc Try.prog Try.f3 false true false false) := by
  refine returnsInHanded_of_change (C := Try.checked) own started (by kernel_rfl) Try.func3
    (ChangeSpec.witness6 (enc := enc) (C := Try.checked) false ⟨#[], #[.slice none 0 0, .slice none 0 0], []⟩ 8 (by kernel_rfl) (by kernel_rfl) (by kernel_rfl) (by kernel_rfl)) ?_
  intro W base args ds gs before hval0 hW hcnd _
  have hval : ∀ (j : Nat) t v, Try.f3.params[j]? = some t → args[j]? = some v → Value.okWide Try.prog W .any base t v := hval0
  have hW' := hW
  have hlt : ∀ p ∈ before, p.block < W.heap.size := fun p hp => hW.lt p hp
  obtain ⟨p, q, hA0, hV, rfl, hfz, hnd⟩ := hW
  have hA : DataW.TrodAll enc Try.prog W 0 (fun _ => true) true Try.f3.params.toList args.toList ds p := hA0
  rw [Try.params3] at hA hval
  have hA1 := hA
  obtain ⟨v0, vs0, d0, ds0, p0, q0, hargs, rfl, rfl, h0, r0⟩ := trodAll_cons hA
  obtain ⟨v1, vs1, d1, ds1, p1, q1, rfl, rfl, rfl, h1, r1⟩ := trodAll_cons r0
  obtain ⟨rfl, rfl, rfl⟩ := trodAll_nil r1
  obtain rfl : args = #[v0, v1] := by cases args; simp_all
  obtain ⟨rfl, rfl⟩ := trodVars_none hV
  obtain ⟨A0, n0, c0, rfl, -, hr0⟩ := open_bytes h0 (okWide_slice Try.underlying22 (hval 0 _ _ rfl rfl))
  obtain ⟨A1, n1, c1, rfl, -, hr1⟩ := open_bytes h1 (okWide_slice Try.underlying22 (hval 1 _ _ rfl rfl))
  clear hA0 hval0
  refine (walk A0 A1 n0 n1 c0 c1 W hr0 hr1).mono fun e W' ⟨he, hb⟩ => ?_
  subst he
  rw [List.append_nil] at hW' hlt
  exact ⟨_, rfl, post_of_below (pa := _) (pv := []) hW' (fun _ _ _ => (trodAll_cons_mk (shut_bool Try.underlying4 _) trodAll_mk0))
    (fun sp hsp => trodAll_below cl_laid hb _ _ _ _ (by kernel_rfl) hA1 hlt hsp) (fun _ _ => rfl) (List.append_nil _).symm hb (ok_one (by kernel_rfl) rfl (okWide_bool_mk Try.underlying4 _))⟩

theorem g0 : Try.prog.funcNamed Rows.fnBalancesRow.func = some 3 := by kernel_rfl
theorem g1 : Rows.fnBalancesRow.inPlace = Try.prog.inPlace 3 := by kernel_rfl
theorem g2 : Rows.fnBalancesRow.unfollowed = Try.prog.unfollowed 3 := by kernel_rfl
theorem g3 : Rows.fnBalancesRow.recurses = Try.prog.recurses 3 := by kernel_rfl
theorem g4 : Rows.fnBalancesRow.named = Try.prog.varsNamed 3 := by kernel_rfl
theorem g5 : Rows.fnBalancesRow.wf (OpenSpec.ofChange Rows.fnBalancesSpec) = true := by kernel_rfl
theorem g6 : (Try.f3.params.all (Try.prog.readableRec ·)) = true := by kernel_rfl
theorem g7 : Rows.fnBalancesRow.veiledFits Try.prog Try.f3.params.toList (Try.f3.params.toList ++ Try.f3.resultTypes.toList) = true := by kernel_rfl
theorem g8 : joinedFacts Try.prog 3 Try.f3 Rows.fnBalancesSpec Rows.fnBalancesRow = true :=
  gen_facts _ _ _ _ rfl rfl cl_laid cl_maps cl_stops cl_knobs cl_heard cl_enter cl_lifts cl_make g5 g6 rfl rfl rfl g1 g2 g3 g4
    (by as_aux_lemma => kernel_rfl) (by as_aux_lemma => kernel_rfl) (by as_aux_lemma => kernel_rfl) (by as_aux_lemma => kernel_rfl) (by as_aux_lemma => kernel_rfl) (by as_aux_lemma => kernel_rfl) (by as_aux_lemma => kernel_rfl) (by as_aux_lemma => kernel_rfl)
    cl_keys.symm rfl rfl rfl rfl rfl (by as_aux_lemma => kernel_rfl) (by as_aux_lemma => kernel_rfl) g7
theorem g9 : Try.f3.isInstance Try.prog Rows.fnBalancesRow.origin Rows.fnBalancesRow.targs := of_decide_eq_true (by kernel_rfl)
theorem g10 : Try.f3.isWrapper Try.prog Rows.fnBalancesRow.wrapper Rows.fnBalancesRow.mainSum := by
  unfold Func.isWrapper; first | (rw [if_pos (by decide +kernel)]; kernel_rfl) | (rw [if_neg (by decide +kernel)]; exact ⟨rfl, rfl⟩)
theorem over : Rows.fnBalancesRow.holds Try.pinned (OpenSpec.ofChange Rows.fnBalancesSpec) :=
  OpenClaim.holds_of_wide 3 Try.f3 rfl rfl rfl rfl rfl rfl rfl ⟨rfl, rfl, rfl, rfl, rfl⟩ rfl rfl rfl rfl rfl g0 Try.func3 g8 g9 g10 (fun os started H enc _ => lifted os started H enc)
theorem proved : Rows.FnBalancesSaid := over
end Go.Proofs.Ytlhepgdheopgaaa.lawBalances
