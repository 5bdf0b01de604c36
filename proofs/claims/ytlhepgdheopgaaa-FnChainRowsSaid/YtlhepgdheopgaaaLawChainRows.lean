/-
  laws.FnChainRows answers yes, for every two inputs, and leaves its arguments as they were. No condition.
-/
import Derived.Test.YtlhepgdheopgaaaCr4
import Derived.Test.YtlhepgdheopgaaaClosed
import Derived.BigQuiet
import Derived.Deep.DeepCutAuto
namespace Go.Proofs.Ytlhepgdheopgaaa.lawChainRows
open Go.ChangeShapes Go.WideShapes Go.ChangeAt Go.RowKit

set_option maxRecDepth 100000 in
set_option maxHeartbeats 6400000 in
theorem walk (A B : Option Addr) (n m ca cb : Nat) (W : World) (hA : BR W A n) (hB : BR W B m) :
    Calls Try.prog 4 #[.slice A n ca, .slice B m cb] W fun e w' => e = .returned (.bool true) ∧ Below W.heap.size W w' := by
  have HL := Lib.hid (b10Long_any A B n m ca cb W)
  by_cases hlg : 1048576 < n ∨ 1048576 < m
  · have hb : (decide (1048576 < n) || decide (1048576 < m)) = true := by simpa using hlg
    rw [hb] at HL
    clear hlg hb hA hB
    go_enter Try.func4, Try.ntmps4
    go_wp2_with (go_at_call 6; (with_reducible refine HL.out.mono ?_); rintro e w1 ⟨rfl, rfl⟩)
    go_ret
    exact ⟨rfl, Below.refl _ _⟩
  · have hb : (decide (1048576 < n) || decide (1048576 < m)) = false := by simp; omega
    rw [hb] at HL
    have HC := Lib.hid (B10Chain_any A n ca W (by omega) hA)
    have HP : Hid (∀ k : Nat, k ≤ 12 → ∀ W', Below W.heap.size W W' → Calls Try.prog 8 #[.slice B m cb, .int .i64 k] W' (fun e w' => ∃ A c ws, e = .returned (.slice A k c) ∧ Rw 4 4 k ws ∧ w'.ownsRow W'.heap.size 31 1 (.slice A k c) k (fl ws) ∧ Below W'.heap.size W' w')) := Lib.hid fun k hk W' hW => B10Picks_any B m cb k W' (by omega) hk (hB.keep hW)
    have HBB : Hid (∀ W', Below W.heap.size W W' → Calls Try.prog 26 #[.slice B m cb, .int .i64 0, .int .i64 5] W' (fun e w' => ∃ v : Nat, v < 5 ∧ e = .returned (.int .i64 v) ∧ W' = w')) := Lib.hid fun W' hW => b10At_any B m cb 0 5 W' (by omega) (by omega) (by omega) (hB.keep hW)
    clear hlg hb hA hB
    go_enter Try.func4, Try.ntmps4
    go_upto_region 3 with (go_at_call 6; (with_reducible refine HL.out.mono ?_); rintro e w1 ⟨rfl, rfl⟩)
    clear HL
    go_upto_region 4 with (go_at_call 7; (with_reducible refine HC.out.mono ?_); rintro e w1 ⟨k, q, A1, c1, hk2, hk5, hq, rfl, ho, hb⟩; have O1 := Lib.hid ho; have B1 := Lib.hid hb; have CH := Lib.hid (src_chn hk2 hk5 hq); have TH := Lib.hid (src_thick hk2 hk5 hq); have LT := Lib.hid (src_lt (q := q) (n := k)); clear ho hb hq)
    have X1 := Lib.hid (own_cap O1.out)
    generalize tab k (srcF q k) = xs at *
    have F2 : Hid (∀ w2, w2 = w1.alloc (.cells #[.int .i64 k, .slice A1 (k * k : Nat) c1] 26) → Below W.heap.size W w2 ∧ (w2.cell? ⟨w1.heap.size, 0, none⟩ = some (.int .i64 k) ∧ w2.cell? ⟨w1.heap.size, 1, none⟩ = some (.slice A1 (k * k : Nat) c1)) ∧ Rd w2 w2.heap.size A1 (fl xs)) := Lib.hid fun w2 h => by
      subst h
      exact ⟨below_al B1.out _, ⟨by simp [go_sem], by simp [go_sem]⟩, (Rd.of_own O1.out).at_ (below_al (Below.refl _ _) _)⟩
    have hF := F2.out _ rfl
    obtain ⟨t0, t1⟩ := hF.2.1
    have B2 := Lib.hid hF.1
    have R2 := Lib.hid hF.2.2
    clear F2 hF O1 B1 HC
    generalize World.alloc w1 _ = w2 at *
    generalize w1.heap.size = b5 at *
    obtain ⟨T, hT3, hT, hTA⟩ := rest_finds CH.out TH.out hk5
    have HT := Lib.hid hT
    have HTA := Lib.hid hTA
    clear hT hTA
    -- the row
    go_upto_region 5 with (go_at_call 8; (with_reducible refine (HP.out k (by omega) _ B2.out).mono ?_); rintro e w3 ⟨A6, c6, ws, rfl, hw, ho, hb⟩; have s0 := keepC hb t0; have s1 := keepC hb t1; have B3 := Lib.hid (below_next B2.out hb); have R3 := Lib.hid (R2.out.at_ hb); have V3 := Lib.hid (Rd.of_own ho); have WS := Lib.hid hw; clear ho hb hw; clear t0 t1)
    clear B2 R2 HP
    have NX := Lib.hid (next_row CH.out WS.out hk5)
    -- a step, and another one
    have HS := Lib.hid (StepRow_gen (cb := c6) (W := w3) CH.out (by decide) WS.out NX.out.1.nn X1.out.1 X1.out.2 R3.out V3.out)
    go_upto_region 6 with (go_at_call 12; (with_reducible refine HS.out.mono ?_); rintro e w4 ⟨A7, c7, rfl, ho, hb⟩; have t0 := keepC hb s0; have t1 := keepC hb s1; have B4 := Lib.hid (below_next B3.out hb); have R4 := Lib.hid (R3.out.at_ hb); have V4 := Lib.hid (V3.out.at_ hb); have N4 := Lib.hid (Rd.of_own ho); clear ho hb; clear s0 s1)
    clear B3 R3 V3 HS
    have HS := Lib.hid (StepRow_gen (cb := c7) (W := w4) CH.out (by decide) NX.out.1 (fun i hi => (then_row CH.out WS.out hk5 hi).1) X1.out.1 X1.out.2 R4.out N4.out)
    go_upto_region 7 with (go_at_call 12; (with_reducible refine HS.out.mono ?_); rintro e w5 ⟨A9, c9, rfl, ho, hb⟩; have s0 := keepC hb t0; have s1 := keepC hb t1; have B5 := Lib.hid (below_next B4.out hb); have R5 := Lib.hid (R4.out.at_ hb); have V5 := Lib.hid (V4.out.at_ hb); have N5 := Lib.hid (N4.out.at_ hb); have H5 := Lib.hid (Rd.of_own ho); clear ho hb; clear t0 t1)
    clear B4 R4 V4 N4 HS
    -- the joined chain
    have HJ := Lib.hid (JoinChains_at (W := w5) CH.out hk2 hk5 X1.out.1 X1.out.2 R5.out)
    go_upto_region 8 with (go_at_call 17; (with_reducible refine HJ.out.mono ?_); rintro e w6 ⟨A11, c11, rfl, ho, hb⟩; have O6 := Lib.hid ho; have H6 := Lib.hid hb; clear ho hb)
    have X11 := Lib.hid (own_cap O6.out)
    have F7 : Hid (∀ w7, w7 = w6.alloc (.cells #[.int .i64 k, .slice A11 (k * k : Nat) c11] 26) → Below W.heap.size W w7 ∧ ((w7.cell? ⟨w6.heap.size, 0, none⟩ = some (.int .i64 k) ∧ w7.cell? ⟨w6.heap.size, 1, none⟩ = some (.slice A11 (k * k : Nat) c11)) ∧ (w7.cell? ⟨b5, 0, none⟩ = some (.int .i64 k) ∧ w7.cell? ⟨b5, 1, none⟩ = some (.slice A1 (k * k : Nat) c1))) ∧ Rd w7 w7.heap.size A1 (fl xs) ∧ Rd w7 w7.heap.size A6 (fl ws) ∧ Rd w7 w7.heap.size A7 (fl (stepRow xs ws k)) ∧ Rd w7 w7.heap.size A9 (fl (stepRow xs (stepRow xs ws k) k)) ∧ Rd w7 w7.heap.size A11 (fl (joinL xs k))) := Lib.hid fun w7 h => by
      subst h
      have hb := below_al H6.out (.cells #[.int .i64 k, .slice A11 (k * k : Nat) c11] 26)
      exact ⟨below_next B5.out hb, ⟨⟨by simp [go_sem], by simp [go_sem]⟩, keepC hb s0, keepC hb s1⟩, R5.out.at_ hb, V5.out.at_ hb, N5.out.at_ hb, H5.out.at_ hb, (Rd.of_own O6.out).at_ (below_al (Below.refl _ _) _)⟩
    have hF := F7.out _ rfl
    obtain ⟨⟨y0, y1⟩, t0, t1⟩ := hF.2.1
    have B7 := Lib.hid hF.1
    have R7 := Lib.hid hF.2.2.1
    have V7 := Lib.hid hF.2.2.2.1
    have N7 := Lib.hid hF.2.2.2.2.1
    have H7 := Lib.hid hF.2.2.2.2.2.1
    have J7 := Lib.hid hF.2.2.2.2.2.2
    clear F7 hF O6 H6 B5 R5 V5 N5 H5 HJ s0 s1
    generalize World.alloc w6 _ = w7 at *
    generalize w6.heap.size = b11 at *
    -- one step of it
    have HS := Lib.hid (StepRow_gen (cb := c6) (W := w7) (join_chn CH.out hk2 hk5) (by decide) WS.out (fun i hi => (twice_near CH.out WS.out hk2 hk5 hi).1) X11.out.1 X11.out.2 J7.out V7.out)
    go_upto_region 9 with (go_at_call 12; (with_reducible refine HS.out.mono ?_); rintro e w8 ⟨A13, c13, rfl, ho, hb⟩; have s0 := keepC hb t0; have s1 := keepC hb t1; have B8 := Lib.hid (below_next B7.out hb); have R8 := Lib.hid (R7.out.at_ hb); have V8 := Lib.hid (V7.out.at_ hb); have N8 := Lib.hid (N7.out.at_ hb); have H8 := Lib.hid (H7.out.at_ hb); have J8 := Lib.hid (Rd.of_own ho); clear ho hb; clear t0 t1 y0 y1)
    clear B7 R7 V7 N7 H7 J7 HS X11
    -- two steps at once
    have HR := Lib.hid (RunRow_at (d := c6) (W := w8) CH.out WS.out hk5 X1.out.1 X1.out.2 R8.out V8.out)
    go_upto_region 10 with (go_at_call 18; (with_reducible refine HR.out.mono ?_); rintro e w9 ⟨A15, c15, rfl, ho, hb⟩; have t0 := keepC hb s0; have t1 := keepC hb s1; have B9 := Lib.hid (below_next B8.out hb); have R9 := Lib.hid (R8.out.at_ hb); have V9 := Lib.hid (V8.out.at_ hb); have N9 := Lib.hid (N8.out.at_ hb); have H9 := Lib.hid (H8.out.at_ hb); have J9 := Lib.hid (J8.out.at_ hb); have U9 := Lib.hid (Rd.of_own ho); clear ho hb; clear s0 s1)
    clear B8 R8 V8 N8 H8 J8 HR
    -- the row at rest
    have HR := Lib.hid (RestOf_at (W := w9) CH.out hk5 hT3 HT.out X1.out.1 X1.out.2 R9.out)
    have hT1 : ¬ ((T + 1 : Nat) : Int) < 1 := by omega
    have hT2 : ¬ ((T + 1 : Nat) : Int) > 300 := by omega
    have hT2' : ¬ (300 : Int) < ((T + 1 : Nat) : Int) := by omega
    go_upto_region 11 with (go_at_call 19; (with_reducible refine HR.out.mono ?_); rintro e w10 ⟨A17, c17, rfl, ho, hb⟩; have s0 := keepC hb t0; have s1 := keepC hb t1; have B10 := Lib.hid (below_next B9.out hb); have R10 := Lib.hid (R9.out.at_ hb); have V10 := Lib.hid (V9.out.at_ hb); have N10 := Lib.hid (N9.out.at_ hb); have H10 := Lib.hid (H9.out.at_ hb); have J10 := Lib.hid (J9.out.at_ hb); have U10 := Lib.hid (U9.out.at_ hb); have Q10 := Lib.hid (Rd.of_own ho); clear ho hb; clear t0 t1)
    clear B9 R9 V9 N9 H9 J9 U9 HR HT
    -- what is asked of all of it
    have HV := Lib.hid (ValidChain_at (W := w10) CH.out X1.out.1 X1.out.2 R10.out)
    have HSC : Hid (∀ W', Below w10.heap.size w10 W' → Calls Try.prog 21 #[.agg #[.int .i64 k, .slice A1 (k * k : Nat) c1], .agg #[.int .i64 k, .slice A1 (k * k : Nat) c1]] W' (fun e w' => e = .returned (.bool true) ∧ Below W'.heap.size W' w')) := Lib.hid fun W' hW => SameChain_at CH.out.len hk5 LT.out (R10.out.at_ hW)
    have HIR : Hid (∀ W', Below w10.heap.size w10 W' → Calls Try.prog 22 #[.slice A6 k c6] W' (fun e w' => e = .returned (.bool true) ∧ Below W'.heap.size W' w')) := Lib.hid fun W' hW => IsRow_at WS.out (by omega) hk5 (V10.out.at_ hW)
    have HBL : Hid (∀ W', Below w10.heap.size w10 W' → Calls Try.prog 23 #[.slice A15 k c15, .slice A9 k c9] W' (fun e w' => e = .returned (.bool true) ∧ Below W'.heap.size W' w')) := Lib.hid fun W' hW => (b10List_same A15 A9 (stepRow xs (stepRow xs ws k) k) k c15 c9 W' (stepRow_len _ _ _) (by omega) (step_lt _ _ (by omega)) (U10.out.at_ hW) (H10.out.at_ hW)).mono fun _ _ h => h.below
    clear LT
    go_upto_region 13 with (first
      | (go_at_call 20; (with_reducible refine HV.out.mono ?_); rintro e w11 ⟨rfl, hb⟩; have t0 := keepC hb s0; have t1 := keepC hb s1; have E11 := Lib.hid hb; clear hb; clear s0 s1)
      | (go_at_call 21; (with_reducible refine (HSC.out _ E11.out).mono ?_); rintro e w12 ⟨rfl, hb⟩; have s0 := keepC hb t0; have s1 := keepC hb t1; have E12 := Lib.hid (below_next E11.out hb); clear hb; clear t0 t1)
      | (go_at_call 22; (with_reducible refine (HIR.out _ E12.out).mono ?_); rintro e w13 ⟨rfl, hb⟩; have t0 := keepC hb s0; have t1 := keepC hb s1; have E13 := Lib.hid (below_next E12.out hb); clear hb; clear s0 s1)
      | (go_at_call 23; (with_reducible refine (HBL.out _ E13.out).mono ?_); rintro e w14 ⟨rfl, hb⟩; have s0 := keepC hb t0; have s1 := keepC hb t1; have E14 := Lib.hid (below_next E13.out hb); clear hb; clear t0 t1))
    have B14 := Lib.hid (below_next B10.out E14.out)
    have R14 := Lib.hid (R10.out.at_ E14.out)
    have Q14 := Lib.hid (Q10.out.at_ E14.out)
    have lV : (fl ws).length = k := by rw [fl_len]; exact WS.out.len
    have lN : (fl (stepRow xs ws k)).length = k := by rw [fl_len, stepRow_len]
    have lH : (fl (stepRow xs (stepRow xs ws k) k)).length = k := by rw [fl_len, stepRow_len]
    have lJ : (fl (stepRow (joinL xs k) ws k)).length = k := by rw [fl_len, stepRow_len]
    have lQ : (fl (restR xs k (T + 1))).length = k := by rw [fl_len]; exact (rest_ok CH.out hk5 (by omega)).1
    obtain ⟨bV, oV, rfl, -, hcV⟩ := (V10.out.at_ E14.out) (by omega)
    obtain ⟨bN, oN, rfl, -, hcN⟩ := (N10.out.at_ E14.out) (by omega)
    obtain ⟨bH, oH, rfl, -, hcH⟩ := (H10.out.at_ E14.out) (by omega)
    obtain ⟨bJ, oJ, rfl, -, hcJ⟩ := (J10.out.at_ E14.out) (by omega)
    obtain ⟨bQ, oQ, rfl, -, hcQ⟩ := Q14.out (by omega)
    -- what one round of the sums asks
    have HG : Hid (∀ i, i < k → (w14.cell? ⟨bV, oV + i, none⟩ = some (.float .f32 (rowOf ws i)) ∧ w14.cell? ⟨bN, oN + i, none⟩ = some (.float .f32 (rowOf (stepRow xs ws k) i)) ∧ w14.cell? ⟨bH, oH + i, none⟩ = some (.float .f32 (rowOf (stepRow xs (stepRow xs ws k) k) i)) ∧ w14.cell? ⟨bJ, oJ + i, none⟩ = some (.float .f32 (rowOf (stepRow (joinL xs k) ws k) i)) ∧ w14.cell? ⟨bQ, oQ + i, none⟩ = some (.float .f32 (rowOf (restR xs k (T + 1)) i))) ∧
        ((∀ w, (convert 31 37 (.float .f32 (rowOf ws i))).run Try.prog w = .ok (.float .f64 (wd (rowOf ws i))) w) ∧ (∀ w, (convert 31 37 (.float .f32 (rowOf (stepRow xs ws k) i))).run Try.prog w = .ok (.float .f64 (wd (rowOf (stepRow xs ws k) i))) w) ∧ (∀ w, (convert 31 37 (.float .f32 (rowOf (stepRow xs (stepRow xs ws k) k) i))).run Try.prog w = .ok (.float .f64 (wd (rowOf (stepRow xs (stepRow xs ws k) k) i))) w) ∧ (∀ w, (convert 31 37 (.float .f32 (rowOf (stepRow (joinL xs k) ws k) i))).run Try.prog w = .ok (.float .f64 (wd (rowOf (stepRow (joinL xs k) ws k) i))) w) ∧ (∀ w, (convert 31 37 (.float .f32 (rowOf (restR xs k (T + 1)) i))).run Try.prog w = .ok (.float .f64 (wd (rowOf (restR xs k (T + 1)) i))) w)) ∧
        (floatBits .add .f64 (sumD (rowOf ws) i) (wd (rowOf ws i)) = some (sumD (rowOf ws) (i + 1)) ∧ floatBits .add .f64 (sumD (rowOf (stepRow xs ws k)) i) (wd (rowOf (stepRow xs ws k) i)) = some (sumD (rowOf (stepRow xs ws k)) (i + 1)) ∧ floatBits .add .f64 (sumD (rowOf (restR xs k (T + 1))) i) (wd (rowOf (restR xs k (T + 1)) i)) = some (sumD (rowOf (restR xs k (T + 1))) (i + 1))) ∧
        ∃ s b, floatBits .add .f64 4607182418800017408 (wd (rowOf (stepRow xs (stepRow xs ws k) k) i)) = some s ∧ floatBits .mul .f64 4562254508917369340 s = some b ∧ (FloatKind.f64.format.order (gapD (wd (rowOf (stepRow xs (stepRow xs ws k) k) i)) (wd (rowOf (stepRow (joinL xs k) ws k) i))) b == some .gt) = false ∧
          ∀ w, Calls Try.prog 13 #[.float .f64 (wd (rowOf (stepRow xs (stepRow xs ws k) k) i)), .float .f64 (wd (rowOf (stepRow (joinL xs k) ws k) i))] w (Quiet (.float .f64 (gapD (wd (rowOf (stepRow xs (stepRow xs ws k) k) i)) (wd (rowOf (stepRow (joinL xs k) ws k) i)))) w)) := Lib.hid fun i hi => by
      obtain ⟨g1, g2, g4⟩ := round_facts CH.out WS.out hk2 hk5 hT3 hi
      refine ⟨⟨rowOf_cell (by rw [WS.out.len]; exact hi) hcV, rowOf_cell (by rw [stepRow_len]; exact hi) hcN, rowOf_cell (by rw [stepRow_len]; exact hi) hcH, rowOf_cell (by rw [stepRow_len]; exact hi) hcJ, rowOf_cell (by have := (rest_ok CH.out hk5 (t := T + 1) (by omega)).1; omega) hcQ⟩, g1, g2, g4⟩
    have HE := Lib.hid (sums_facts CH.out WS.out hk5 hT3)
    have HK : Hid (∀ i, i < k → ∀ W', Below w14.heap.size w14 W' → W'.cell? ⟨bQ, oQ + i, none⟩ = some (.float .f32 (rowOf (restR xs k (T + 1)) i))) := Lib.hid fun i hi W' hW => keepC hW (HG.out i hi).1.2.2.2.2
    clear hcV hcN hcH hcJ hcQ V10 N10 H10 J10 Q10 U10 R10 B10 E11 E12 E13 E14 lV lN lH lJ lQ HV HSC HIR HBL
    go_wp2_with fail
    go_loopw [20, 21, 22, 163] (fun a b c t wr => ∃ i r : Nat, i ≤ k ∧ t = .int .i64 i ∧ a = .float .f64 (sumD (rowOf ws) i) ∧ b = .float .f64 (sumD (rowOf (stepRow xs ws k)) i) ∧ c = .float .f64 (sumD (rowOf (restR xs k (T + 1))) i) ∧ wr = w14.drewN r) (fun _ _ _ t _ => k - (intOf t).toNat)
    case atStart => exact ⟨0, 0, Nat.zero_le _, rfl, rfl, rfl, rfl, rfl⟩
    case round =>
      obtain ⟨i, r, hi, rfl, rfl, rfl, rfl, rfl⟩ := hrel
      by_cases hlt : i < k
      · obtain ⟨⟨x1, x2, x3, x4, x5⟩, ⟨v1, v2, v3, v4, v5⟩, ⟨a1, a2, a3⟩, s, b, m1, m2, m3, m4⟩ := HG.out i hlt
        have GG := Lib.hid m4
        clear m4
        have e1 := fun w => run_float_arith (P := Try.prog) w .add 37 .f64 _ _ _ a1
        have e2 := fun w => run_float_arith (P := Try.prog) w .add 37 .f64 _ _ _ a2
        have e3 := fun w => run_float_arith (P := Try.prog) w .add 37 .f64 _ _ _ a3
        have e4 := fun w => run_float_arith (P := Try.prog) w .add 37 .f64 _ _ _ m1
        have e5 := fun w => run_float_arith (P := Try.prog) w .mul 37 .f64 _ _ _ m2
        clear a1 a2 a3 m1 m2
        generalize rowOf ws i = r1 at *
        generalize rowOf (stepRow xs ws k) i = r2 at *
        generalize rowOf (stepRow xs (stepRow xs ws k) k) i = r3 at *
        generalize rowOf (stepRow (joinL xs k) ws k) i = r4 at *
        generalize rowOf (restR xs k (T + 1)) i = r5 at *
        generalize gapD (wd r3) (wd r4) = gp at *
        generalize wd r1 = d1 at *
        generalize wd r2 = d2 at *
        generalize wd r3 = d3 at *
        generalize wd r4 = d4 at *
        generalize wd r5 = d5 at *
        go_wp2_with fail
        go_quiet ((go_at_call 13; first | exact quiet_one (GG.out _) | exact quiet_add (GG.out _)))
        go_wp2_with fail
        go_roundw
        case rel => exact ⟨i + 1, _, by omega, by go_num, rfl, rfl, rfl, rfl⟩
        case measure => simp [intOf]; omega
      · obtain rfl : k = i := by omega
        have s0' : (w14.drewN r).cell? ⟨b5, 0, none⟩ = some (.int .i64 k) := s0
        have s1' : (w14.drewN r).cell? ⟨b5, 1, none⟩ = some (.slice A1 (k * k : Nat) c1) := s1
        have B15 := Lib.hid (below_dn B14.out r)
        have R15 := Lib.hid (R14.out.at_ (below_dn (Below.refl _ _) r))
        have Q15 := Lib.hid (Q14.out.at_ (below_dn (Below.refl _ _) r))
        have HK15 : Hid (∀ i, i < k → ∀ W', Below (w14.drewN r).heap.size (w14.drewN r) W' → W'.cell? ⟨bQ, oQ + i, none⟩ = some (.float .f32 (rowOf (restR xs k (T + 1)) i))) := Lib.hid fun i hi W' hW => HK.out i hi W' ((below_dn (Below.refl _ _) r).trans (hW.mono (by simp)))
        clear s0 s1 B14 R14 Q14 HG HK
        generalize w14.drewN r = w15 at *
        have RR := Lib.hid (rest_rows CH.out hk5 (T + 1) (by omega)).1
        have HS := Lib.hid (StepRow_gen (cb := c17) (W := w15) CH.out (by decide) RR.out (fun i hi => (rest_top CH.out hk5 (t := T + 2) (by omega) hi).1) X1.out.1 X1.out.2 R15.out Q15.out)
        obtain ⟨⟨s, b, f1, f2, f3⟩, f4, f5, f6⟩ := HE.out
        have e1 := fun w => run_float_arith (P := Try.prog) w .add 37 .f64 _ _ _ f1
        have e2 := fun w => run_float_arith (P := Try.prog) w .mul 37 .f64 _ _ _ f2
        have G1 := Lib.hid f4
        have G2 := Lib.hid f6
        clear HE f1 f2 f4 f6
        generalize gapD (sumD (rowOf ws) k) (sumD (rowOf (stepRow xs ws k)) k) = gp1 at *
        generalize gapD (sumD (rowOf (restR xs k (T + 1))) k) 4607182418800017408 = gp2 at *
        generalize sumD (rowOf ws) k = z1 at *
        generalize sumD (rowOf (stepRow xs ws k)) k = z2 at *
        generalize sumD (rowOf (restR xs k (T + 1))) k = z3 at *
        -- one step of the row at rest
        go_upto_region 26 with (go_at_call 12; (with_reducible refine HS.out.mono ?_); rintro e w16 ⟨A24, c24, rfl, ho, hb⟩; have t0 := keepC hb s0'; have t1 := keepC hb s1'; have B16 := Lib.hid (below_next B15.out hb); have R16 := Lib.hid (R15.out.at_ hb); have Q16 := Lib.hid (Q15.out.at_ hb); have S16 := Lib.hid (Rd.of_own ho); have E16 := Lib.hid hb; clear ho hb; clear s0' s1')
        clear B15 R15 Q15 HS
        -- the lazy chain
        have HZ := Lib.hid (LazyChain_at (W := w16) CH.out hk2 X1.out.1 X1.out.2 R16.out)
        go_upto_region 27 with (go_at_call 24; (with_reducible refine HZ.out.mono ?_); rintro e w17 ⟨A26, c26, rfl, ho, hb⟩; have O17 := Lib.hid ho; have H17 := Lib.hid hb; clear ho hb)
        clear t0 t1
        have X26 := Lib.hid (own_cap O17.out)
        have F18 : Hid (∀ w18, w18 = w17.alloc (.cells #[.int .i64 k, .slice A26 (k * k : Nat) c26] 26) → Below W.heap.size W w18 ∧ Below w15.heap.size w15 w18 ∧ (w18.cell? ⟨w17.heap.size, 0, none⟩ = some (.int .i64 k) ∧ w18.cell? ⟨w17.heap.size, 1, none⟩ = some (.slice A26 (k * k : Nat) c26)) ∧ Rd w18 w18.heap.size (some ⟨bQ, oQ, none⟩) (fl (restR xs k (T + 1))) ∧ Rd w18 w18.heap.size A24 (fl (stepRow xs (restR xs k (T + 1)) k)) ∧ Rd w18 w18.heap.size A26 (fl (lazyL xs k))) := Lib.hid fun w18 h => by
          subst h
          have hb := below_al H17.out (.cells #[.int .i64 k, .slice A26 (k * k : Nat) c26] 26)
          exact ⟨below_next B16.out hb, below_next E16.out hb, ⟨by simp [go_sem], by simp [go_sem]⟩, Q16.out.at_ hb, S16.out.at_ hb, (Rd.of_own O17.out).at_ (below_al (Below.refl _ _) _)⟩
        have hF := F18.out _ rfl
        obtain ⟨y0, y1⟩ := hF.2.2.1
        have B18 := Lib.hid hF.1
        have E18 := Lib.hid hF.2.1
        have Q18 := Lib.hid hF.2.2.2.1
        have S18 := Lib.hid hF.2.2.2.2.1
        have Z18 := Lib.hid hF.2.2.2.2.2
        clear F18 hF O17 H17 B16 R16 Q16 S16 E16 HZ
        generalize World.alloc w17 _ = w18 at *
        generalize w17.heap.size = b26 at *
        have HS := Lib.hid (StepRow_gen (cb := c17) (W := w18) (lazy_chn CH.out hk2) (by decide) RR.out (fun i hi => (slow_gap CH.out TH.out hk2 hk5 hT3 HTA.out hi).1) X26.out.1 X26.out.2 Z18.out Q18.out)
        go_upto_region 28 with (go_at_call 12; (with_reducible refine HS.out.mono ?_); rintro e w19 ⟨A28, c28, rfl, ho, hb⟩; have B19 := Lib.hid (below_next B18.out hb); have E19 := Lib.hid (below_next E18.out hb); have S19 := Lib.hid (S18.out.at_ hb); have Z19 := Lib.hid (Rd.of_own ho); clear ho hb; clear y0 y1)
        clear B18 E18 Q18 S18 Z18 HS
        go_upto_region 30 with (first
          | (go_at_call 13; (with_reducible refine (G1.out _).mono ?_); rintro e w20 ⟨rfl, rr, rfl⟩)
          | (go_at_call 13; (with_reducible refine (G2.out _).mono ?_); rintro e w21 ⟨rfl, rr2, rfl⟩))
        generalize rr + rr2 = r22 at *
        have lS : (fl (stepRow xs (restR xs k (T + 1)) k)).length = k := by rw [fl_len, stepRow_len]
        have lZ : (fl (stepRow (lazyL xs k) (restR xs k (T + 1)) k)).length = k := by rw [fl_len, stepRow_len]
        obtain ⟨bS, oS, rfl, -, hcS⟩ := (S19.out.at_ (below_dn (Below.refl _ _) r22)) (by omega)
        obtain ⟨bZ, oZ, rfl, -, hcZ⟩ := (Z19.out.at_ (below_dn (Below.refl _ _) r22)) (by omega)
        have B22 := Lib.hid (below_dn B19.out r22)
        have HG : Hid (∀ i, i < k → ((w19.drewN r22).cell? ⟨bS, oS + i, none⟩ = some (.float .f32 (rowOf (stepRow xs (restR xs k (T + 1)) k) i)) ∧ (w19.drewN r22).cell? ⟨bZ, oZ + i, none⟩ = some (.float .f32 (rowOf (stepRow (lazyL xs k) (restR xs k (T + 1)) k) i)) ∧ (w19.drewN r22).cell? ⟨bQ, oQ + i, none⟩ = some (.float .f32 (rowOf (restR xs k (T + 1)) i))) ∧
            (((∀ w, (convert 31 37 (.float .f32 (rowOf (stepRow xs (restR xs k (T + 1)) k) i))).run Try.prog w = .ok (.float .f64 (wd (rowOf (stepRow xs (restR xs k (T + 1)) k) i))) w) ∧ (∀ w, (convert 31 37 (.float .f32 (rowOf (stepRow (lazyL xs k) (restR xs k (T + 1)) k) i))).run Try.prog w = .ok (.float .f64 (wd (rowOf (stepRow (lazyL xs k) (restR xs k (T + 1)) k) i))) w) ∧ (∀ w, (convert 31 37 (.float .f32 (rowOf (restR xs k (T + 1)) i))).run Try.prog w = .ok (.float .f64 (wd (rowOf (restR xs k (T + 1)) i))) w)) ∧
            (FloatKind.f64.format.order (gapD (wd (rowOf (stepRow xs (restR xs k (T + 1)) k) i)) (wd (rowOf (restR xs k (T + 1)) i))) 4562254508917369340 == some .gt) = false ∧
            (FloatKind.f64.format.order (gapD (wd (rowOf (stepRow (lazyL xs k) (restR xs k (T + 1)) k) i)) (wd (rowOf (restR xs k (T + 1)) i))) 4562254508917369340 == some .gt) = false ∧
            (NN Ieee.double (wd (rowOf (stepRow xs (restR xs k (T + 1)) k) i)) ∧ NN Ieee.double (wd (rowOf (stepRow (lazyL xs k) (restR xs k (T + 1)) k) i)) ∧ NN Ieee.double (wd (rowOf (restR xs k (T + 1)) i))))) := Lib.hid fun i hi =>
          ⟨⟨rowOf_cell (by rw [stepRow_len]; exact hi) hcS, rowOf_cell (by rw [stepRow_len]; exact hi) hcZ, HK15.out i hi _ (below_dn E19.out r22)⟩, still_facts CH.out TH.out hk2 hk5 hT3 HTA.out hi⟩
        clear hcS hcZ lS lZ S19 Z19 B19 E19 HK15 G1 G2 f3 f5 e1 e2 NX X26
        generalize w19.drewN r22 = w22 at *
        go_wp2_with fail
        go_loopw [264] (fun t wr => ∃ i r : Nat, i ≤ k ∧ t = .int .i64 i ∧ wr = w22.drewN r) (fun t _ => k - (intOf t).toNat)
        case atStart => exact ⟨0, 0, Nat.zero_le _, rfl, rfl⟩
        case round =>
          obtain ⟨i, r, hi, rfl, rfl⟩ := hrel
          by_cases hlt : i < k
          · obtain ⟨⟨x1, x2, x3⟩, ⟨v1, v2, v3⟩, o1, o2, m1, m2, m3⟩ := HG.out i hlt
            generalize rowOf (stepRow xs (restR xs k (T + 1)) k) i = r1 at *
            generalize rowOf (stepRow (lazyL xs k) (restR xs k (T + 1)) k) i = r2 at *
            generalize rowOf (restR xs k (T + 1)) i = r3 at *
            generalize wd r1 = d1 at *
            generalize wd r2 = d2 at *
            generalize wd r3 = d3 at *
            go_wp2_with fail
            go_quiet ((go_at_call 13; first | exact quiet_one (b10Gap_quiet _ _ _ (by assumption) (by assumption)) | exact quiet_add (b10Gap_quiet _ _ _ (by assumption) (by assumption))))
            go_wp2_with fail
            go_roundw
            case rel => exact ⟨i + 1, _, by omega, by go_num, rfl⟩
            case measure => simp [intOf]; omega
          · have B23 := Lib.hid (below_dn B22.out r)
            clear HG B22 CH TH HTA WS RR X1 hT1 hT2 hT2'
            generalize w22.drewN r = w23 at *
            have HB1 := Lib.hid (HBB.out _ B23.out)
            clear HBB
            go_wp2_with fail
            refine HB1.out.mono ?_
            rintro e w24 ⟨v, hv, rfl, rfl⟩
            have HRC := Lib.hid (RingChain_at hv w23)
            have HGC := Lib.hid fun A c W' => @GroupsOfChain_at v hv A c W'
            obtain ⟨p, hp⟩ : ∃ p, p = 3 + v := ⟨_, rfl⟩
            have ev : ((p : Nat) : Int) = (3 : Int) + (v : Int) := by omega
            rw [← hp, ev] at HRC
            rw [← hp] at HGC
            have EV := Lib.hid ev
            have hp7 : p ≤ 7 := by omega
            have hp3 : 3 ≤ p := by omega
            clear ev hp
            go_wp2_with fail
            with_reducible refine HRC.out.mono ?_
            rintro e w25 ⟨A31, c31, rfl, ho, hb⟩
            have O25 := Lib.hid ho
            have H25 := Lib.hid hb
            clear ho hb
            go_upto_region 37 with fail
            have X31 := Lib.hid (own_cap O25.out)
            have F26 : Hid (∀ w26, w26 = w25.alloc (.cells #[.int .i64 p, .slice A31 (p * p : Nat) c31] 26) → Below W.heap.size W w26 ∧ (w26.cell? ⟨w25.heap.size, 0, none⟩ = some (.int .i64 p) ∧ w26.cell? ⟨w25.heap.size, 1, none⟩ = some (.slice A31 (p * p : Nat) c31)) ∧ Rd w26 w26.heap.size A31 (fl (ringL p))) := Lib.hid fun w26 h => by
              subst h
              have hb := below_al H25.out (.cells #[.int .i64 p, .slice A31 (p * p : Nat) c31] 26)
              exact ⟨below_next B23.out hb, ⟨by simp [go_sem], by simp [go_sem]⟩, (Rd.of_own O25.out).at_ (below_al (Below.refl _ _) _)⟩
            have hF := F26.out _ rfl
            obtain ⟨y0, y1⟩ := hF.2.1
            have B26 := Lib.hid hF.1
            have R26 := Lib.hid hF.2.2
            clear F26 hF O25 H25 B23 HRC HB1
            generalize World.alloc w25 _ = w26 at *
            generalize w25.heap.size = b31 at *
            have HG := Lib.hid (HGC.out A31 c31 w26 X31.out.1 X31.out.2 R26.out)
            clear HGC R26 X31 EV
            go_upto_region 38 with (go_at_call 27; (with_reducible refine HG.out.mono ?_); rintro e w27 ⟨A33, c33, rfl, ho, hb⟩; have z0 := keepC hb y0; have z1 := keepC hb y1; have B27 := Lib.hid (below_next B26.out hb); have O27 := Lib.hid (Rd.of_own ho); clear ho hb; clear y0 y1)
            clear HG B26
            obtain ⟨bG, oG, rfl, -, hcG⟩ := O27.out (by rw [show (il (List.replicate p 0)).length = p by simp [il]]; omega)
            have HZ : Hid (∀ i, i < p → w27.cell? ⟨bG, oG + i, none⟩ = some (.int .i64 0)) := Lib.hid fun i hi => by
              have := hcG i (by simp [il]; exact hi)
              simpa [il] using this
            clear hcG O27
            go_wp2_with fail
            go_loopw [321] (fun t wr => ∃ i r : Nat, i ≤ p ∧ t = .int .i64 i ∧ wr = w27.drewN r) (fun t _ => p - (intOf t).toNat)
            case atStart => exact ⟨0, 0, Nat.zero_le _, rfl, rfl⟩
            case round =>
              obtain ⟨i, r, hi, rfl, rfl⟩ := hrel
              by_cases hlt : i < p
              · have x1 := HZ.out i hlt
                go_wp2_with fail
                go_roundw
                case rel => exact ⟨i + 1, _, by omega, by go_num, rfl⟩
                case measure => simp [intOf]; omega
              · go_wp2_with fail
                go_ret
                exact ⟨rfl, below_dn B27.out r⟩

set_option maxRecDepth 100000 in
set_option maxHeartbeats 3200000 in
theorem lifted (os : Os) (started : os.Started) (H : Type) (enc : TypeId × Value → H) :
    ReturnsInHanded {} Try.checked os 4 .any (Rows.fnChainRowsSpec.pre6 enc Try.prog Try.f4 Rows.fnChainRowsRow.domain false) (Rows.fnChainRowsSpec.post enc Try.prog Try.f4 false true false false) := by
  refine returnsInHanded_of_change (C := Try.checked) own started (by kernel_rfl) Try.func4
    (ChangeSpec.witness6 (enc := enc) (C := Try.checked) false ⟨#[], #[.slice none 0 0, .slice none 0 0], []⟩ 8 (by kernel_rfl) (by kernel_rfl) (by kernel_rfl) (by kernel_rfl)) ?_
  intro W base args ds gs before hval0 hW hcnd _
  have hval : ∀ (j : Nat) t v, Try.f4.params[j]? = some t → args[j]? = some v → Value.okWide Try.prog W .any base t v := hval0
  have hW' := hW
  have hlt : ∀ p ∈ before, p.block < W.heap.size := fun p hp => hW.lt p hp
  obtain ⟨p, q, hA0, hV, rfl, hfz, hnd⟩ := hW
  have hA : DataW.TrodAll enc Try.prog W 0 (fun _ => true) true Try.f4.params.toList args.toList ds p := hA0
  rw [Try.params4] at hA hval
  have hA1 := hA
  obtain ⟨v0, vs0, d0, ds0, p0, q0, hargs, rfl, rfl, h0, r0⟩ := trodAll_cons hA
  obtain ⟨v1, vs1, d1, ds1, p1, q1, rfl, rfl, rfl, h1, r1⟩ := trodAll_cons r0
  obtain ⟨rfl, rfl, rfl⟩ := trodAll_nil r1
  obtain rfl : args = #[v0, v1] := by cases args; simp_all
  obtain ⟨rfl, rfl⟩ := trodVars_none hV
  obtain ⟨A0, n0, c0, rfl, -, hr0⟩ := open_bytes h0 (okWide_slice Try.underlying22 (hval 0 _ _ rfl rfl))
  obtain ⟨A1, n1, c1, rfl, -, hr1⟩ := open_bytes h1 (okWide_slice Try.underlying22 (hval 1 _ _ rfl rfl))
  clear hA0 hval0
  refine (walk A0 A1 n0 n1 c0 c1 W hr0 hr1).mono fun e W' ⟨he, hb⟩ => ?_
  subst he
  rw [List.append_nil] at hW' hlt
  exact ⟨_, rfl, post_of_below (pa := _) (pv := []) hW' (fun _ _ _ => (trodAll_cons_mk (shut_bool Try.underlying4 _) trodAll_mk0))
    (fun sp hsp => trodAll_below cl_laid hb _ _ _ _ (by kernel_rfl) hA1 hlt hsp) (fun _ _ => rfl) (List.append_nil _).symm hb (ok_one (by kernel_rfl) rfl (okWide_bool_mk Try.underlying4 _))⟩

theorem g0 : Try.prog.funcNamed Rows.fnChainRowsRow.func = some 4 := by kernel_rfl
theorem g1 : Rows.fnChainRowsRow.inPlace = Try.prog.inPlace 4 := by kernel_rfl
theorem g2 : Rows.fnChainRowsRow.unfollowed = Try.prog.unfollowed 4 := by kernel_rfl
theorem g3 : Rows.fnChainRowsRow.recurses = Try.prog.recurses 4 := by kernel_rfl
theorem g4 : Rows.fnChainRowsRow.named = Try.prog.varsNamed 4 := by kernel_rfl
theorem g5 : Rows.fnChainRowsRow.wf (OpenSpec.ofChange Rows.fnChainRowsSpec) = true := by kernel_rfl
theorem g6 : (Try.f4.params.all (Try.prog.readableRec ·)) = true := by kernel_rfl
theorem g7 : Rows.fnChainRowsRow.veiledFits Try.prog Try.f4.params.toList (Try.f4.params.toList ++ Try.f4.resultTypes.toList) = true := by kernel_rfl
theorem g8 : joinedFacts Try.prog 4 Try.f4 Rows.fnChainRowsSpec Rows.fnChainRowsRow = true :=
  gen_facts _ _ _ _ rfl rfl cl_laid cl_maps cl_stops cl_knobs cl_heard cl_enter cl_lifts cl_make g5 g6 rfl rfl rfl g1 g2 g3 g4
    (by as_aux_lemma => kernel_rfl) (by as_aux_lemma => kernel_rfl) (by as_aux_lemma => kernel_rfl) (by as_aux_lemma => kernel_rfl) (by as_aux_lemma => kernel_rfl) (by as_aux_lemma => kernel_rfl) (by as_aux_lemma => kernel_rfl) (by as_aux_lemma => kernel_rfl)
    cl_keys.symm rfl rfl rfl rfl rfl (by as_aux_lemma => kernel_rfl) (by as_aux_lemma => kernel_rfl) g7
theorem g9 : Try.f4.isInstance Try.prog Rows.fnChainRowsRow.origin Rows.fnChainRowsRow.targs := of_decide_eq_true (by kernel_rfl)
theorem g10 : Try.f4.isWrapper Try.prog Rows.fnChainRowsRow.wrapper Rows.fnChainRowsRow.mainSum := by
  unfold Func.isWrapper; first | (rw [if_pos (by decide +kernel)]; kernel_rfl) | (rw [if_neg (by decide +kernel)]; exact ⟨rfl, rfl⟩)
theorem over : Rows.fnChainRowsRow.holds Try.pinned (OpenSpec.ofChange Rows.fnChainRowsSpec) :=
  OpenClaim.holds_of_wide 4 Try.f4 rfl rfl rfl rfl rfl rfl rfl ⟨rfl, rfl, rfl, rfl, rfl⟩ rfl rfl rfl rfl rfl g0 Try.func4 g8 g9 g10 (fun os started H enc _ => lifted os started H enc)
theorem proved : Rows.FnChainRowsSaid := over
end Go.Proofs.Ytlhepgdheopgaaa.lawChainRows
