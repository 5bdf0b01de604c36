/-
  laws.FnTimesTo answers yes, for every two inputs, and leaves its arguments as they were. No condition.
-/
import Derived.Test.YtlhepgdheopgaaaTm5
import Derived.Test.YtlhepgdheopgaaaClosed
import Derived.BigQuiet
import Derived.Deep.DeepCutAuto
namespace Go.Proofs.Ytlhepgdheopgaaa.lawTimesTo
open Go.ChangeShapes Go.WideShapes Go.ChangeAt Go.RowKit

set_option maxRecDepth 100000 in
set_option maxHeartbeats 1600000 in
theorem walk (A B : Option Addr) (n m ca cb : Nat) (W : World) (hA : BR W A n) (hB : BR W B m) :
    Calls Try.prog 5 #[.slice A n ca, .slice B m cb] W fun e w' => e = .returned (.bool true) ∧ Below W.heap.size W w' := by
  have HL := Lib.hid (b10Long_any A B n m ca cb W)
  by_cases hlg : 1048576 < n ∨ 1048576 < m
  · have hb : (decide (1048576 < n) || decide (1048576 < m)) = true := by simpa using hlg
    rw [hb] at HL
    clear hlg hb hA hB
    go_enter Try.func5, Try.ntmps5
    go_wp2_with (go_at_call 6; (with_reducible refine HL.out.mono ?_); rintro e w1 ⟨rfl, rfl⟩)
    go_ret
    exact ⟨rfl, Below.refl _ _⟩
  · have hb : (decide (1048576 < n) || decide (1048576 < m)) = false := by simp; omega
    rw [hb] at HL
    have HC := Lib.hid (B10Chain_any A n ca W (by omega) hA)
    have HBB : Hid (∀ i N : Int, 1 ≤ N ∧ N ≤ 1000 → 0 ≤ i ∧ i ≤ 1000 → ∃ v : Nat, (v : Int) < N ∧ ∀ w, Below W.heap.size W w → Calls Try.prog 26 #[.slice B m cb, .int .i64 i, .int .i64 N] w (Quiet (.int .i64 v) w)) := Lib.hid fun i N hN hi => b10At_val B m cb i N W hN hi hB
    clear hlg hb hA hB
    go_enter Try.func5, Try.ntmps5
    go_upto_region 3 with (go_at_call 6; (with_reducible refine HL.out.mono ?_); rintro e w1 ⟨rfl, rfl⟩)
    clear HL
    go_upto_region 4 with (go_at_call 7; (with_reducible refine HC.out.mono ?_); rintro e w1 ⟨k, q, A1, c1, hk2, hk5, hq, rfl, ho, hb⟩; have O1 := Lib.hid ho; have B1 := Lib.hid hb; have CH := Lib.hid (src_chn hk2 hk5 hq); have TH := Lib.hid (src_thick hk2 hk5 hq); clear ho hb hq)
    have X1 := Lib.hid (own_cap O1.out)
    generalize tab k (srcF q k) = xs at *
    have F2 : Hid (∀ w2, w2 = w1.alloc (.cells #[.int .i64 k, .slice A1 (k * k : Nat) c1] 26) → Below W.heap.size W w2 ∧ (w2.cell? ⟨w1.heap.size, 0, none⟩ = some (.int .i64 k) ∧ w2.cell? ⟨w1.heap.size, 1, none⟩ = some (.slice A1 (k * k : Nat) c1)) ∧ Rd w2 w2.heap.size A1 (fl xs)) := Lib.hid fun w2 h => by
      subst h
      exact ⟨below_al B1.out _, ⟨by simp [go_sem], by simp [go_sem]⟩, (Rd.of_own O1.out).at_ (below_al (Below.refl _ _) _)⟩
    have hF := F2.out _ rfl
    obtain ⟨t0, t1⟩ := hF.2.1
    have B2 := Lib.hid hF.1
    have R2 := Lib.hid hF.2.2
    clear F2 hF O1 B1 HC
    generalize World.alloc w1 _ = w2 at *
    generalize w1.heap.size = b5 at *
    obtain ⟨g, hg, hgc⟩ := HBB.out 0 k (by omega) (by omega)
    obtain ⟨v, hv, hvc⟩ := HBB.out 1 ((k : Int) - 1) (by omega) (by omega)
    have HB1 := Lib.hid (hgc w2 B2.out)
    have HB2 : Hid (∀ w, Below W.heap.size W w → Calls Try.prog 26 #[.slice B m cb, .int .i64 1, .int .i64 ((k : Int) - 1)] w (Quiet (.int .i64 v) w)) := Lib.hid hvc
    clear HBB hgc hvc
    have hg' : g < k := by omega
    have hv' : v + 1 < k := by omega
    go_upto_region 5 with (go_at_call 26; (with_reducible refine HB1.out.mono ?_); rintro e w3 ⟨rfl, r3, rfl⟩)
    have t0' : (w2.drewN r3).cell? ⟨b5, 0, none⟩ = some (.int .i64 k) := t0
    have t1' : (w2.drewN r3).cell? ⟨b5, 1, none⟩ = some (.slice A1 (k * k : Nat) c1) := t1
    have B3 := Lib.hid (below_dn B2.out r3)
    have R3 := Lib.hid (R2.out.at_ (below_dn (Below.refl _ _) r3))
    have HB3 : Hid (∀ r, Calls Try.prog 26 #[.slice B m cb, .int .i64 1, .int .i64 ((k : Int) - 1)] ((w2.drewN r3).drewN r) (Quiet (.int .i64 v) ((w2.drewN r3).drewN r))) := Lib.hid fun r => HB2.out _ (below_dn B3.out r)
    clear t0 t1 HB1 HB2 B2 R2 hg hv
    generalize w2.drewN r3 = w3 at *
    obtain ⟨o, ho⟩ : ∃ o, o = (g + 1 + v) % k := ⟨_, rfl⟩
    have hok : o < k := by rw [ho]; exact Nat.mod_lt _ (by omega)
    have hgo : g ≠ o := by
      intro e
      rw [← e] at ho
      have h1 := Nat.div_add_mod (g + 1 + v) k
      rw [← ho] at h1
      rcases Nat.eq_zero_or_pos ((g + 1 + v) / k) with h2 | h2
      · rw [h2, Nat.mul_zero] at h1; omega
      · have := Nat.mul_le_mul_left k h2; omega
    have hrem : ((g : Int) + 1 + (v : Int)) % (k : Int) = (o : Int) := by
      rw [show (g : Int) + 1 + (v : Int) = ((g + 1 + v : Nat) : Int) by omega, ho, Int.natCast_emod]
    have HREM := Lib.hid hrem
    clear hrem ho
    go_quiet ((go_at_call 26; first | with_reducible exact quiet_one (HB3.out _) | with_reducible exact quiet_add (HB3.out _)))
    rw [HREM.out]
    have t0 : (w3.drewN nq).cell? ⟨b5, 0, none⟩ = some (.int .i64 k) := t0'
    have t1 : (w3.drewN nq).cell? ⟨b5, 1, none⟩ = some (.slice A1 (k * k : Nat) c1) := t1'
    have B4 := Lib.hid (below_dn B3.out nq)
    have R4 := Lib.hid (R3.out.at_ (below_dn (Below.refl _ _) nq))
    clear t0' t1' HB3 B3 R3 HREM hv'
    generalize w3.drewN nq = w4 at *
    generalize (g : Int) + 1 + (v : Int) = gv at *
    obtain ⟨T, hT, hTR⟩ := times_r CH.out TH.out hk2 hk5 hg'
    obtain ⟨Q, hQ, hQR⟩ := chances_r CH.out TH.out hk2 hk5 hg' hok hgo
    obtain ⟨P, hP, hPR⟩ := chances_r CH.out TH.out hk2 hk5 hok hg' (fun h => hgo h.symm)
    have TR := Lib.hid hTR
    have QR := Lib.hid hQR
    have PR := Lib.hid hPR
    have HT := Lib.hid (TimesTo_at (W := w4) CH.out hg' hT hTR.len X1.out.1 X1.out.2 R4.out)
    have HQ : Hid (∀ W', Below w4.heap.size w4 W' → Calls Try.prog 29 #[.agg #[.int .i64 k, .slice A1 (k * k : Nat) c1], .int .i64 g, .int .i64 o] W' (FlGive k Q W')) := Lib.hid fun W' hW => ChancesTo_at CH.out hg' hok hgo hQ hQR.len X1.out.1 X1.out.2 (R4.out.at_ hW)
    have HP : Hid (∀ W', Below w4.heap.size w4 W' → Calls Try.prog 29 #[.agg #[.int .i64 k, .slice A1 (k * k : Nat) c1], .int .i64 o, .int .i64 g] W' (FlGive k P W')) := Lib.hid fun W' hW => ChancesTo_at CH.out hok hg' (fun h => hgo h.symm) hP hPR.len X1.out.1 X1.out.2 (R4.out.at_ hW)
    clear hT hQ hP hTR hQR hPR
    go_upto_region 7 with (go_at_call 28; (with_reducible refine HT.out.mono ?_); rintro e w5 ⟨A8, c8, rfl, ho, hb⟩; have s0 := keepC hb t0; have s1 := keepC hb t1; have E5 := Lib.hid hb; have T5 := Lib.hid (Rd.of_own ho); clear ho hb; clear t0 t1)
    clear HT
    go_upto_region 8 with (go_at_call 29; (with_reducible refine (HQ.out _ E5.out).mono ?_); rintro e w6 ⟨A10, c10, rfl, ho, hb⟩; have t0 := keepC hb s0; have t1 := keepC hb s1; have E6 := Lib.hid (below_next E5.out hb); have T6 := Lib.hid (T5.out.at_ hb); have Q6 := Lib.hid (Rd.of_own ho); clear ho hb; clear s0 s1)
    clear HQ E5 T5
    go_upto_region 9 with (go_at_call 29; (with_reducible refine (HP.out _ E6.out).mono ?_); rintro e w7 ⟨A12, c12, rfl, ho, hb⟩; have s0 := keepC hb t0; have s1 := keepC hb t1; have E7 := Lib.hid (below_next E6.out hb); have T7 := Lib.hid (T6.out.at_ hb); have Q7 := Lib.hid (Q6.out.at_ hb); have P7 := Lib.hid (Rd.of_own ho); clear ho hb; clear t0 t1)
    clear HP E6 T6 Q6
    have B7 := Lib.hid (below_next B4.out E7.out)
    have R7 := Lib.hid (R4.out.at_ E7.out)
    clear B4 R4 E7
    have hkk : 1 ≤ k * k := Nat.mul_le_mul (show 1 ≤ k by omega) (show 1 ≤ k by omega)
    have hkt : k * k ≤ 25 := Nat.mul_le_mul hk5 hk5
    have lT : (fl T).length = k := by rw [fl_len]; exact TR.out.len
    have lQ : (fl Q).length = k := by rw [fl_len]; exact QR.out.len
    have lP : (fl P).length = k := by rw [fl_len]; exact PR.out.len
    have lR : (fl xs).length = k * k := by rw [fl_len]; exact CH.out.len
    obtain ⟨bT, oT, rfl, -, hcT⟩ := T7.out (by omega)
    obtain ⟨bQ, oQ, rfl, -, hcQ⟩ := Q7.out (by omega)
    obtain ⟨bP, oP, rfl, -, hcP⟩ := P7.out (by omega)
    obtain ⟨bR, oR, rfl, -, hcR⟩ := R7.out (by omega)
    have CT : Hid (∀ i, i < k → w7.cell? ⟨bT, oT + i, none⟩ = some (.float .f32 (rowOf T i))) := Lib.hid fun i hi => rowOf_cell (by rw [TR.out.len]; exact hi) hcT
    have CQ : Hid (∀ i, i < k → w7.cell? ⟨bQ, oQ + i, none⟩ = some (.float .f32 (rowOf Q i))) := Lib.hid fun i hi => rowOf_cell (by rw [QR.out.len]; exact hi) hcQ
    have CP : Hid (∀ i, i < k → w7.cell? ⟨bP, oP + i, none⟩ = some (.float .f32 (rowOf P i))) := Lib.hid fun i hi => rowOf_cell (by rw [PR.out.len]; exact hi) hcP
    have CR : Hid (∀ i j, i < k → j < k → w7.cell? ⟨bR, oR + (i * k + j), none⟩ = some (.float .f32 (stepOf xs k i j))) := Lib.hid fun i j hi hj => stepOf_cell CH.out.len hi hj hcR
    have x1 := CT.out g hg'
    have x2 := CQ.out g hg'
    have x3 := CQ.out o hok
    rw [TR.out.goal] at x1
    rw [QR.out.goal] at x2
    rw [QR.out.other] at x3
    have o0 : (FloatKind.f32.format.order 0 0 == some .eq) = true := by decide +kernel
    have o1 : (FloatKind.f32.format.order oneF 1065353216 == some .eq) = true := by decide +kernel
    have ho1 : oneF = 1065353216 := rfl
    rw [ho1] at x2 o1
    clear hcT hcQ hcP hcR lT lQ lP lR T7 Q7 P7 R7 ho1
    go_wp2_with fail
    clear x1 x2 x3 o0 o1
    go_loopw [14] (fun t wr => ∃ i r : Nat, i ≤ k ∧ t = .int .i64 i ∧ wr = w7.drewN r) (fun t _ => k - (intOf t).toNat)
    case atStart => exact ⟨0, 0, Nat.zero_le _, rfl, rfl⟩
    case round =>
      obtain ⟨i, r, hi, rfl, rfl⟩ := hrel
      by_cases hlt : i < k
      · have y0 : (w7.drewN r).cell? ⟨b5, 0, none⟩ = some (.int .i64 k) := s0
        have y1 : (w7.drewN r).cell? ⟨b5, 1, none⟩ = some (.slice (some ⟨bR, oR, none⟩) (k * k : Nat) c1) := s1
        have HR : Hid (∀ j, j < k → i * k + j < k * k ∧ w7.cell? ⟨bR, oR + (i * k + j), none⟩ = some (.float .f32 (stepOf xs k i j)) ∧ w7.cell? ⟨bT, oT + j, none⟩ = some (.float .f32 (rowOf T j)) ∧ w7.cell? ⟨bQ, oQ + j, none⟩ = some (.float .f32 (rowOf Q j)) ∧
            ((∀ w, (convert 31 37 (.float .f32 (stepOf xs k i j))).run Try.prog w = .ok (.float .f64 (wd (stepOf xs k i j))) w) ∧ ∀ w, (convert 31 37 (.float .f32 (rowOf T j))).run Try.prog w = .ok (.float .f64 (wd (rowOf T j))) w) ∧ (∀ w, (convert 31 37 (.float .f32 (rowOf Q j))).run Try.prog w = .ok (.float .f64 (wd (rowOf Q j))) w) ∧
            (floatBits .mul .f64 (wd (stepOf xs k i j)) (wd (rowOf T j)) = some (gmul Ieee.double (wd (stepOf xs k i j)) (wd (rowOf T j))) ∧ floatBits .add .f64 (accD (stepOf xs k i) (rowOf T) j) (gmul Ieee.double (wd (stepOf xs k i j)) (wd (rowOf T j))) = some (accD (stepOf xs k i) (rowOf T) (j + 1))) ∧
            (floatBits .mul .f64 (wd (stepOf xs k i j)) (wd (rowOf Q j)) = some (gmul Ieee.double (wd (stepOf xs k i j)) (wd (rowOf Q j))) ∧ floatBits .add .f64 (accD (stepOf xs k i) (rowOf Q) j) (gmul Ieee.double (wd (stepOf xs k i j)) (wd (rowOf Q j))) = some (accD (stepOf xs k i) (rowOf Q) (j + 1)))) := Lib.hid fun j hj => by
          obtain ⟨a1, a2, a3⟩ := round_times CH.out TR.out.fin hk5 hlt hj
          obtain ⟨b1, b2, b3⟩ := round_times CH.out (T := Q) (fun i hi => ⟨(QR.out.fin i hi).1, Nat.le_trans (QR.out.fin i hi).2 (Nat.mul_le_mul_right _ (by decide))⟩) hk5 hlt hj
          exact ⟨idx_lt hlt hj, CR.out i j hlt hj, CT.out j hj, CQ.out j hj, a1, b1.2, ⟨a2, a3⟩, b2, b3⟩
        have wq : IntKind.i64.wrap ((i : Int) * (k : Int)) = ((i * k : Nat) : Int) := by
          have : i * k ≤ 5 * 5 := Nat.mul_le_mul (by omega) hk5
          rw [show (i : Int) * (k : Int) = ((i * k : Nat) : Int) by push_cast; rfl]
          exact IntWalk.i64_in _ (by omega)
        have HA1 : Hid (∀ j, j ≤ k → accD (stepOf xs k i) (rowOf T) j = (fun j => accD (stepOf xs k i) (rowOf T) j) j) := Lib.hid fun _ _ => rfl
        have hik : i * k ≤ 25 := Nat.mul_le_mul (show i ≤ 5 by omega) hk5
        generalize hac : accD (stepOf xs k i) (rowOf T) = acT at *
        generalize hcc : accD (stepOf xs k i) (rowOf Q) = acQ at *
        have HAC := Lib.hid hac
        have HCC := Lib.hid hcc
        have z0 : acT 0 = 0 := by rw [← hac]; rfl
        have z1 : acQ 0 = 0 := by rw [← hcc]; rfl
        have HZ0 := Lib.hid z0
        have HZ1 := Lib.hid z1
        clear hac hcc z0 z1 HA1
        generalize hikk : i * k = ik at *
        generalize hkkk : k * k = kk at *
        have HIK := Lib.hid hikk
        have HKK := Lib.hid hkkk
        clear hikk hkkk
        go_wp2_with fail
        go_loopw [15, 16, 17] (fun a c t wr => ∃ j s : Nat, j ≤ k ∧ t = .int .i64 j ∧ a = .float .f64 (acT j) ∧ c = .float .f64 (acQ j) ∧ wr = w7.drewN s) (fun _ _ t _ => k - (intOf t).toNat)
        case atStart => exact ⟨0, r, Nat.zero_le _, rfl, by rw [HZ0.out], by rw [HZ1.out], rfl⟩
        case round =>
          obtain ⟨j, s, hj, rfl, rfl, rfl, rfl⟩ := hrel
          by_cases hjt : j < k
          · obtain ⟨hb, xa, xb, xc, ⟨v1, v2⟩, v3, ⟨m1, m2⟩, m3, m4⟩ := HR.out j hjt
            have e1 := fun w => run_float_arith (P := Try.prog) w .mul 37 .f64 _ _ _ m1
            have e2 := fun w => run_float_arith (P := Try.prog) w .add 37 .f64 _ _ _ m2
            have e3 := fun w => run_float_arith (P := Try.prog) w .mul 37 .f64 _ _ _ m3
            have e4 := fun w => run_float_arith (P := Try.prog) w .add 37 .f64 _ _ _ m4
            have wj : IntKind.i64.wrap ((ik : Int) + (j : Int)) = ((ik + j : Nat) : Int) := by rw [show (ik : Int) + (j : Int) = ((ik + j : Nat) : Int) by push_cast; rfl]; exact IntWalk.i64_in _ (by omega)
            have z0 : (w7.drewN s).cell? ⟨b5, 0, none⟩ = some (.int .i64 k) := s0
            have z1 : (w7.drewN s).cell? ⟨b5, 1, none⟩ = some (.slice (some ⟨bR, oR, none⟩) kk c1) := s1
            clear m1 m2 m3 m4 y0 y1
            generalize stepOf xs k i j = st at *
            generalize rowOf T j = tj at *
            generalize rowOf Q j = qj at *
            generalize gmul Ieee.double (wd st) (wd tj) = g1 at *
            generalize gmul Ieee.double (wd st) (wd qj) = g2 at *
            generalize wd st = d1 at *
            generalize wd tj = d2 at *
            generalize wd qj = d3 at *
            go_wp2_with fail
            go_quiet (fail)
            go_wp2_with fail
            go_quiet (fail)
            go_wp2_with fail
            go_roundw
            case rel => exact ⟨j + 1, _, by omega, by go_num, rfl, rfl, rfl⟩
            case measure => simp [intOf]; omega
          · obtain rfl : k = j := by omega
            have x1 := CT.out i hlt
            have x2 := CQ.out i hlt
            have x3 := CP.out i hlt
            have hTt : 24 * uE ≤ uT := by decide
            have v1 := fun w => wd_run_s (TR.out.fin i hlt).1 (Nat.le_trans (TR.out.fin i hlt).2 hTt) w
            have v2 := fun w => wd_run_s (QR.out.fin i hlt).1 (Nat.le_trans (QR.out.fin i hlt).2 (Nat.le_trans (Nat.mul_le_mul_right _ (by decide)) hTt)) w
            have v3 := fun w => wd_run_s (PR.out.fin i hlt).1 (Nat.le_trans (PR.out.fin i hlt).2 (Nat.le_trans (Nat.mul_le_mul_right _ (by decide)) hTt)) w
            obtain ⟨⟨f1, f2⟩, n1, n2, z, n3, f3, n4⟩ := chances_rng CH.out TH.out hk5 hg' hok hgo QR.out PR.out hlt
            have m1 : (FloatKind.f64.format.order (wd (rowOf Q i)) 13785626545772145148 == some .lt) = false := n1
            have m2 : (FloatKind.f64.format.order (wd (rowOf Q i)) 4607186922399644778 == some .gt) = false := n2
            have m4 : (FloatKind.f64.format.order (gapD z 4607182418800017408) 4576918229304087675 == some .gt) = false := n4
            have f4 : isFin Ieee.double 4607182418800017408 = true := lits.2.2.2.2.1
            have e3 := fun w => run_float_arith (P := Try.prog) w .add 37 .f64 _ _ _ n3
            have TG : Hid (i ≠ g → ∃ s b, floatBits .add .f64 4607182418800017408 (acT k) = some s ∧ floatBits .mul .f64 4576918229304087675 s = some b ∧ isFin Ieee.double (wd (rowOf T i)) = true ∧ isFin Ieee.double s = true ∧ (FloatKind.f64.format.order (gapD (wd (rowOf T i)) s) b == some .gt) = false) := Lib.hid fun h => by
              have := times_gap CH.out hk5 TR.out hlt h
              rw [HAC.out] at this
              exact this
            have QG : Hid (i ≠ g → i ≠ o → isFin Ieee.double (acQ k) = true ∧ (FloatKind.f64.format.order (gapD (wd (rowOf Q i)) (acQ k)) 4576918229304087675 == some .gt) = false) := Lib.hid fun h h' => by
              have := chances_gap CH.out hk5 QR.out hlt h h'
              rw [HCC.out] at this
              exact this
            have y0 : (w7.drewN s).cell? ⟨b5, 0, none⟩ = some (.int .i64 k) := s0
            clear n1 n2 n3 n4 hTt HR HZ0 HZ1 HIK HKK HAC HCC y1 wq
            generalize rowOf T i = tT at *
            generalize rowOf Q i = tQ at *
            generalize rowOf P i = tP at *
            generalize acT k = aT at *
            generalize acQ k = aQ at *
            by_cases hig : i = g
            · have hI : (i : Int) = (g : Int) := by omega
              clear TG QG
              subst hig
              generalize wd tQ = dQ at *
              generalize wd tP = dP at *
              go_wp2_with fail
              go_quiet ((go_at_call 13; first | exact quiet_one (b10Gap_s _ _ _ (by assumption) (by assumption)) | exact quiet_add (b10Gap_s _ _ _ (by assumption) (by assumption))))
              go_wp2_with fail
              exact ⟨⟨i + 1, _, by omega, by go_num, rfl⟩, by simp [intOf]; omega⟩
            · have hI : ¬ (i : Int) = (g : Int) := by omega
              obtain ⟨ss, bb, p1, p2, f5, f6, p3⟩ := TG.out hig
              have e1 := fun w => run_float_arith (P := Try.prog) w .add 37 .f64 _ _ _ p1
              have e2 := fun w => run_float_arith (P := Try.prog) w .mul 37 .f64 _ _ _ p2
              clear p1 p2 TG
              by_cases hio : i = o
              · have hO : (i : Int) = (o : Int) := by omega
                clear QG
                subst hio
                generalize wd tQ = dQ at *
                generalize wd tP = dP at *
                generalize wd tT = dT at *
                go_wp2_with (go_at_call 13; refine (b10Gap_s _ _ _ (by assumption) (by assumption)).mono ?_; rintro e w9 ⟨rfl, r9, rfl⟩)
                go_quiet ((go_at_call 13; first | exact quiet_one (b10Gap_s _ _ _ (by assumption) (by assumption)) | exact quiet_add (b10Gap_s _ _ _ (by assumption) (by assumption))))
                go_wp2_with fail
                exact ⟨⟨i + 1, _, by omega, by go_num, rfl⟩, by simp [intOf]; omega⟩
              · have hO : ¬ (i : Int) = (o : Int) := by omega
                obtain ⟨f7, p4⟩ := QG.out hig hio
                clear QG
                generalize wd tQ = dQ at *
                generalize wd tP = dP at *
                generalize wd tT = dT at *
                go_wp2_with (go_at_call 13; refine (b10Gap_s _ _ _ (by assumption) (by assumption)).mono ?_; rintro e w9 ⟨rfl, r9, rfl⟩)
                go_quiet ((go_at_call 13; first | exact quiet_one (b10Gap_s _ _ _ (by assumption) (by assumption)) | exact quiet_add (b10Gap_s _ _ _ (by assumption) (by assumption))))
                go_wp2_with fail
                exact ⟨⟨i + 1, _, by omega, by go_num, rfl⟩, by simp [intOf]; omega⟩
      · go_wp2_with fail
        go_ret
        exact ⟨rfl, below_dn B7.out r⟩

set_option maxRecDepth 100000 in
set_option maxHeartbeats 3200000 in
theorem lifted (os : Os) (started : os.Started) (H : Type) (enc : TypeId × Value → H) :
    ReturnsInHanded {} Try.checked os 5 .any (Rows.fnTimesToSpec.pre6 enc Try.prog Try.f5 Rows.fnTimesToRow.domain false) (Rows.fnTimesToSpec.post enc Try.prog Try.f5 false true false false) := by
  refine returnsInHanded_of_change (C := Try.checked) own started (by kernel_rfl) Try.func5
    (ChangeSpec.witness6 (enc := enc) (C := Try.checked) false ⟨#[], #[.slice none 0 0, .slice none 0 0], []⟩ 8 (by kernel_rfl) (by kernel_rfl) (by kernel_rfl) (by kernel_rfl)) ?_
  intro W base args ds gs before hval0 hW hcnd _
  have hval : ∀ (j : Nat) t v, Try.f5.params[j]? = some t → args[j]? = some v → Value.okWide Try.prog W .any base t v := hval0
  have hW' := hW
  have hlt : ∀ p ∈ before, p.block < W.heap.size := fun p hp => hW.lt p hp
  obtain ⟨p, q, hA0, hV, rfl, hfz, hnd⟩ := hW
  have hA : DataW.TrodAll enc Try.prog W 0 (fun _ => true) true Try.f5.params.toList args.toList ds p := hA0
  rw [Try.params5] at hA hval
  have hA1 := hA
  obtain ⟨v0, vs0, d0, ds0, p0, q0, hargs, rfl, rfl, h0, r0⟩ := trodAll_cons hA
  obtain ⟨v1, vs1, d1, ds1, p1, q1, rfl, rfl, rfl, h1, r1⟩ := trodAll_cons r0
  obtain ⟨rfl, rfl, rfl⟩ := trodAll_nil r1
  obtain rfl : args = #[v0, v1] := by cases args; simp_all
  obtain ⟨rfl, rfl⟩ := trodVars_none hV
  obtain ⟨A0, n0, c0, rfl, -, hr0⟩ := open_bytes h0 (okWide_slice Try.underlying22 (hval 0 _ _ rfl rfl))
  obtain ⟨A1, n1, c1, rfl, -, hr1⟩ := open_bytes h1 (okWide_slice Try.underlying22 (hval 1 _ _ rfl rfl))
  clear hA0 hval0
  refine (walk A0 A1 n0 n1 c0 c1 W hr0 hr1).mono fun e W' ⟨he, hb⟩ => ?_
  subst he
  rw [List.append_nil] at hW' hlt
  exact ⟨_, rfl, post_of_below (pa := _) (pv := []) hW' (fun _ _ _ => (trodAll_cons_mk (shut_bool Try.underlying4 _) trodAll_mk0))
    (fun sp hsp => trodAll_below cl_laid hb _ _ _ _ (by kernel_rfl) hA1 hlt hsp) (fun _ _ => rfl) (List.append_nil _).symm hb (ok_one (by kernel_rfl) rfl (okWide_bool_mk Try.underlying4 _))⟩

theorem g0 : Try.prog.funcNamed Rows.fnTimesToRow.func = some 5 := by kernel_rfl
theorem g1 : Rows.fnTimesToRow.inPlace = Try.prog.inPlace 5 := by kernel_rfl
theorem g2 : Rows.fnTimesToRow.unfollowed = Try.prog.unfollowed 5 := by kernel_rfl
theorem g3 : Rows.fnTimesToRow.recurses = Try.prog.recurses 5 := by kernel_rfl
theorem g4 : Rows.fnTimesToRow.named = Try.prog.varsNamed 5 := by kernel_rfl
theorem g5 : Rows.fnTimesToRow.wf (OpenSpec.ofChange Rows.fnTimesToSpec) = true := by kernel_rfl
theorem g6 : (Try.f5.params.all (Try.prog.readableRec ·)) = true := by kernel_rfl
theorem g7 : Rows.fnTimesToRow.veiledFits Try.prog Try.f5.params.toList (Try.f5.params.toList ++ Try.f5.resultTypes.toList) = true := by kernel_rfl
theorem g8 : joinedFacts Try.prog 5 Try.f5 Rows.fnTimesToSpec Rows.fnTimesToRow = true :=
  gen_facts _ _ _ _ rfl rfl cl_laid cl_maps cl_stops cl_knobs cl_heard cl_enter cl_lifts cl_make g5 g6 rfl rfl rfl g1 g2 g3 g4
    (by as_aux_lemma => kernel_rfl) (by as_aux_lemma => kernel_rfl) (by as_aux_lemma => kernel_rfl) (by as_aux_lemma => kernel_rfl) (by as_aux_lemma => kernel_rfl) (by as_aux_lemma => kernel_rfl) (by as_aux_lemma => kernel_rfl) (by as_aux_lemma => kernel_rfl)
    cl_keys.symm rfl rfl rfl rfl rfl (by as_aux_lemma => kernel_rfl) (by as_aux_lemma => kernel_rfl) g7
theorem g9 : Try.f5.isInstance Try.prog Rows.fnTimesToRow.origin Rows.fnTimesToRow.targs := of_decide_eq_true (by kernel_rfl)
theorem g10 : Try.f5.isWrapper Try.prog Rows.fnTimesToRow.wrapper Rows.fnTimesToRow.mainSum := by
  unfold Func.isWrapper; first | (rw [if_pos (by decide +kernel)]; kernel_rfl) | (rw [if_neg (by decide +kernel)]; exact ⟨rfl, rfl⟩)
theorem over : Rows.fnTimesToRow.holds Try.pinned (OpenSpec.ofChange Rows.fnTimesToSpec) :=
  OpenClaim.holds_of_wide 5 Try.f5 rfl rfl rfl rfl rfl rfl rfl ⟨rfl, rfl, rfl, rfl, rfl⟩ rfl rfl rfl rfl rfl g0 Try.func5 g8 g9 g10 (fun os started H enc _ => lifted os started H enc)
theorem proved : Rows.FnTimesToSaid := over
end Go.Proofs.Ytlhepgdheopgaaa.lawTimesTo
