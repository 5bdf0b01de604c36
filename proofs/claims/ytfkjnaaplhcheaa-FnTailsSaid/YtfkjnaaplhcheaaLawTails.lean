/-
  laws.FnTails answers yes, for every two inputs, and leaves its arguments as they were (printed by tails18.py). No condition.
-/
import Derived.Test.YtfkjnaaplhcheaaLu1
import Derived.Test.YtfkjnaaplhcheaaOpen
import Derived.Test.YtfkjnaaplhcheaaOut
import Derived.Deep.RegionHeld3
import Derived.Deep.DeepCutAuto
namespace Go.Proofs.Ytfkjnaaplhcheaa.lawTails
open Go.ChangeShapes Go.WideShapes Go.ChangeAt Go.RowKit Go.Joins Go.Proofs.Ytfkjnaaplhcheaa.Sb

theorem u8_bd' {n : Int} (h : (Lit.int .u8 n).wf = true) : 0 ≤ n ∧ n ≤ 255 := by
  simp [Lit.wf, IntKind.min, IntKind.max, IntKind.signed, IntKind.bits] at h
  omega
theorem open_bytes {H : Type} {enc : TypeId × Value → H} {W : World} {v : Value} {d : DataW H} {ps : List MemPlace} (h : DataW.Trod enc Try.prog W 0 (fun _ => true) true 22 v d ps)
    (hv : ∃ a len cap, v = .slice a len cap) : ∃ (A : Option Addr) (n c : Nat), v = .slice A n c ∧ n ≤ 9223372036854775807 ∧ BR W A n := by
  obtain ⟨fuel, hf⟩ := h
  obtain ⟨a, len, cap, rfl⟩ := hv
  obtain ⟨A, xs, c, he, hc, hm, hr, hok⟩ := open_row (v := .slice a len cap) (Value.int .u8) (fun n => (Lit.int .u8 n).wf = true) Try.underlying22 (show Try.prog.cellsOf 5 = 1 by kernel_rfl)
    (fun n cs y hy => by obtain ⟨z, hz, _, hw⟩ := DataW.trod_int Try.underlying5 hy; exact ⟨z, hz, hw⟩) (by simpa [Value.cells] using hf)
  refine ⟨A, xs.length, c, he, by unfold maxLen at hm; omega, fun i hi => ?_⟩
  obtain ⟨b, off, e, hb, hcl⟩ := hr (by rw [List.length_map]; omega)
  have hk := u8_bd' (hok xs[i] (List.getElem_mem hi))
  refine ⟨b, off, xs[i].toNat, e, hb, by omega, ?_⟩
  rw [hcl i (by rw [List.length_map]; exact hi), List.getElem_map]
  congr 2
  omega
set_option maxRecDepth 100000 in
set_option maxHeartbeats 3200000 in
theorem walk (A0 B0 : Option Addr) (n0 k c0 cd : Nat) (W : World) (hA : BR W A0 n0) (hB : BR W B0 k) :
    Calls Try.prog 3 #[.slice A0 n0 c0, .slice B0 k cd] W fun e w' => e = .returned (.bool true) ∧ Below W.heap.size W w' := by
  have HL := Lib.hid (r8Long_any A0 B0 n0 k c0 cd W)
  by_cases hlg : 48 < n0 ∨ 48 < k
  · have hb : (decide (48 < n0) || decide (48 < k)) = true := by simpa using hlg
    rw [hb] at HL
    clear hlg hb hA hB
    go_enter Try.func3, Try.ntmps3
    go_wp2_with (go_at_call 7; (with_reducible refine HL.out.mono ?_); rintro e w1 ⟨rfl, rfl⟩)
    go_ret
    exact ⟨rfl, Below.refl _ _⟩
  · have hb : (decide (48 < n0) || decide (48 < k)) = false := by simp; omega
    rw [hb] at HL
    have hk48 : k ≤ 48 := by omega
    have hn48 : n0 ≤ 48 := by omega
    have HK := Lib.hid hk48
    have HBW := Lib.hid hB
    have HA1 : Hid (Calls Try.prog 8 #[.slice B0 k cd, .int .i64 40, .int .i64 5] W (fun e w' => ∃ a n : Nat, IntKind.i64.wrap ((1 : Int) + (a : Int)) = (n : Int) ∧ (1 ≤ n ∧ n ≤ 5) ∧ e = .returned (.int .i64 a) ∧ W = w')) := Lib.hid ((r8At_any B0 k cd 40 5 W (by omega) (by omega) hB).mono fun e w' ⟨a, ha, he, hw⟩ => ⟨a, a + 1, by rw [show (1 : Int) + (a : Int) = ((a + 1 : Nat) : Int) by omega]; exact IntWalk.i64_in _ (by omega), by omega, he, hw⟩)
    have HA2 : Hid (Calls Try.prog 8 #[.slice B0 k cd, .int .i64 41, .int .i64 5] W (fun e w' => ∃ a n : Nat, IntKind.i64.wrap ((1 : Int) + (a : Int)) = (n : Int) ∧ (1 ≤ n ∧ n ≤ 5) ∧ e = .returned (.int .i64 a) ∧ W = w')) := Lib.hid ((r8At_any B0 k cd 41 5 W (by omega) (by omega) hB).mono fun e w' ⟨a, ha, he, hw⟩ => ⟨a, a + 1, by rw [show (1 : Int) + (a : Int) = ((a + 1 : Nat) : Int) by omega]; exact IntWalk.i64_in _ (by omega), by omega, he, hw⟩)
    have HS1 := Lib.hid fun (n : Nat) (hn : n ≤ 5) => R8Sample_any A0 n0 c0 n W (by omega) (by omega) hA
    have HS2 := Lib.hid fun (m : Nat) (hm : m ≤ 5) W' (hW : Below W.heap.size W W') => R8Sample_any B0 k cd m W' (by omega) (by omega) (hB.keep hW)
    clear hlg hb hA hB hk48 hn48
    go_enter Try.func3, Try.ntmps3
    generalize hcc : Code.seq (Code.region 15 _ _) _ = cc
    have HCC := Lib.hid hcc
    clear hcc
    go_upto_region 3 with (go_at_call 7; (with_reducible refine HL.out.mono ?_); rintro e w1 ⟨rfl, rfl⟩)
    clear HL
    go_upto_region 4 with (go_at_call 8; (with_reducible refine HA1.out.mono ?_); rintro e w1 ⟨a, n, hwn, hn, rfl, rfl⟩; have HN := Lib.hid hn; clear hn)
    go_upto_region 5 with (go_at_call 8; (with_reducible refine HA2.out.mono ?_); rintro e w1 ⟨b, m, hwm, hm, rfl, rfl⟩; have HM := Lib.hid hm; clear hm)
    clear hwn hwm HA1 HA2
    go_upto_region 6 with (go_at_call 9; (with_reducible refine (HS1.out _ HN.out.2).mono ?_); rintro e w1 ⟨xs, A, ca, lx, hxs, rfl, hox, hb⟩; have B1 := Lib.hid hb; have OX := Lib.hid hox; have LX := Lib.hid lx; have SX := Lib.hid hxs; clear hb hox lx hxs)
    clear HS1
    go_upto_region 7 with (go_at_call 9; (with_reducible refine (HS2.out _ HM.out.2 _ B1.out).mono ?_); rintro e w2 ⟨ys, B, cb, ly, hys, rfl, hoy, hb⟩; have B2 := Lib.hid hb; have OY := Lib.hid hoy; have LY := Lib.hid ly; have SY := Lib.hid hys; clear hb hoy ly hys)
    clear HS2
    have HSM : Hid (Sm W w2 A B xs ys n m) := Lib.hid ⟨below_next B1.out B2.out, (Rd.of_own OX.out).at_ B2.out, Rd.of_own OY.out, LX.out, LY.out, HN.out, HM.out, samp_of (by rw [LX.out]; exact HN.out.1) (by rw [LX.out]; have := HN.out; omega) SX.out, samp_of (by rw [LY.out]; exact HM.out.1) (by rw [LY.out]; have := HM.out; omega) SY.out⟩
    obtain ⟨p, q, r1, r2, T, R, hT, hT2, hp1, hq1, hpT, hqT, hpq, hrr, hRl, hRs, hRb, G1, G2, G3, G4, G5, G6⟩ := ranks_facts HSM.out ca cb
    have HG1 := Lib.hid G1
    have HG2 := Lib.hid G2
    have HG3 := Lib.hid G3
    have HG4 := Lib.hid G4
    have HG5 := Lib.hid G5
    have HTT := Lib.hid hT
    have hnm := And.intro HN.out HM.out
    have HRS : Hid (∀ A' c' W', Rd W' W'.heap.size A' (il R) → Calls Try.prog 14 #[.slice A' n c'] W' (fun e w' => e = .returned (.int .i64 ((n * (n + 1) : Nat) : Int)) ∧ W' = w')) := Lib.hid fun A' c' W' hr => by
      have := r8Sum_any A' R c' W' (by omega) hRb hr
      rw [hRs, hRl] at this
      exact this
    have hs30 : n * (n + 1) ≤ 30 := Nat.le_trans (Nat.mul_le_mul hnm.1.2 (show n + 1 ≤ 6 by omega)) (by decide)
    have hs110 : (n + m) * (n + m + 1) ≤ 110 := Nat.le_trans (Nat.mul_le_mul (show n + m ≤ 10 by omega) (show n + m + 1 ≤ 11 by omega)) (by decide)
    obtain ⟨n1, hn1⟩ : ∃ n1, n + 1 = n1 := ⟨_, rfl⟩
    obtain ⟨N, hN⟩ : ∃ N, n + m = N := ⟨_, rfl⟩
    obtain ⟨N1, hN1⟩ : ∃ N1, N + 1 = N1 := ⟨_, rfl⟩
    rw [hN, hN1] at hs110 hrr
    rw [hn1] at hs30 HRS
    rw [hN] at G6
    have HG6 := Lib.hid G6
    have hw1 : IntKind.i64.wrap ((n : Int) + 1) = (n1 : Int) := by rw [show (n : Int) + 1 = (n1 : Int) by omega]; exact IntWalk.i64_in _ (by omega)
    have hw2 : IntKind.i64.wrap ((n : Int) * (n1 : Int)) = ((n * n1 : Nat) : Int) := by rw [← Int.natCast_mul]; exact IntWalk.i64_in _ (by omega)
    have hw3 : IntKind.i64.wrap ((n : Int) + (m : Int)) = (N : Int) := by rw [show (n : Int) + (m : Int) = (N : Int) by omega]; exact IntWalk.i64_in _ (by omega)
    have hw4 : IntKind.i64.wrap ((N : Int) + 1) = (N1 : Int) := by rw [show (N : Int) + 1 = (N1 : Int) by omega]; exact IntWalk.i64_in _ (by omega)
    have hw5 : IntKind.i64.wrap ((N : Int) * (N1 : Int)) = ((N * N1 : Nat) : Int) := by rw [← Int.natCast_mul]; exact IntWalk.i64_in _ (by omega)
    generalize n * n1 = s at *
    generalize N * N1 = Z at *
    have hw6 : IntKind.i64.wrap ((r1 : Int) + (r2 : Int)) = (Z : Int) := by rw [← Int.natCast_add, hrr]; exact IntWalk.i64_in _ (by omega)
    have hw7 : IntKind.i64.wrap ((p : Int) + (q : Int)) = (p : Int) + (q : Int) := IntWalk.i64_in _ (by omega)
    have f1 : ¬ (p : Int) < 1 := by omega
    have f2 : ¬ (q : Int) < 1 := by omega
    have f3 : ¬ (T : Int) < (p : Int) := by omega
    have f4 : ¬ (T : Int) < (q : Int) := by omega
    have f5 : ¬ (p : Int) + (q : Int) ≤ (T : Int) := by omega
    have HBK := Lib.hid fun W' (hW : Below W.heap.size W W') => HBW.out.keep hW
    have KB := Lib.hid (below_next B1.out B2.out)
    clear G1 G2 G3 G4 G5 G6 hT hT2 hp1 hq1 hpT hqT hpq hrr hRl hRs hRb hnm hs30 hs110 hn1 hN hN1 HBW B1 B2 OX OY LX LY SX SY HN HM
    go_upto_region 8 with (go_at_call 10; (with_reducible refine (HG1.out _ (Below.refl _ _)).mono ?_); rintro e w3 ⟨AR, cR, rfl, ho, hb⟩; have K3 := Lib.hid hb; have RR := Lib.hid (Rd.of_own ho); clear hb ho)
    go_upto_region 9 with (go_at_call 11; (with_reducible refine (HG2.out _ K3.out).mono ?_); rintro e w4 ⟨rfl, hb⟩; have K4 := Lib.hid (hb); clear hb)
    go_upto_region 10 with (go_at_call 11; (with_reducible refine (HG3.out _ (below_next K3.out K4.out)).mono ?_); rintro e w5 ⟨rfl, hb⟩; have K5 := Lib.hid (below_next K4.out hb); clear hb)
    go_upto_region 11 with (go_at_call 12; (with_reducible refine (HG4.out _ (below_next K3.out K5.out)).mono ?_); rintro e w6 ⟨rfl, hb⟩; have K6 := Lib.hid (below_next K5.out hb); clear hb)
    go_upto_region 12 with (go_at_call 12; (with_reducible refine (HG5.out _ (below_next K3.out K6.out)).mono ?_); rintro e w7 ⟨rfl, hb⟩; have K7 := Lib.hid (below_next K6.out hb); clear hb)
    go_upto_region 13 with (go_at_call 13; (with_reducible refine (HG6.out _).mono ?_); rintro e w8 ⟨rfl, hb⟩; have K8 := Lib.hid (below_next K7.out hb); clear hb)
    have RR8 := Lib.hid (RR.out.at_ K8.out)
    have K9 := Lib.hid (below_next K3.out K8.out)
    clear HG1 HG2 HG3 HG4 HG5 HG6 RR K3 K4 K5 K6 K7 K8
    go_wp2_with (go_at_call 14; (with_reducible refine (HRS.out _ _ _ RR8.out).mono ?_); rintro e w9 ⟨rfl, rfl⟩)
    rw [← HCC.out, HTT.out]
    exact tails_sums A B W _ xs ys n m ca cb B0 k cd (HSM.out.go K9.out) (HBK.out _ (below_next KB.out K9.out)) HK.out
set_option maxRecDepth 100000 in
set_option maxHeartbeats 3200000 in
theorem lifted (os : Os) (started : os.Started) (H : Type) (enc : TypeId × Value → H) :
    ReturnsInHanded {} Try.checked os 3 .any (Rows.fnTailsSpec.pre6 enc Try.prog Try.f3 Rows.fnTailsRow.domain false) (Rows.fnTailsSpec.post enc Try.prog Try.f3 false true false false) := by
  refine returnsInHanded_of_change (C := Try.checked) own started (by kernel_rfl) Try.func3
    (ChangeSpec.witness6 (enc := enc) (C := Try.checked) false ⟨#[], #[.slice none 0 0, .slice none 0 0], []⟩ 8 (by kernel_rfl) (by kernel_rfl) (by kernel_rfl) (by kernel_rfl)) ?_
  intro W base args ds gs before hval0 hW hcnd _
  have hval : ∀ (j : Nat) t v, Try.f3.params[j]? = some t → args[j]? = some v → Value.okWide Try.prog W .any base t v := hval0
  have hW' := hW
  have hlt : ∀ p ∈ before, p.block < W.heap.size := fun p hp => hW.lt p hp
  obtain ⟨p, q, hA0, hV, rfl, hfz, hnd⟩ := hW
  have hA : DataW.TrodAll enc Try.prog W 0 (fun _ => true) true Try.f3.params.toList args.toList ds p := hA0
  rw [Try.params3] at hA hval
  have hA1 := hA
  obtain ⟨v0, vs0, d0, ds0, p0, q0, hargs, rfl, rfl, h0, r0⟩ := trodAll_cons hA
  obtain ⟨v1, vs1, d1, ds1, p1, q1, rfl, rfl, rfl, h1, r1⟩ := trodAll_cons r0
  obtain ⟨rfl, rfl, rfl⟩ := trodAll_nil r1
  obtain rfl : args = #[v0, v1] := by cases args; simp_all
  obtain ⟨rfl, rfl⟩ := trodVars_none hV
  obtain ⟨A0, n0, c0, rfl, -, hr0⟩ := open_bytes h0 (okWide_slice Try.underlying22 (hval 0 _ _ rfl rfl))
  obtain ⟨A1, n1, c1, rfl, -, hr1⟩ := open_bytes h1 (okWide_slice Try.underlying22 (hval 1 _ _ rfl rfl))
  clear hA0 hval0
  refine (walk A0 A1 n0 n1 c0 c1 W hr0 hr1).mono fun e W' ⟨he, hb⟩ => ?_
  subst he
  rw [List.append_nil] at hW' hlt
  exact ⟨_, rfl, post_of_below (pa := _) (pv := []) hW' (fun _ _ _ => (trodAll_cons_mk (shut_bool Try.underlying4 _) trodAll_mk0))
    (fun sp hsp => trodAll_below cl_laid hb _ _ _ _ (by kernel_rfl) hA1 hlt hsp) (fun _ _ => rfl) (List.append_nil _).symm hb (ok_one (by kernel_rfl) rfl (okWide_bool_mk Try.underlying4 _))⟩

theorem g0 : Try.prog.funcNamed Rows.fnTailsRow.func = some 3 := by kernel_rfl
theorem g1 : Rows.fnTailsRow.inPlace = Try.prog.inPlace 3 := by kernel_rfl
theorem g2 : Rows.fnTailsRow.unfollowed = Try.prog.unfollowed 3 := by kernel_rfl
theorem g3 : Rows.fnTailsRow.recurses = Try.prog.recurses 3 := by kernel_rfl
theorem g4 : Rows.fnTailsRow.named = Try.prog.varsNamed 3 := by kernel_rfl
theorem g5 : Rows.fnTailsRow.wf (OpenSpec.ofChange Rows.fnTailsSpec) = true := by kernel_rfl
theorem g6 : (Try.f3.params.all (Try.prog.readableRec ·)) = true := by kernel_rfl
theorem g7 : Rows.fnTailsRow.veiledFits Try.prog Try.f3.params.toList (Try.f3.params.toList ++ Try.f3.resultTypes.toList) = true := by kernel_rfl
theorem g8 : joinedFacts Try.prog 3 Try.f3 Rows.fnTailsSpec Rows.fnTailsRow = true :=
  gen_facts _ _ _ _ rfl rfl cl_laid cl_maps cl_stops cl_knobs cl_heard cl_enter cl_lifts cl_make g5 g6 rfl rfl rfl g1 g2 g3 g4
    (by as_aux_lemma => kernel_rfl) (by as_aux_lemma => kernel_rfl) (by as_aux_lemma => kernel_rfl) (by as_aux_lemma => kernel_rfl) (by as_aux_lemma => kernel_rfl) (by as_aux_lemma => kernel_rfl) (by as_aux_lemma => kernel_rfl) (by as_aux_lemma => kernel_rfl)
    cl_keys.symm rfl rfl rfl rfl rfl (by as_aux_lemma => kernel_rfl) (by as_aux_lemma => kernel_rfl) g7
theorem g9 : Try.f3.isInstance Try.prog Rows.fnTailsRow.origin Rows.fnTailsRow.targs := of_decide_eq_true (by kernel_rfl)
theorem g10 : Try.f3.isWrapper Try.prog Rows.fnTailsRow.wrapper Rows.fnTailsRow.mainSum := by
  unfold Func.isWrapper; first | (rw [if_pos (by decide +kernel)]; kernel_rfl) | (rw [if_neg (by decide +kernel)]; exact ⟨rfl, rfl⟩)
theorem over : Rows.fnTailsRow.holds Try.pinned (OpenSpec.ofChange Rows.fnTailsSpec) :=
  OpenClaim.holds_of_wide 3 Try.f3 rfl rfl rfl rfl rfl rfl rfl ⟨rfl, rfl, rfl, rfl, rfl⟩ rfl rfl rfl rfl rfl g0 Try.func3 g8 g9 g10 (fun os started H enc _ => lifted os started H enc)
theorem proved : Rows.FnTailsSaid := over
end Go.Proofs.Ytfkjnaaplhcheaa.lawTails
