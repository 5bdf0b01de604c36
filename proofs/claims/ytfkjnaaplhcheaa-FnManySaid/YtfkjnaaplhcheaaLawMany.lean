/-
  laws.FnMany answers yes, for every two inputs, and leaves its arguments as they were (printed by many18.py). No condition.
-/
import Derived.Test.YtfkjnaaplhcheaaLwA
import Derived.Test.YtfkjnaaplhcheaaHt
import Derived.Test.YtfkjnaaplhcheaaHw
import Derived.Test.YtfkjnaaplhcheaaNo
import Derived.Test.YtfkjnaaplhcheaaMono
import Derived.Deep.RegionHeld3
import Derived.Deep.DeepCutAuto
namespace Go.Proofs.Ytfkjnaaplhcheaa.lawMany
open Go.ChangeShapes Go.WideShapes Go.ChangeAt Go.RowKit Go.Joins Go.Sort Ieee

theorem u8_bd' {n : Int} (h : (Lit.int .u8 n).wf = true) : 0 ≤ n ∧ n ≤ 255 := by
  simp [Lit.wf, IntKind.min, IntKind.max, IntKind.signed, IntKind.bits] at h
  omega
theorem open_bytes {H : Type} {enc : TypeId × Value → H} {W : World} {v : Value} {d : DataW H} {ps : List MemPlace} (h : DataW.Trod enc Try.prog W 0 (fun _ => true) true 22 v d ps)
    (hv : ∃ a len cap, v = .slice a len cap) : ∃ (A : Option Addr) (n c : Nat), v = .slice A n c ∧ n ≤ 9223372036854775807 ∧ BR W A n := by
  obtain ⟨fuel, hf⟩ := h
  obtain ⟨a, len, cap, rfl⟩ := hv
  obtain ⟨A, xs, c, he, hc, hm, hr, hok⟩ := open_row (v := .slice a len cap) (Value.int .u8) (fun n => (Lit.int .u8 n).wf = true) Try.underlying22 (show Try.prog.cellsOf 5 = 1 by kernel_rfl)
    (fun n cs y hy => by obtain ⟨z, hz, _, hw⟩ := DataW.trod_int Try.underlying5 hy; exact ⟨z, hz, hw⟩) (by simpa [Value.cells] using hf)
  refine ⟨A, xs.length, c, he, by unfold maxLen at hm; omega, fun i hi => ?_⟩
  obtain ⟨b, off, e, hb, hcl⟩ := hr (by rw [List.length_map]; omega)
  have hk := u8_bd' (hok xs[i] (List.getElem_mem hi))
  refine ⟨b, off, xs[i].toNat, e, hb, by omega, ?_⟩
  rw [hcl i (by rw [List.length_map]; exact hi), List.getElem_map]
  congr 2
  omega
theorem shares_ok {ks : List Nat} (hk : ∀ k ∈ ks, k < 65) (h1 : 1 ≤ ks.length) (h10 : ks.length ≤ 10) : sharesB (ks.map shN) = true := by
  unfold sharesB
  rw [Bool.and_eq_true, Bool.and_eq_true, List.length_map]
  refine ⟨⟨decide_eq_true h1, decide_eq_true (by omega)⟩, List.all_eq_true.2 fun x hx => ?_⟩
  obtain ⟨q, hq, rfl⟩ := List.mem_map.1 hx
  exact (shN_few q (hk q hq)).2
theorem plain_call {ks : List Nat} (hk : ∀ k ∈ ks, k < 65) (h1 : 1 ≤ ks.length) (h10 : ks.length ≤ 10) (A : Option Addr) (c : Nat) (W : World) (h : Rd W W.heap.size A (fl (ks.map shN))) :
    Calls Try.prog 24 #[.slice A ks.length c] W (fun e w' => ∃ (A' : Option Addr) (c' : Nat), e = .returned (.tuple #[.slice A' ks.length c', .bool true]) ∧ Rd w' w'.heap.size A' (fl (plainL (ks.map shN))) ∧ Below W.heap.size W w') := by
  have hp := PlainMany_ok A (ks.map shN) c W h (shares_ok hk h1 h10)
  have hl : (plainL (ks.map shN)).length = ks.length := by simp [plainL]
  rw [List.length_map] at hp
  refine hp.mono fun e w' ⟨A', c', he, ho, hb⟩ => ⟨A', c', by rw [he, hl], Rd.of_own ho, hb⟩
theorem holm_call {ks : List Nat} (hk : ∀ k ∈ ks, k < 65) (h1 : 1 ≤ ks.length) (h10 : ks.length ≤ 10) (A : Option Addr) (c : Nat) (W : World) (h : Rd W W.heap.size A (fl (ks.map shN))) :
    Calls Try.prog 25 #[.slice A ks.length c] W (fun e w' => ∃ (d : Array Nat) (A' : Option Addr) (c' : Nat), OrdTo (keyI (ks.map shN)) ks.length d ∧ e = .returned (.tuple #[.slice A' ks.length c', .bool true]) ∧ Rd w' w'.heap.size A' (fl (holmL (ks.map shN) d)) ∧ Below W.heap.size W w') := by
  have hp := HolmMany_ok A (ks.map shN) c W h (shares_ok hk h1 h10)
  rw [List.length_map] at hp
  refine hp.mono fun e w' ⟨d, hd, A', c', he, ho, hb⟩ => ⟨d, A', c', hd, ?_, Rd.of_own ho, hb⟩
  rw [he, show (holmL (ks.map shN) d).length = ks.length by unfold holmL; rw [outL_len, List.length_map]]
theorem step_call {ks : List Nat} (hk : ∀ k ∈ ks, k < 65) (h1 : 1 ≤ ks.length) (h10 : ks.length ≤ 10) (A : Option Addr) (c : Nat) (W : World) (h : Rd W W.heap.size A (fl (ks.map shN))) :
    Calls Try.prog 26 #[.slice A ks.length c] W (fun e w' => ∃ (d : Array Nat) (A' : Option Addr) (c' : Nat), OrdTo (keyI (ks.map shN)) ks.length d ∧ e = .returned (.tuple #[.slice A' ks.length c', .bool true]) ∧ Rd w' w'.heap.size A' (fl (stepL (ks.map shN) d)) ∧ Below W.heap.size W w') := by
  have hp := StepMany_ok A (ks.map shN) c W h (shares_ok hk h1 h10)
  rw [List.length_map] at hp
  refine hp.mono fun e w' ⟨d, hd, A', c', he, ho, hb⟩ => ⟨d, A', c', hd, ?_, Rd.of_own ho, hb⟩
  rw [he, show (stepL (ks.map shN) d).length = ks.length by unfold stepL; rw [outFL_len, List.length_map]]
set_option maxRecDepth 100000 in
set_option maxHeartbeats 3200000 in
theorem walk (A0 B0 : Option Addr) (n0 k c0 cd : Nat) (W : World) (hA : BR W A0 n0) (hB : BR W B0 k) :
    Calls Try.prog 4 #[.slice A0 n0 c0, .slice B0 k cd] W fun e w' => e = .returned (.bool true) ∧ Below W.heap.size W w' := by
  have HL := Lib.hid (r8Long_any A0 B0 n0 k c0 cd W)
  by_cases hlg : 48 < n0 ∨ 48 < k
  · have hb : (decide (48 < n0) || decide (48 < k)) = true := by simpa using hlg
    rw [hb] at HL
    clear hlg hb hA hB
    go_enter Try.func4, Try.ntmps4
    go_wp2_with (go_at_call 7; (with_reducible refine HL.out.mono ?_); rintro e w1 ⟨rfl, rfl⟩)
    go_ret
    exact ⟨rfl, Below.refl _ _⟩
  · have hb : (decide (48 < n0) || decide (48 < k)) = false := by simp; omega
    rw [hb] at HL
    have hk48 : k ≤ 48 := by omega
    have hn48 : n0 ≤ 48 := by omega
    have HK := Lib.hid hk48
    have HBW := Lib.hid hB
    have HA1 : Hid (Calls Try.prog 8 #[.slice B0 k cd, .int .i64 40, .int .i64 10] W (fun e w' => ∃ a n : Nat, IntKind.i64.wrap ((1 : Int) + (a : Int)) = (n : Int) ∧ (1 ≤ n ∧ n ≤ 10) ∧ e = .returned (.int .i64 a) ∧ W = w')) := Lib.hid ((r8At_any B0 k cd 40 10 W (by omega) (by omega) hB).mono fun e w' ⟨a, ha, he, hw⟩ => ⟨a, a + 1, by rw [show (1 : Int) + (a : Int) = ((a + 1 : Nat) : Int) by omega]; exact IntWalk.i64_in _ (by omega), by omega, he, hw⟩)
    have HS1 := Lib.hid fun (n : Nat) (hn : n ≤ 10) => R8Shares_any A0 n0 c0 n W (by omega) (by omega) hA
    clear hlg hb hA hB hk48 hn48
    go_enter Try.func4, Try.ntmps4
    generalize hcc : Code.seq (Code.seq (Code.region 10 _ _) _) _ = cc
    have HCC := Lib.hid hcc
    clear hcc
    go_upto_region 3 with (go_at_call 7; (with_reducible refine HL.out.mono ?_); rintro e w1 ⟨rfl, rfl⟩)
    clear HL
    go_upto_region 4 with (go_at_call 8; (with_reducible refine HA1.out.mono ?_); rintro e w1 ⟨a, n, hwn, hn, rfl, rfl⟩; have HN := Lib.hid hn; clear hn)
    clear hwn HA1
    go_upto_region 5 with (go_at_call 23; (with_reducible refine (HS1.out _ HN.out.2).mono ?_); rintro e w1 ⟨ks, A6, c6, hkl, hks, rfl, ho, hb⟩; have B1 := Lib.hid hb; have O1 := Lib.hid (Rd.of_own ho); have LK := Lib.hid hkl; have HKS := Lib.hid hks; clear hb ho hkl hks)
    clear HS1
    obtain rfl := LK.out
    have HPC := Lib.hid fun c W' h => plain_call HKS.out HN.out.1 HN.out.2 A6 c W' h
    have HHC := Lib.hid fun c W' h => holm_call HKS.out HN.out.1 HN.out.2 A6 c W' h
    have HSC := Lib.hid fun c W' h => step_call HKS.out HN.out.1 HN.out.2 A6 c W' h
    go_upto_region 6 with (go_at_call 24; (with_reducible refine (HPC.out _ _ O1.out).mono ?_); rintro e w2 ⟨A7, c7, rfl, hr, hb⟩; have R7 := Lib.hid hr; have B2 := Lib.hid hb; clear hr hb)
    clear HPC
    go_upto_region 7 with (go_at_call 25; (with_reducible refine (HHC.out _ _ (O1.out.at_ B2.out)).mono ?_); rintro e w3 ⟨d, A9, c9, hd, rfl, hr, hb⟩; have HD := Lib.hid hd; have R9 := Lib.hid hr; have B3 := Lib.hid hb; clear hd hr hb)
    clear HHC
    go_upto_region 8 with (go_at_call 26; (with_reducible refine (HSC.out _ _ (O1.out.at_ (below_next B2.out B3.out))).mono ?_); rintro e w4 ⟨d2, A11, c11, hd, rfl, hr, hb⟩; have HD2 := Lib.hid hd; have R11 := Lib.hid hr; have B4 := Lib.hid hb; clear hd hr hb)
    clear HSC
    have HLW : Hid (Lw W w4 B0 A6 k ks) := Lib.hid (by
      have B24 := below_next (below_next B2.out B3.out) B4.out
      exact ⟨below_next B1.out B24, O1.out.at_ B24, HKS.out, HN.out.1, HN.out.2, HBW.out.keep (below_next B1.out B24), HK.out⟩)
    have HTS : Hid (Tst w4 A7 A9 A11 ks (plainL (ks.map shN)) (holmL (ks.map shN) d) (stepL (ks.map shN) d2)) := Lib.hid
      ⟨R7.out.at_ (below_next B3.out B4.out), R9.out.at_ B4.out, R11.out, by simp [plainL], by unfold holmL; rw [outL_len, List.length_map], by unfold stepL; rw [outFL_len, List.length_map], fun i hi => row_three HKS.out HN.out.2 HD.out HD2.out hi, fun i j hi hj => two_three HKS.out HN.out.2 HD.out HD2.out hi hj⟩
    clear HBW O1 R7 R9 R11 B1 B2 B3 B4 HD HD2 HKS HN HK LK
    generalize plainL (ks.map shN) = ps at *
    generalize holmL (ks.map shN) d = hs at *
    generalize stepL (ks.map shN) d2 = ss at *
    go_wp2_with fail
    rw [← HCC.out]
    exact many_tests W _ B0 A6 A7 A9 A11 k cd c6 c7 c9 c11 ks ps hs ss HLW.out HTS.out
set_option maxRecDepth 100000 in
set_option maxHeartbeats 3200000 in
theorem lifted (os : Os) (started : os.Started) (H : Type) (enc : TypeId × Value → H) :
    ReturnsInHanded {} Try.checked os 4 .any (Rows.fnManySpec.pre6 enc Try.prog Try.f4 Rows.fnManyRow.domain false) (Rows.fnManySpec.post enc Try.prog Try.f4 false true false false) := by
  refine returnsInHanded_of_change (C := Try.checked) own started (by kernel_rfl) Try.func4
    (ChangeSpec.witness6 (enc := enc) (C := Try.checked) false ⟨#[], #[.slice none 0 0, .slice none 0 0], []⟩ 8 (by kernel_rfl) (by kernel_rfl) (by kernel_rfl) (by kernel_rfl)) ?_
  intro W base args ds gs before hval0 hW hcnd _
  have hval : ∀ (j : Nat) t v, Try.f4.params[j]? = some t → args[j]? = some v → Value.okWide Try.prog W .any base t v := hval0
  have hW' := hW
  have hlt : ∀ p ∈ before, p.block < W.heap.size := fun p hp => hW.lt p hp
  obtain ⟨p, q, hA0, hV, rfl, hfz, hnd⟩ := hW
  have hA : DataW.TrodAll enc Try.prog W 0 (fun _ => true) true Try.f4.params.toList args.toList ds p := hA0
  rw [Try.params4] at hA hval
  have hA1 := hA
  obtain ⟨v0, vs0, d0, ds0, p0, q0, hargs, rfl, rfl, h0, r0⟩ := trodAll_cons hA
  obtain ⟨v1, vs1, d1, ds1, p1, q1, rfl, rfl, rfl, h1, r1⟩ := trodAll_cons r0
  obtain ⟨rfl, rfl, rfl⟩ := trodAll_nil r1
  obtain rfl : args = #[v0, v1] := by cases args; simp_all
  obtain ⟨rfl, rfl⟩ := trodVars_none hV
  obtain ⟨A0, n0, c0, rfl, -, hr0⟩ := open_bytes h0 (okWide_slice Try.underlying22 (hval 0 _ _ rfl rfl))
  obtain ⟨A1, n1, c1, rfl, -, hr1⟩ := open_bytes h1 (okWide_slice Try.underlying22 (hval 1 _ _ rfl rfl))
  clear hA0 hval0
  refine (walk A0 A1 n0 n1 c0 c1 W hr0 hr1).mono fun e W' ⟨he, hb⟩ => ?_
  subst he
  rw [List.append_nil] at hW' hlt
  exact ⟨_, rfl, post_of_below (pa := _) (pv := []) hW' (fun _ _ _ => (trodAll_cons_mk (shut_bool Try.underlying4 _) trodAll_mk0))
    (fun sp hsp => trodAll_below cl_laid hb _ _ _ _ (by kernel_rfl) hA1 hlt hsp) (fun _ _ => rfl) (List.append_nil _).symm hb (ok_one (by kernel_rfl) rfl (okWide_bool_mk Try.underlying4 _))⟩

theorem g0 : Try.prog.funcNamed Rows.fnManyRow.func = some 4 := by kernel_rfl
theorem g1 : Rows.fnManyRow.inPlace = Try.prog.inPlace 4 := by kernel_rfl
theorem g2 : Rows.fnManyRow.unfollowed = Try.prog.unfollowed 4 := by kernel_rfl
theorem g3 : Rows.fnManyRow.recurses = Try.prog.recurses 4 := by kernel_rfl
theorem g4 : Rows.fnManyRow.named = Try.prog.varsNamed 4 := by kernel_rfl
theorem g5 : Rows.fnManyRow.wf (OpenSpec.ofChange Rows.fnManySpec) = true := by kernel_rfl
theorem g6 : (Try.f4.params.all (Try.prog.readableRec ·)) = true := by kernel_rfl
theorem g7 : Rows.fnManyRow.veiledFits Try.prog Try.f4.params.toList (Try.f4.params.toList ++ Try.f4.resultTypes.toList) = true := by kernel_rfl
theorem g8 : joinedFacts Try.prog 4 Try.f4 Rows.fnManySpec Rows.fnManyRow = true :=
  gen_facts _ _ _ _ rfl rfl cl_laid cl_maps cl_stops cl_knobs cl_heard cl_enter cl_lifts cl_make g5 g6 rfl rfl rfl g1 g2 g3 g4
    (by as_aux_lemma => kernel_rfl) (by as_aux_lemma => kernel_rfl) (by as_aux_lemma => kernel_rfl) (by as_aux_lemma => kernel_rfl) (by as_aux_lemma => kernel_rfl) (by as_aux_lemma => kernel_rfl) (by as_aux_lemma => kernel_rfl) (by as_aux_lemma => kernel_rfl)
    cl_keys.symm rfl rfl rfl rfl rfl (by as_aux_lemma => kernel_rfl) (by as_aux_lemma => kernel_rfl) g7
theorem g9 : Try.f4.isInstance Try.prog Rows.fnManyRow.origin Rows.fnManyRow.targs := of_decide_eq_true (by kernel_rfl)
theorem g10 : Try.f4.isWrapper Try.prog Rows.fnManyRow.wrapper Rows.fnManyRow.mainSum := by
  unfold Func.isWrapper; first | (rw [if_pos (by decide +kernel)]; kernel_rfl) | (rw [if_neg (by decide +kernel)]; exact ⟨rfl, rfl⟩)
theorem over : Rows.fnManyRow.holds Try.pinned (OpenSpec.ofChange Rows.fnManySpec) :=
  OpenClaim.holds_of_wide 4 Try.f4 rfl rfl rfl rfl rfl rfl rfl ⟨rfl, rfl, rfl, rfl, rfl⟩ rfl rfl rfl rfl rfl g0 Try.func4 g8 g9 g10 (fun os started H enc _ => lifted os started H enc)
theorem proved : Rows.FnManySaid := over
end Go.Proofs.Ytfkjnaaplhcheaa.lawMany
