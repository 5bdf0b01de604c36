/-
  impl.SameRecords returns what spec.SameRecords returns, for all rows of records (the law FnExactSameRecords returns true), and leaves them as they were. No condition.
-/
import Derived.Test.YtielmnkhcljmeaaSr4
import Derived.Test.YtielmnkhcljmeaaRq6
import Derived.Test.YtielmnkhcljmeaaOpen
import Derived.Deep.RegionHeld3
namespace Go.Proofs.Ytielmnkhcljmeaa.lawSameRecords
open Go Go.ChangeShapes Go.WideShapes Go.ChangeAt Go.RowKit Go.Joins

set_option maxRecDepth 100000 in
set_option maxHeartbeats 6400000 in
theorem walk (A : Option Addr) (xs : List Rc) (c : Nat) (B : Option Addr) (ys : List Rc) (d : Nat) (w : World) (hx : xs.length ≤ 9223372036854775807) (hk : ∀ i (h : i < xs.length), xs[i].ok) (hA : RRow w w.heap.size A xs) (hy : ys.length ≤ 9223372036854775807) (hk2 : ∀ i (h : i < ys.length), ys[i].ok) (hB : RRow w w.heap.size B ys) :
    Calls Try.prog 3 #[.slice A xs.length c, .slice B ys.length d] w (fun e w' => e = .returned (.bool true) ∧ Below w.heap.size w w') := by
  have HZ := Lib.hid (szRecordS_any A xs c w hx hk hA 1048576 (by omega) (by omega))
  have HZ2 := Lib.hid fun w h lf h0 h1 => szRecordS_any B ys d w hy hk2 h lf h0 h1
  have HS := Lib.hid fun A B c d w h h2 => specSameRecords_any A B xs ys c d w hx hy hk hk2 h h2
  have HI := Lib.hid fun A B c d w h h2 => SameRecords_any A B xs ys c d w hx hy hk hk2 h h2
  have HT := Lib.hid fun hn hb w h => toRecordS_any A xs c w hn hb h
  have HU := Lib.hid fun hn hb w h => toRecordS_any B ys d w hn hb h
  have HE := Lib.hid fun A B c d w hA hB => eqRecordS_yes A B xs c d w hx hk hA hB
  have HF := Lib.hid fun A B c d w hA hB => eqRecordS_yes A B ys c d w hy hk2 hA hB
  have HH := Lib.hid hA
  have HG := Lib.hid hB
  unfold SzOut at HZ HZ2
  unfold ToOut at HT HU
  clear hA hB hk hk2 hx hy
  generalize sameR xs ys = R at *
  go_enter Try.func3, Try.ntmps3
  go_wp2_with fail
  refine HZ.out.mono ?_
  rintro e w1 ⟨r, rfl, hr, hb1⟩
  have B1 := Lib.hid hb1
  clear hb1 HZ
  by_cases hr0 : r < 0
  · clear hr
    go_wp2_with fail
    go_ret
    exact ⟨rfl, B1.out⟩
  obtain ⟨lf0, lf1, hn, hbd⟩ := hr.resolve_left hr0
  have HT2 := Lib.hid fun w h => HT.out hn hbd w h
  clear hr hn hbd HT
  go_wp2_with fail
  refine (HZ2.out _ (HG.out.at_ B1.out) r lf0 lf1).mono ?_
  rintro e w2 ⟨r2, rfl, hr2, hb2⟩
  have B2 := Lib.hid (below_next B1.out hb2)
  clear hb2 HZ2 B1
  by_cases hr20 : r2 < 0
  · clear hr2
    go_wp2_with fail
    go_ret
    exact ⟨rfl, B2.out⟩
  obtain ⟨_, _, hn2, hbd2⟩ := hr2.resolve_left hr20
  have HU2 := Lib.hid fun w h => HU.out hn2 hbd2 w h
  clear hr2 hn2 hbd2 HU
  go_wp2_with fail
  refine (HT2.out _ (HH.out.at_ B2.out)).mono ?_
  rintro e w3 ⟨g3, rfl, hr3, hb3⟩
  have B3 := Lib.hid (below_next B2.out hb3)
  have R3 := Lib.hid hr3
  clear hr3 hb3 B2
  go_wp2_with fail
  refine (HU2.out _ (HG.out.at_ B3.out)).mono ?_
  rintro e w4 ⟨g4, rfl, hr4, hb4⟩
  have B4 := Lib.hid (below_next B3.out hb4)
  have S4 := Lib.hid hr4
  have R4 := Lib.hid (R3.out.at_ hb4)
  clear hr4 hb4 B3 R3
  go_wp2_with fail
  refine (HS.out _ _ _ _ _ R4.out S4.out).mono ?_
  rintro e w5 ⟨rfl, hb5⟩
  have B5 := Lib.hid (below_next B4.out hb5)
  clear hb5 B4 R4 S4
  go_wp2_with fail
  refine (HT2.out _ (HH.out.at_ B5.out)).mono ?_
  rintro e w6 ⟨g6, rfl, hr6, hb6⟩
  have B6 := Lib.hid (below_next B5.out hb6)
  have R6 := Lib.hid hr6
  clear hr6 hb6 B5
  go_wp2_with fail
  refine (HU2.out _ (HG.out.at_ B6.out)).mono ?_
  rintro e w7 ⟨g7, rfl, hr7, hb7⟩
  have B7 := Lib.hid (below_next B6.out hb7)
  have S7 := Lib.hid hr7
  have R7 := Lib.hid (R6.out.at_ hb7)
  clear hr7 hb7 B6 R6
  go_wp2_with fail
  refine (HI.out _ _ _ _ _ R7.out S7.out).mono ?_
  rintro e w8 ⟨rfl, hb8⟩
  have B8 := Lib.hid (below_next B7.out hb8)
  have R8 := Lib.hid (R7.out.at_ hb8)
  have S8 := Lib.hid (S7.out.at_ hb8)
  clear hb8 B7 R7 S7
  go_wp2_with fail
  refine (HT2.out _ (HH.out.at_ B8.out)).mono ?_
  rintro e w9 ⟨g9, rfl, hr9, hb9⟩
  have B9 := Lib.hid (below_next B8.out hb9)
  have X9 := Lib.hid hr9
  have R9 := Lib.hid (R8.out.at_ hb9)
  have S9 := Lib.hid (S8.out.at_ hb9)
  clear hr9 hb9 B8 R8 S8
  go_wp2_with fail
  refine (HE.out _ _ _ _ _ R9.out X9.out).mono ?_
  rintro e w10 ⟨rfl, hb10⟩
  have B10 := Lib.hid (below_next B9.out hb10)
  have S10 := Lib.hid (S9.out.at_ hb10)
  clear hb10 B9 R9 X9 S9
  go_wp2_with fail
  refine (HU2.out _ (HG.out.at_ B10.out)).mono ?_
  rintro e w11 ⟨g11, rfl, hr11, hb11⟩
  have B11 := Lib.hid (below_next B10.out hb11)
  have X11 := Lib.hid hr11
  have S11 := Lib.hid (S10.out.at_ hb11)
  clear hr11 hb11 B10 S10
  go_wp2_with fail
  refine (HF.out _ _ _ _ _ S11.out X11.out).mono ?_
  rintro e w12 ⟨rfl, hb12⟩
  have B12 := Lib.hid (below_next B11.out hb12)
  clear hb12
  go_wp2_with fail
  go_ret
  exact ⟨rfl, B12.out⟩

set_option maxRecDepth 100000 in
set_option maxHeartbeats 3200000 in
theorem lifted (os : Os) (started : os.Started) (H : Type) (enc : TypeId × Value → H) :
    ReturnsInHanded {} Try.checked os 3 .any (Rows.fnExactSameRecordsSpec.pre6 enc Try.prog Try.f3 Rows.fnExactSameRecordsRow.domain false) (Rows.fnExactSameRecordsSpec.post enc Try.prog Try.f3 false true false false) := by
  refine returnsInHanded_of_change (C := Try.checked) own started (by kernel_rfl) Try.func3
    (ChangeSpec.witness6 (enc := enc) (C := Try.checked) false ⟨#[], #[.slice none 0 0, .slice none 0 0], []⟩ 8 (by kernel_rfl) (by kernel_rfl) (by kernel_rfl) (by kernel_rfl)) ?_
  intro W base args ds gs before hval0 hW hcnd _
  have hval : ∀ (j : Nat) t v, Try.f3.params[j]? = some t → args[j]? = some v → Value.okWide Try.prog W .any base t v := hval0
  have hW' := hW
  have hlt : ∀ p ∈ before, p.block < W.heap.size := fun p hp => hW.lt p hp
  obtain ⟨p, q, hA0, hV, rfl, hfz, hnd⟩ := hW
  have hA : DataW.TrodAll enc Try.prog W 0 (fun _ => true) true Try.f3.params.toList args.toList ds p := hA0
  rw [Try.params3] at hA hval
  have hA1 := hA
  obtain ⟨v0, vs0, d0, ds0, p0, q0, hargs, rfl, rfl, h0, r0⟩ := trodAll_cons hA
  obtain ⟨v1, vs1, d1, ds1, p1, q1, rfl, rfl, rfl, h1, r1⟩ := trodAll_cons r0
  obtain ⟨rfl, rfl, rfl⟩ := trodAll_nil r1
  obtain rfl : args = #[v0, v1] := by cases args; simp_all
  obtain ⟨rfl, rfl⟩ := trodVars_none hV
  obtain ⟨A0, xs0, c0, rfl, hx0, hk0, hr0⟩ := open_recs h0 (okWide_slice Try.underlying22 (hval 0 _ _ rfl rfl))
  obtain ⟨A1, xs1, c1, rfl, hx1, hk1, hr1⟩ := open_recs h1 (okWide_slice Try.underlying22 (hval 1 _ _ rfl rfl))
  clear hA0 hval0
  refine (walk A0 xs0 c0 A1 xs1 c1 W hx0 hk0 hr0 hx1 hk1 hr1).mono fun e W' ⟨he, hb⟩ => ?_
  subst he
  rw [List.append_nil] at hW' hlt
  exact ⟨_, rfl, post_of_below (pa := _) (pv := []) hW' (fun _ _ _ => (trodAll_cons_mk (shut_bool Try.underlying4 _) trodAll_mk0))
    (fun sp hsp => trodAll_below cl_laid hb _ _ _ _ (by kernel_rfl) hA1 hlt hsp) (fun _ _ => rfl) (List.append_nil _).symm hb (ok_one (by kernel_rfl) rfl (okWide_bool_mk Try.underlying4 _))⟩

theorem g0 : Try.prog.funcNamed Rows.fnExactSameRecordsRow.func = some 3 := by kernel_rfl
theorem g1 : Rows.fnExactSameRecordsRow.inPlace = Try.prog.inPlace 3 := by kernel_rfl
theorem g2 : Rows.fnExactSameRecordsRow.unfollowed = Try.prog.unfollowed 3 := by kernel_rfl
theorem g3 : Rows.fnExactSameRecordsRow.recurses = Try.prog.recurses 3 := by kernel_rfl
theorem g4 : Rows.fnExactSameRecordsRow.named = Try.prog.varsNamed 3 := by kernel_rfl
theorem g5 : Rows.fnExactSameRecordsRow.wf (OpenSpec.ofChange Rows.fnExactSameRecordsSpec) = true := by kernel_rfl
theorem g6 : (Try.f3.params.all (Try.prog.readableRec ·)) = true := by kernel_rfl
theorem g7 : Rows.fnExactSameRecordsRow.veiledFits Try.prog Try.f3.params.toList (Try.f3.params.toList ++ Try.f3.resultTypes.toList) = true := by kernel_rfl
theorem g8 : joinedFacts Try.prog 3 Try.f3 Rows.fnExactSameRecordsSpec Rows.fnExactSameRecordsRow = true :=
  gen_facts _ _ _ _ rfl rfl cl_laid cl_maps cl_stops cl_knobs cl_heard cl_enter cl_lifts cl_make g5 g6 rfl rfl rfl g1 g2 g3 g4
    (by as_aux_lemma => kernel_rfl) (by as_aux_lemma => kernel_rfl) (by as_aux_lemma => kernel_rfl) (by as_aux_lemma => kernel_rfl) (by as_aux_lemma => kernel_rfl) (by as_aux_lemma => kernel_rfl) (by as_aux_lemma => kernel_rfl) (by as_aux_lemma => kernel_rfl)
    cl_keys.symm rfl rfl rfl rfl rfl (by as_aux_lemma => kernel_rfl) (by as_aux_lemma => kernel_rfl) g7
theorem g9 : Try.f3.isInstance Try.prog Rows.fnExactSameRecordsRow.origin Rows.fnExactSameRecordsRow.targs := of_decide_eq_true (by kernel_rfl)
theorem g10 : Try.f3.isWrapper Try.prog Rows.fnExactSameRecordsRow.wrapper Rows.fnExactSameRecordsRow.mainSum := by
  unfold Func.isWrapper; first | (rw [if_pos (by decide +kernel)]; kernel_rfl) | (rw [if_neg (by decide +kernel)]; exact ⟨rfl, rfl⟩)
theorem over : Rows.fnExactSameRecordsRow.holds Try.pinned (OpenSpec.ofChange Rows.fnExactSameRecordsSpec) :=
  OpenClaim.holds_of_wide 3 Try.f3 rfl rfl rfl rfl rfl rfl rfl ⟨rfl, rfl, rfl, rfl, rfl⟩ rfl rfl rfl rfl rfl g0 Try.func3 g8 g9 g10 (fun os started H enc _ => lifted os started H enc)
theorem proved : Rows.FnExactSameRecordsSaid := over
end Go.Proofs.Ytielmnkhcljmeaa.lawSameRecords
