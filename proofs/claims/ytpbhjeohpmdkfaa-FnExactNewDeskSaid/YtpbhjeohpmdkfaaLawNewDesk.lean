/-
  impl.NewDesk returns the desk that spec.NewDesk returns, in memory of its own (the law FnExactNewDesk returns true). No condition.
-/
import Derived.Test.YtpbhjeohpmdkfaaDk1
import Derived.Test.YtpbhjeohpmdkfaaOpen
namespace Go.Proofs.Ytpbhjeohpmdkfaa.lawNewDesk
open Go.ChangeShapes Go.WideShapes Go.ChangeAt Go.RowKit

theorem eqDk_any (b b' h1 h2 h3 g1 g2 g3 : Nat) (w : World) (hg : D3 w b g1 g2 g3 (il [3, 0, 0, 3]) (il [2, 0, 1]) (fl [1048576000, 1056964608])) (hh : D3 w b' h1 h2 h3 (il [3, 0, 0, 3]) (il [2, 0, 1]) (fl [1048576000, 1056964608])) :
    Calls Try.prog 10 #[dkV g1 g2 g3, dkV h1 h2 h3] w (fun e w' => e = .returned (.bool true) ∧ Below w.heap.size w w') :=
  eqDesk_yes 0 0 1 2 2 _ _ _ _ _ _ [3, 0, 0, 3] [2, 0, 1] [1048576000, 1056964608] 4 3 2 4 3 2 w (by decide) (by decide) (by decide) (Rd.of_own hg.1) (Rd.of_own hh.1) (Rd.of_own hg.2.1) (Rd.of_own hh.2.1) (Rd.of_own hg.2.2.1) (Rd.of_own hh.2.2.1)

set_option maxRecDepth 100000 in
set_option maxHeartbeats 3200000 in
theorem walk (w : World) : Calls Try.prog 3 #[] w fun e w' => e = .returned (.bool true) ∧ Below w.heap.size w w' := by
  have HN := Lib.hid fun w => NewDesk_any w
  have HS := Lib.hid fun w => specNewDesk_any w
  have HE := Lib.hid fun b b' h1 h2 h3 g1 g2 g3 w hg hh => eqDk_any b b' h1 h2 h3 g1 g2 g3 w hg hh
  have HM := Lib.hid fun b g1 g2 g3 v1 v2 v3 w h => markDesk_any b g1 g2 g3 v1 v2 v3 w h
  have HH := Lib.hid fun b g1 g2 g3 w h => heldDesk_any b g1 g2 g3 w h
  unfold ND dkV at HN HS
  unfold dkV at HE HM HH
  go_enter Try.func3, Try.ntmps3
  go_wp2_with fail
  refine (HS.out _).mono ?_
  rintro e w1 ⟨h1, h2, h3, rfl, hd, hb1⟩
  go_wp2_with fail
  generalize hW2 : World.alloc w1 _ = w2
  have q2 : DkBox w2 w1.heap.size h1 h2 h3 := by rw [← hW2]; simp [DkBox, go_sem]
  have k2 : Below w1.heap.size w1 w2 := by rw [← hW2]; exact (Below.refl _ _).alloc (Nat.le_refl _) _
  have d2 := hd.keep k2
  have b2 : Below w.heap.size w w2 := hb1.trans (k2.mono hb1.size)
  have lh := hd.lt
  clear hW2 hd hb1
  refine (HN.out _).mono ?_
  rintro e w3 ⟨g1, g2, g3, rfl, dg, hb3⟩
  have Q3 := Lib.hid (q2.keep hb3)
  have D3' := Lib.hid (d2.keep hb3)
  have b3 : Below w.heap.size w w3 := b2.trans (hb3.mono b2.size)
  have lg := dg.lt
  have sb := q2.lt
  have s1 := k2.size
  have sw := b2.size
  have s3 := hb3.size
  clear q2 d2 k2 hb3
  obtain ⟨a0, a1, a2, a3, a4, a5, a6, a7⟩ := Q3.out
  have sb3 : w1.heap.size < w3.heap.size := by omega
  go_wp2_with fail
  generalize hW4 : World.alloc w3 _ = w4
  have k4 : Below w3.heap.size w3 w4 := by rw [← hW4]; exact (Below.refl _ _).alloc (Nat.le_refl _) _
  have e4 : DkBox w4 w3.heap.size g1 g2 g3 := by rw [← hW4]; simp [DkBox, go_sem]
  have q4 := Q3.out.keep k4
  have dh4 := D3'.out.keep k4
  have dg4 := dg.keep k4
  have B4 : Below w.heap.size w w4 := b3.trans (k4.mono b3.size)
  have s4 := k4.size
  clear hW4 a0 a1 a2 a3 a4 a5 a6 a7 k4 Q3 D3' dg b2 b3
  refine (HE.out _ _ _ _ _ _ _ _ _ dg4 dh4).mono ?_
  rintro e w5 ⟨rfl, hb5⟩
  have E5 := Lib.hid (e4.keep hb5)
  have Q5 := Lib.hid (q4.keep hb5)
  have DH5 := Lib.hid (dh4.keep hb5)
  have dg5 := dg4.keep hb5
  have B5 := Lib.hid (B4.trans (hb5.mono B4.size))
  have s5 := hb5.size
  clear e4 q4 dh4 dg4 B4 hb5
  obtain ⟨a0, a1, a2, a3, a4, a5, a6, a7⟩ := E5.out
  go_wp2_with fail
  refine (HM.out _ _ _ _ _ _ _ _ dg5).mono ?_
  rintro e w6 ⟨rfl, dg6, hbut⟩
  have ne1 : w3.heap.size ≠ g1 ∧ w3.heap.size ≠ g2 ∧ w3.heap.size ≠ g3 := by omega
  have ne2 : w1.heap.size ≠ g1 ∧ w1.heap.size ≠ g2 ∧ w1.heap.size ≠ g3 := by omega
  have E6 := Lib.hid (E5.out.but hbut ne1.1 ne1.2.1 ne1.2.2)
  have Q6 := Lib.hid (Q5.out.but hbut ne2.1 ne2.2.1 ne2.2.2)
  have DH6 := Lib.hid (DH5.out.but hbut (fun q hq => by omega))
  have B6 := Lib.hid (But.below B5.out hbut (by omega) (by omega) (by omega) (by omega))
  have DG6 := Lib.hid dg6
  have s6 := hbut.2.2.2.1
  clear a0 a1 a2 a3 a4 a5 a6 a7 dg5 dg6 hbut E5 Q5 DH5 B5
  obtain ⟨a0, a1, a2, a3, a4, a5, a6, a7⟩ := E6.out
  go_wp2_with fail
  refine (HH.out _ _ _ _ _ DG6.out).mono ?_
  rintro e w7 ⟨rfl, hb7⟩
  have E7 := Lib.hid (E6.out.keep hb7)
  have Q7 := Lib.hid (Q6.out.keep hb7)
  have DH7 := Lib.hid (DH6.out.keep hb7)
  have DG7 := Lib.hid (DG6.out.keep hb7)
  have B7 := Lib.hid (B6.out.trans (hb7.mono B6.out.size))
  have s7 := hb7.size
  clear a0 a1 a2 a3 a4 a5 a6 a7 hb7 E6 Q6 DH6 DG6 B6
  go_wp2_with fail
  refine (HN.out _).mono ?_
  rintro e w8 ⟨f1, f2, f3, rfl, df, hb8⟩
  have E8 := Lib.hid (E7.out.keep hb8)
  have Q8 := Lib.hid (Q7.out.keep hb8)
  have DH8 := Lib.hid (DH7.out.keep hb8)
  have DG8 := Lib.hid (DG7.out.keep hb8)
  have B8 := Lib.hid (B7.out.trans (hb8.mono B7.out.size))
  have s8 := hb8.size
  clear hb8 E7 Q7 DH7 DG7 B7
  obtain ⟨a0, a1, a2, a3, a4, a5, a6, a7⟩ := Q8.out
  have sb8 : w1.heap.size < w8.heap.size := by omega
  go_wp2_with fail
  generalize hW9 : World.alloc w8 _ = w9
  have k9 : Below w8.heap.size w8 w9 := by rw [← hW9]; exact (Below.refl _ _).alloc (Nat.le_refl _) _
  have E9 := Lib.hid (E8.out.keep k9)
  have DG9 := Lib.hid (DG8.out.keep k9)
  have dh9 := DH8.out.keep k9
  have df9 := df.keep k9
  have B9 := Lib.hid (B8.out.trans (k9.mono B8.out.size))
  clear hW9 a0 a1 a2 a3 a4 a5 a6 a7 k9 E8 Q8 DH8 DG8 B8 df
  refine (HE.out _ _ _ _ _ _ _ _ _ df9 dh9).mono ?_
  rintro e w10 ⟨rfl, hb10⟩
  have E10 := Lib.hid (E9.out.keep hb10)
  have DG10 := Lib.hid (DG9.out.keep hb10)
  have B10 := Lib.hid (B9.out.trans (hb10.mono B9.out.size))
  clear hb10 E9 DG9 B9 dh9 df9
  obtain ⟨a0, a1, a2, a3, a4, a5, a6, a7⟩ := E10.out
  go_wp2_with fail
  refine (HH.out _ _ _ _ _ DG10.out).mono ?_
  rintro e w11 ⟨rfl, hb11⟩
  have B11 := Lib.hid (B10.out.trans (hb11.mono B10.out.size))
  clear a0 a1 a2 a3 a4 a5 a6 a7 hb11 B10 E10 DG10
  go_wp2_with fail
  go_ret
  exact ⟨rfl, B11.out⟩

set_option maxRecDepth 100000 in
theorem lifted (os : Os) (started : os.Started) (H : Type) (enc : TypeId × Value → H) :
    ReturnsInHanded {} Try.checked os 3 .any (Rows.fnExactNewDeskSpec.pre6 enc Try.prog Try.f3 Rows.fnExactNewDeskRow.domain false) (Rows.fnExactNewDeskSpec.post enc Try.prog Try.f3 false true false false) := by
  refine returnsInHanded_of_change (C := Try.checked) own started (by kernel_rfl) Try.func3
    (ChangeSpec.witness6 (enc := enc) (C := Try.checked) false ⟨#[], #[], []⟩ 8 (by kernel_rfl) (by kernel_rfl) (by kernel_rfl) (by kernel_rfl)) ?_
  intro W base args ds gs before hval0 hW hcnd _
  have hval : ∀ (j : Nat) t v, Try.f3.params[j]? = some t → args[j]? = some v → Value.okWide Try.prog W .any base t v := hval0
  have hW' := hW
  have hlt : ∀ p ∈ before, p.block < W.heap.size := fun p hp => hW.lt p hp
  obtain ⟨p, q, hA0, hV, rfl, hfz, hnd⟩ := hW
  have hA : DataW.TrodAll enc Try.prog W 0 (fun _ => true) true Try.f3.params.toList args.toList ds p := hA0
  rw [Try.params3] at hA hval
  have hA1 := hA
  obtain ⟨ha0, rfl, rfl⟩ := trodAll_nil hA
  obtain rfl : args = #[] := by cases args; simp_all
  obtain ⟨rfl, rfl⟩ := trodVars_none hV
  clear hA0 hval0
  refine (walk  W).mono fun e W' ⟨he, hb⟩ => ?_
  subst he
  rw [List.append_nil] at hW' hlt
  exact ⟨_, rfl, post_of_below (pa := _) (pv := []) hW' (fun _ _ _ => (trodAll_cons_mk (shut_bool Try.underlying4 _) trodAll_mk0))
    (fun sp hsp => trodAll_below cl_laid hb _ _ _ _ (by kernel_rfl) hA1 hlt hsp) (fun _ _ => rfl) (List.append_nil _).symm hb (ok_one (by kernel_rfl) rfl (okWide_bool_mk Try.underlying4 _))⟩

theorem g0 : Try.prog.funcNamed Rows.fnExactNewDeskRow.func = some 3 := by kernel_rfl
theorem g1 : Rows.fnExactNewDeskRow.inPlace = Try.prog.inPlace 3 := by kernel_rfl
theorem g2 : Rows.fnExactNewDeskRow.unfollowed = Try.prog.unfollowed 3 := by kernel_rfl
theorem g3 : Rows.fnExactNewDeskRow.recurses = Try.prog.recurses 3 := by kernel_rfl
theorem g4 : Rows.fnExactNewDeskRow.named = Try.prog.varsNamed 3 := by kernel_rfl
theorem g5 : Rows.fnExactNewDeskRow.wf (OpenSpec.ofChange Rows.fnExactNewDeskSpec) = true := by kernel_rfl
theorem g6 : (Try.f3.params.all (Try.prog.readableRec ·)) = true := by kernel_rfl
theorem g7 : Rows.fnExactNewDeskRow.veiledFits Try.prog Try.f3.params.toList (Try.f3.params.toList ++ Try.f3.resultTypes.toList) = true := by kernel_rfl
theorem g8 : joinedFacts Try.prog 3 Try.f3 Rows.fnExactNewDeskSpec Rows.fnExactNewDeskRow = true :=
  gen_facts _ _ _ _ rfl rfl cl_laid cl_maps cl_stops cl_knobs cl_heard cl_enter cl_lifts cl_make g5 g6 rfl rfl rfl g1 g2 g3 g4
    (by as_aux_lemma => kernel_rfl) (by as_aux_lemma => kernel_rfl) (by as_aux_lemma => kernel_rfl) (by as_aux_lemma => kernel_rfl) (by as_aux_lemma => kernel_rfl) (by as_aux_lemma => kernel_rfl) (by as_aux_lemma => kernel_rfl) (by as_aux_lemma => kernel_rfl)
    cl_keys.symm rfl rfl rfl rfl rfl (by as_aux_lemma => kernel_rfl) (by as_aux_lemma => kernel_rfl) g7
theorem g9 : Try.f3.isInstance Try.prog Rows.fnExactNewDeskRow.origin Rows.fnExactNewDeskRow.targs := of_decide_eq_true (by kernel_rfl)
theorem g10 : Try.f3.isWrapper Try.prog Rows.fnExactNewDeskRow.wrapper Rows.fnExactNewDeskRow.mainSum := by
  unfold Func.isWrapper; first | (rw [if_pos (by decide +kernel)]; kernel_rfl) | (rw [if_neg (by decide +kernel)]; exact ⟨rfl, rfl⟩)
theorem over : Rows.fnExactNewDeskRow.holds Try.pinned (OpenSpec.ofChange Rows.fnExactNewDeskSpec) :=
  OpenClaim.holds_of_wide 3 Try.f3 rfl rfl rfl rfl rfl rfl rfl ⟨rfl, rfl, rfl, rfl, rfl⟩ rfl rfl rfl rfl rfl g0 Try.func3 g8 g9 g10 (fun os started H enc _ => lifted os started H enc)
theorem proved : Rows.FnExactNewDeskSaid := over
end Go.Proofs.Ytpbhjeohpmdkfaa.lawNewDesk
