/-
  impl.IsRow returns what spec.IsRow returns, for every list of single numbers (the law FnExactIsRow returns true), and leaves its argument as it was. No condition.
-/
import Derived.Test.YtddaodjaeommlaaFb
import Derived.Test.YtddaodjaeommlaaTo
import Derived.Test.YtddaodjaeommlaaOpen
namespace Go.Proofs.Ytddaodjaeommlaa.lawIsRow
open Go.ChangeShapes Go.WideShapes Go.ChangeAt Go.RowKit

set_option maxHeartbeats 800000 in
theorem walk (A : Option Addr) (xs : List Nat) (c : Nat) (w : World) (h : Rd w w.heap.size A (fl xs)) (hx : xs.length ≤ 9223372036854775807) :
    Calls Try.prog 3 #[.slice A xs.length c] w fun e w' => e = .returned (.bool true) ∧ Below w.heap.size w w' := by
  by_cases hl : xs.length ≤ 1048576
  · have HT := Lib.hid fun w h => toFloat32S_any A xs c w hl h
    have HS := Lib.hid fun A c w h => specIsRow_any A xs c w hx h
    have HI := Lib.hid fun A c w h => IsRow_any A xs c w hx h
    have HE := Lib.hid fun A B c d w hA hB => eqFloat32S_yes A B xs xs c d w hx (sameL_refl xs) hA hB
    go_enter Try.func3, Try.ntmps3
    go_wp2_with (go_at_call 24; refine (HT.out _ h).mono ?_; rintro e w1 ⟨rfl, hown1, hb1⟩)
    have hr1 := Rd.of_own hown1
    have h1 := h.next (Nat.le_refl _) hb1
    clear hown1 h
    go_wp2_with (go_at_call 23; refine (HS.out _ _ _ hr1).mono ?_; rintro e w2 hq; obtain ⟨rfl, hb2⟩ := hq.below; clear hq)
    have h2 := h1.next (Nat.le_refl _) hb2
    clear hr1 h1
    go_wp2_with (go_at_call 24; refine (HT.out _ h2).mono ?_; rintro e w3 ⟨rfl, hown3, hb3⟩)
    have hr3 := Rd.of_own hown3
    have h3 := h2.next (Nat.le_refl _) hb3
    clear hown3 h2
    go_wp2_with (go_at_call 25; refine (HI.out _ _ _ hr3).mono ?_; rintro e w4 hq; obtain ⟨rfl, hb4⟩ := hq.below; clear hq)
    have h4 := h3.next (Nat.le_refl _) hb4
    have hr4 := hr3.next (Nat.le_refl _) hb4
    clear h3 hr3
    go_wp2_with (go_at_call 24; refine (HT.out _ h4).mono ?_; rintro e w5 ⟨rfl, hown5, hb5⟩)
    have hr5 := Rd.of_own hown5
    have h5 := hr4.next (Nat.le_refl _) hb5
    clear hown5 h4 hr4
    go_wp2_with (go_at_call 26; refine (HE.out _ _ _ _ _ h5 hr5).mono ?_; rintro e w6 hq; obtain ⟨rfl, hb6⟩ := hq.below; clear hq)
    go_ret
    have s1 := hb1.size
    have s2 := hb2.size
    have s3 := hb3.size
    have s4 := hb4.size
    have s5 := hb5.size
    exact ⟨rfl, hb1.trans ((hb2.mono s1).trans ((hb3.mono (by omega)).trans ((hb4.mono (by omega)).trans ((hb5.mono (by omega)).trans (hb6.mono (by omega))))))⟩
  · go_enter Try.func3, Try.ntmps3
    go_wp2
    go_ret
    exact ⟨rfl, Below.refl _ _⟩

set_option maxRecDepth 100000 in
theorem lifted (os : Os) (started : os.Started) (H : Type) (enc : TypeId × Value → H) :
    ReturnsInHanded {} Try.checked os 3 .any (Rows.fnExactIsRowSpec.pre6 enc Try.prog Try.f3 Rows.fnExactIsRowRow.domain false) (Rows.fnExactIsRowSpec.post enc Try.prog Try.f3 false true false false) := by
  refine returnsInHanded_of_change (C := Try.checked) own started (by kernel_rfl) Try.func3
    (ChangeSpec.witness6 (enc := enc) (C := Try.checked) false ⟨#[], #[.slice none 0 0], []⟩ 8 (by kernel_rfl) (by kernel_rfl) (by kernel_rfl) (by kernel_rfl)) ?_
  intro W base args ds gs before hval0 hW hcnd _
  have hval : ∀ (j : Nat) t v, Try.f3.params[j]? = some t → args[j]? = some v → Value.okWide Try.prog W .any base t v := hval0
  have hW' := hW
  have hlt : ∀ p ∈ before, p.block < W.heap.size := fun p hp => hW.lt p hp
  obtain ⟨p, q, hA0, hV, rfl, hfz, hnd⟩ := hW
  have hA : DataW.TrodAll enc Try.prog W 0 (fun _ => true) true Try.f3.params.toList args.toList ds p := hA0
  rw [Try.params3] at hA hval
  have hA1 := hA
  obtain ⟨v0, vs0, d0, ds0, p0, q0, hargs, rfl, rfl, h0, r0⟩ := trodAll_cons hA
  obtain ⟨rfl, rfl, rfl⟩ := trodAll_nil r0
  obtain rfl : args = #[v0] := by cases args; simp_all
  obtain ⟨rfl, rfl⟩ := trodVars_none hV
  obtain ⟨A0, xs0, c0, rfl, hx0, hr0⟩ := open_fl h0 (okWide_slice Try.underlying22 (hval 0 _ _ rfl rfl))
  clear hA0 hval0
  refine (walk A0 xs0 c0 W hr0 hx0).mono fun e W' ⟨he, hb⟩ => ?_
  subst he
  rw [List.append_nil] at hW' hlt
  exact ⟨_, rfl, post_of_below (pa := _) (pv := []) hW' (fun _ _ _ => (trodAll_cons_mk (shut_bool Try.underlying4 _) trodAll_mk0))
    (fun sp hsp => trodAll_below cl_laid hb _ _ _ _ (by kernel_rfl) hA1 hlt hsp) (fun _ _ => rfl) (List.append_nil _).symm hb (ok_one (by kernel_rfl) rfl (okWide_bool_mk Try.underlying4 _))⟩

theorem g0 : Try.prog.funcNamed Rows.fnExactIsRowRow.func = some 3 := by kernel_rfl
theorem g1 : Rows.fnExactIsRowRow.inPlace = Try.prog.inPlace 3 := by kernel_rfl
theorem g2 : Rows.fnExactIsRowRow.unfollowed = Try.prog.unfollowed 3 := by kernel_rfl
theorem g3 : Rows.fnExactIsRowRow.recurses = Try.prog.recurses 3 := by kernel_rfl
theorem g4 : Rows.fnExactIsRowRow.named = Try.prog.varsNamed 3 := by kernel_rfl
theorem g5 : Rows.fnExactIsRowRow.wf (OpenSpec.ofChange Rows.fnExactIsRowSpec) = true := by kernel_rfl
theorem g6 : (Try.f3.params.all (Try.prog.readableRec ·)) = true := by kernel_rfl
theorem g7 : Rows.fnExactIsRowRow.veiledFits Try.prog Try.f3.params.toList (Try.f3.params.toList ++ Try.f3.resultTypes.toList) = true := by kernel_rfl
theorem g8 : joinedFacts Try.prog 3 Try.f3 Rows.fnExactIsRowSpec Rows.fnExactIsRowRow = true :=
  gen_facts _ _ _ _ rfl rfl cl_laid cl_maps cl_stops cl_knobs cl_heard cl_enter cl_lifts cl_make g5 g6 rfl rfl rfl g1 g2 g3 g4
    (by as_aux_lemma => kernel_rfl) (by as_aux_lemma => kernel_rfl) (by as_aux_lemma => kernel_rfl) (by as_aux_lemma => kernel_rfl) (by as_aux_lemma => kernel_rfl) (by as_aux_lemma => kernel_rfl) (by as_aux_lemma => kernel_rfl) (by as_aux_lemma => kernel_rfl)
    cl_keys.symm rfl rfl rfl rfl rfl (by as_aux_lemma => kernel_rfl) (by as_aux_lemma => kernel_rfl) g7
theorem g9 : Try.f3.isInstance Try.prog Rows.fnExactIsRowRow.origin Rows.fnExactIsRowRow.targs := of_decide_eq_true (by kernel_rfl)
theorem g10 : Try.f3.isWrapper Try.prog Rows.fnExactIsRowRow.wrapper Rows.fnExactIsRowRow.mainSum := by
  unfold Func.isWrapper; first | (rw [if_pos (by decide +kernel)]; kernel_rfl) | (rw [if_neg (by decide +kernel)]; exact ⟨rfl, rfl⟩)
theorem over : Rows.fnExactIsRowRow.holds Try.pinned (OpenSpec.ofChange Rows.fnExactIsRowSpec) :=
  OpenClaim.holds_of_wide 3 Try.f3 rfl rfl rfl rfl rfl rfl rfl ⟨rfl, rfl, rfl, rfl, rfl⟩ rfl rfl rfl rfl rfl g0 Try.func3 g8 g9 g10 (fun os started H enc _ => lifted os started H enc)
theorem proved : Rows.FnExactIsRowSaid := over
end Go.Proofs.Ytddaodjaeommlaa.lawIsRow
