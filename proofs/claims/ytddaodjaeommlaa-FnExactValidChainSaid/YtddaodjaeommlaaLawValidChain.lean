/-
  impl.ValidChain returns what spec.ValidChain returns, for every chain (the law FnExactValidChain returns true), and leaves its argument as it was. No condition.
-/
import Derived.Test.YtddaodjaeommlaaVa3
import Derived.Test.YtddaodjaeommlaaCh
import Derived.Test.YtddaodjaeommlaaOpen
import Derived.Deep.RegionHeld3
namespace Go.Proofs.Ytddaodjaeommlaa.lawValidChain
open Go.ChangeShapes Go.WideShapes Go.ChangeAt Go.RowKit

set_option maxHeartbeats 1600000 in
theorem walk (n : Int) (A : Option Addr) (xs : List Nat) (c : Nat) (w : World) (h : Rd w w.heap.size A (fl xs)) (hx : xs.length ≤ 9223372036854775807) (_bd : -9223372036854775808 ≤ n ∧ n ≤ 9223372036854775807) (_bf : ∀ x ∈ xs, x < 4294967296) :
    Calls Try.prog 6 #[.agg #[.int .i64 n, .slice A xs.length c]] w fun e w' => e = .returned (.bool true) ∧ Below w.heap.size w w' := by
  have HZ := Lib.hid fun w => szChain_any n A xs.length c 1048576 w hx (by omega) (by omega)
  by_cases hl : (1048576 : Int) - (xs.length : Int) < 0
  · have HL : Hid (leftOf 1048576 xs.length = -1) := if_pos hl
    clear hl
    go_enter Try.func6, Try.ntmps6
    go_wp2_with (go_at_call 27; refine (HZ.out _).mono ?_; rw [HL.out]; rintro e w1 ⟨rfl, hb1⟩)
    go_ret
    exact ⟨rfl, Below.trans ((Below.refl _ _).alloc (Nat.le_refl _) _) (hb1.mono (by simp))⟩
  · have HL : Hid (leftOf 1048576 xs.length = 1048576 - xs.length) := if_neg hl
    have hx2 : xs.length ≤ 1048576 := by omega
    have HT := Lib.hid fun w h => toChain_any n A xs c w hx2 h
    have HS := Lib.hid fun A c w h => specValidChain_any n A xs c w hx h
    have HV := Lib.hid fun A c w (hc : xs.length ≤ c) (hc2 : c ≤ 9223372036854775807) h => ValidChain_any n A xs c w hc hc2 h
    have HE := Lib.hid fun A B c d w hA hB => eqChain_yes n A B xs xs c d w hx (sameL_refl xs) hA hB
    go_enter Try.func6, Try.ntmps6
    go_wp2_with (go_at_call 27; refine (HZ.out _).mono ?_; rw [HL.out]; rintro e w1 ⟨rfl, hb1⟩; obtain ⟨hc1, hf1⟩ := bcell hb1; have hz1 : w.heap.size < w1.heap.size := (by have := hb1.size; simp at this; omega))
    have B1 : Below w.heap.size w w1 := Below.trans ((Below.refl _ _).alloc (Nat.le_refl _) _) (hb1.mono (by simp))
    have HB1 := Lib.hid B1
    clear hb1 B1
    go_wp2_with (go_at_call 29; refine (HT.out _ (h.at_ HB1.out)).mono ?_; rintro e w2 ⟨A2, rfl, hown2, hb2⟩; obtain ⟨hc2, hf2⟩ := bcell hb2; have hz2 : w.heap.size < w2.heap.size := (by have := hb2.size; omega))
    have r2 := Rd.of_own hown2
    have hL2 := h.at_ (HB1.out.trans (hb2.mono HB1.out.size))
    have HB2 := Lib.hid (HB1.out.trans (hb2.mono HB1.out.size))
    clear hb2 hown2
    go_wp2_with (go_at_call 35; refine (HS.out _ _ _ r2).mono ?_; rintro e w3 ⟨rfl, hb3⟩; obtain ⟨hc3, hf3⟩ := bcell hb3; have hz3 : w.heap.size < w3.heap.size := (by have := hb3.size; omega))
    have HB3 := Lib.hid (HB2.out.trans (hb3.mono HB2.out.size))
    clear hb3 r2 hL2
    go_wp2_with (go_at_call 29; refine (HT.out _ (h.at_ HB3.out)).mono ?_; rintro e w4 ⟨A4, rfl, hown4, hb4⟩; obtain ⟨hc4, hf4⟩ := bcell hb4; have hz4 : w.heap.size < w4.heap.size := (by have := hb4.size; omega))
    have r4 := Rd.of_own hown4
    have HB4 := Lib.hid (HB3.out.trans (hb4.mono HB3.out.size))
    clear hb4 hown4
    go_wp2_with (go_at_call 36; refine (HV.out _ _ _ (Nat.le_refl _) hx (r4.at_ (by repeat (first | exact Below.refl _ _ | refine Below.setCell ?_ (by simp) _ | refine Below.alloc ?_ (by simp) _)))).mono ?_; rintro e w5 ⟨rfl, hb5⟩; obtain ⟨hc5, hf5⟩ := bcell hb5; have hz5 : w4.heap.size < w5.heap.size := (by have := hb5.size; simp at this; omega))
    have HB5 := Lib.hid (HB4.out.trans ((Below.trans ((Below.refl _ _).alloc (Nat.le_refl _) _) (hb5.mono (by simp))).mono HB4.out.size))
    have d0 : w5.cell? ⟨w.heap.size, 0, none⟩ = some (.int .i64 n) := by simp [hc5, hc4, hc3, hc2, hc1, hz1, hz2, hz3, hz4, go_sem]
    have d1 : w5.cell? ⟨w.heap.size, 1, none⟩ = some (.slice A xs.length c) := by simp [hc5, hc4, hc3, hc2, hc1, hz1, hz2, hz3, hz4, go_sem]
    have d2 : w5.cell? ⟨w4.heap.size, 0, none⟩ = some (.int .i64 n) := by simp [hc5, go_sem]
    have d3 : w5.cell? ⟨w4.heap.size, 1, none⟩ = some (.slice A4 xs.length xs.length) := by simp [hc5, go_sem]
    have r5 := (r4.at_ ((Below.refl _ _).alloc (Nat.le_refl _) _)).at_ hb5
    have hz6 : w.heap.size < w5.heap.size := by omega
    clear hc5 hf5 hc4 hf4 hc3 hf3 hc2 hf2 hc1 hf1 hb5 r4
    generalize w4.heap.size = g4 at *
    have hMk : Hid (∀ W, Below w5.heap.size w5 W → W.cell? ⟨w.heap.size, 0, none⟩ = some (.int .i64 n) ∧ W.cell? ⟨w.heap.size, 1, none⟩ = some (.slice A xs.length c) ∧ W.cell? ⟨g4, 0, none⟩ = some (.int .i64 n) ∧ W.cell? ⟨g4, 1, none⟩ = some (.slice A4 xs.length xs.length) ∧ Below w5.heap.size w5 W) := fun W hW =>
      ⟨(hW.cell (p := ⟨_, 0, none⟩) hz6).trans d0, (hW.cell (p := ⟨_, 1, none⟩) hz6).trans d1, (hW.cell (p := ⟨_, 0, none⟩) hz5).trans d2, (hW.cell (p := ⟨_, 1, none⟩) hz5).trans d3, hW⟩
    go_region_held3 (fun W => W.cell? ⟨w.heap.size, 0, none⟩ = some (.int .i64 n) ∧ W.cell? ⟨w.heap.size, 1, none⟩ = some (.slice A xs.length c) ∧ W.cell? ⟨g4, 0, none⟩ = some (.int .i64 n) ∧ W.cell? ⟨g4, 1, none⟩ = some (.slice A4 xs.length xs.length) ∧ Below w5.heap.size w5 W)
      (first | exact hMk.out _ ((Below.refl _ _).drew) | exact hMk.out _ (by assumption))
      (first
        | (go_at_call 29; refine (HT.out _ (h.at_ HB5.out.drew)).mono ?_; rintro e w6 ⟨A6, rfl, hown6, hb6⟩; have hk6 : Below w5.heap.size w5 w6 := Below.trans (Below.refl _ _).drew hb6)
        | (go_at_call 31; refine (HE.out _ _ _ _ _ (r5.at_ hk6) (Rd.of_own hown6)).mono ?_; rintro e w7 ⟨rfl, hb7⟩; have hk7 : Below w5.heap.size w5 w7 := hk6.trans (hb7.mono hk6.size)))
    go_wp2
    go_ret
    exact ⟨rfl, HB5.out.trans (hk7.mono HB5.out.size)⟩

set_option maxRecDepth 100000 in
theorem lifted (os : Os) (started : os.Started) (H : Type) (enc : TypeId × Value → H) :
    ReturnsInHanded {} Try.checked os 6 .any (Rows.fnExactValidChainSpec.pre6 enc Try.prog Try.f6 Rows.fnExactValidChainRow.domain false) (Rows.fnExactValidChainSpec.post enc Try.prog Try.f6 false true false false) := by
  refine returnsInHanded_of_change (C := Try.checked) own started (by kernel_rfl) Try.func6
    (ChangeSpec.witness6 (enc := enc) (C := Try.checked) false ⟨#[], #[.agg #[.int .i64 0, .slice none 0 0]], []⟩ 8 (by kernel_rfl) (by kernel_rfl) (by kernel_rfl) (by kernel_rfl)) ?_
  intro W base args ds gs before hval0 hW hcnd _
  have hval : ∀ (j : Nat) t v, Try.f6.params[j]? = some t → args[j]? = some v → Value.okWide Try.prog W .any base t v := hval0
  have hW' := hW
  have hlt : ∀ p ∈ before, p.block < W.heap.size := fun p hp => hW.lt p hp
  obtain ⟨p, q, hA0, hV, rfl, hfz, hnd⟩ := hW
  have hA : DataW.TrodAll enc Try.prog W 0 (fun _ => true) true Try.f6.params.toList args.toList ds p := hA0
  rw [Try.params6] at hA hval
  have hA1 := hA
  obtain ⟨v0, vs0, d0, ds0, p0, q0, hargs, rfl, rfl, h0, r0⟩ := trodAll_cons hA
  obtain ⟨rfl, rfl, rfl⟩ := trodAll_nil r0
  obtain rfl : args = #[v0] := by cases args; simp_all
  obtain ⟨rfl, rfl⟩ := trodVars_none hV
  obtain ⟨n0, A0, xs0, c0, rfl, bd0, hx0, hr0, bf0⟩ := open_chain (hval 0 _ _ rfl rfl) h0
  clear hA0 hval0
  refine (walk n0 A0 xs0 c0 W hr0 hx0 bd0 bf0).mono fun e W' ⟨he, hb⟩ => ?_
  subst he
  rw [List.append_nil] at hW' hlt
  exact ⟨_, rfl, post_of_below (pa := _) (pv := []) hW' (fun _ _ _ => (trodAll_cons_mk (shut_bool Try.underlying4 _) trodAll_mk0))
    (fun sp hsp => trodAll_below cl_laid hb _ _ _ _ (by kernel_rfl) hA1 hlt hsp) (fun _ _ => rfl) (List.append_nil _).symm hb (ok_one (by kernel_rfl) rfl (okWide_bool_mk Try.underlying4 _))⟩

theorem g0 : Try.prog.funcNamed Rows.fnExactValidChainRow.func = some 6 := by kernel_rfl
theorem g1 : Rows.fnExactValidChainRow.inPlace = Try.prog.inPlace 6 := by kernel_rfl
theorem g2 : Rows.fnExactValidChainRow.unfollowed = Try.prog.unfollowed 6 := by kernel_rfl
theorem g3 : Rows.fnExactValidChainRow.recurses = Try.prog.recurses 6 := by kernel_rfl
theorem g4 : Rows.fnExactValidChainRow.named = Try.prog.varsNamed 6 := by kernel_rfl
theorem g5 : Rows.fnExactValidChainRow.wf (OpenSpec.ofChange Rows.fnExactValidChainSpec) = true := by kernel_rfl
theorem g6 : (Try.f6.params.all (Try.prog.readableRec ·)) = true := by kernel_rfl
theorem g7 : Rows.fnExactValidChainRow.veiledFits Try.prog Try.f6.params.toList (Try.f6.params.toList ++ Try.f6.resultTypes.toList) = true := by kernel_rfl
theorem g8 : joinedFacts Try.prog 6 Try.f6 Rows.fnExactValidChainSpec Rows.fnExactValidChainRow = true :=
  gen_facts _ _ _ _ rfl rfl cl_laid cl_maps cl_stops cl_knobs cl_heard cl_enter cl_lifts cl_make g5 g6 rfl rfl rfl g1 g2 g3 g4
    (by as_aux_lemma => kernel_rfl) (by as_aux_lemma => kernel_rfl) (by as_aux_lemma => kernel_rfl) (by as_aux_lemma => kernel_rfl) (by as_aux_lemma => kernel_rfl) (by as_aux_lemma => kernel_rfl) (by as_aux_lemma => kernel_rfl) (by as_aux_lemma => kernel_rfl)
    cl_keys.symm rfl rfl rfl rfl rfl (by as_aux_lemma => kernel_rfl) (by as_aux_lemma => kernel_rfl) g7
theorem g9 : Try.f6.isInstance Try.prog Rows.fnExactValidChainRow.origin Rows.fnExactValidChainRow.targs := of_decide_eq_true (by kernel_rfl)
theorem g10 : Try.f6.isWrapper Try.prog Rows.fnExactValidChainRow.wrapper Rows.fnExactValidChainRow.mainSum := by
  unfold Func.isWrapper; first | (rw [if_pos (by decide +kernel)]; kernel_rfl) | (rw [if_neg (by decide +kernel)]; exact ⟨rfl, rfl⟩)
theorem over : Rows.fnExactValidChainRow.holds Try.pinned (OpenSpec.ofChange Rows.fnExactValidChainSpec) :=
  OpenClaim.holds_of_wide 6 Try.f6 rfl rfl rfl rfl rfl rfl rfl ⟨rfl, rfl, rfl, rfl, rfl⟩ rfl rfl rfl rfl rfl g0 Try.func6 g8 g9 g10 (fun os started H enc _ => lifted os started H enc)
theorem proved : Rows.FnExactValidChainSaid := over
end Go.Proofs.Ytddaodjaeommlaa.lawValidChain
