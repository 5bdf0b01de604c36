/-
  impl.RingChain returns what spec.RingChain returns, for all numbers (the law FnExactRingChain returns true), in memory of its own. No condition.
-/
import Derived.Test.YtddaodjaeommlaaRin3
import Derived.Deep.RegionHeld3
namespace Go.Proofs.Ytddaodjaeommlaa.lawRingChain
open Go.ChangeShapes Go.WideShapes Go.ChangeAt Go.RowKit

theorem both (n : Int) (s r : Nat) : ∃ sd xs ok, xs.length ≤ 1048576 ∧ (∀ w, Calls Try.prog 37 #[.int .i64 n, .float .f32 s, .float .f32 r] w (chOut sd xs ok w)) ∧ (∀ w, Calls Try.prog 38 #[.int .i64 n, .float .f32 s, .float .f32 r] w (chOut sd xs ok w)) := by
  cases h : ringOk n s r with
  | false => exact ⟨0, [], false, by simp, fun w => specRingChain_bad n s r w h, fun w => RingChain_bad n s r w h⟩
  | true =>
    have h1 : 3 ≤ n ∧ n ≤ 12 := by
      unfold ringOk inB at h
      rw [Bool.and_eq_true] at h
      exact of_decide_eq_true h.1
    obtain ⟨m, rfl⟩ := Int.eq_ofNat_of_zero_le (show 0 ≤ n by omega)
    refine ⟨_, _, _, ?_, fun w => specRingChain_ok m s r w h, fun w => RingChain_ok m s r w h⟩
    unfold stepsOf
    have h2 : m * m ≤ 144 := Nat.mul_le_mul (show m ≤ 12 by omega) (show m ≤ 12 by omega)
    split
    · rw [tab_len]; omega
    · simp

set_option maxHeartbeats 3200000 in
theorem walk (n : Int) (s r : Nat) (w : World) (_bd : -9223372036854775808 ≤ n ∧ n ≤ 9223372036854775807) :
    Calls Try.prog 7 #[.int .i64 n, .float .f32 s, .float .f32 r] w fun e w' => e = .returned (.bool true) ∧ Below w.heap.size w w' := by
  obtain ⟨sd, xs, ok, hx, hs, hi⟩ := both n s r
  have HS := Lib.hid hs
  have HI := Lib.hid hi
  have HE := Lib.hid fun A B c d w hA hB => eqChain_yes sd A B xs xs c d w (by omega) (sameL_refl xs) hA hB
  have HM := Lib.hid fun A base c w hb ho => markChain_any sd A base xs.length (fl xs) c 1 w hx (by omega) (by omega) hb ho
  have HH := Lib.hid fun A c w hr => heldChain_any sd A xs.length c 1 w hx (by omega) (by omega) hr
  clear hs hi _bd
  go_enter Try.func7, Try.ntmps7
  go_wp2_with fail
  refine (HS.out _).mono ?_
  rintro e w1 ⟨A1, c1, rfl, hown1, hb1⟩
  have r1 := Rd.of_own hown1
  have HB1 := Lib.hid hb1
  clear hown1 hb1
  go_wp2_with fail
  refine (HI.out _).mono ?_
  rintro e w2 ⟨A2, c2, rfl, hown2, hb2⟩
  have p0 : w2.cell? ⟨w1.heap.size, 0, none⟩ = some (.int .i64 sd) := keepC hb2 (by simp)
  have p1 : w2.cell? ⟨w1.heap.size, 1, none⟩ = some (.slice A1 xs.length c1) := keepC hb2 (by simp)
  have B2 : Below w1.heap.size w1 w2 := Below.trans ((Below.refl _ _).alloc (Nat.le_refl _) _) (hb2.mono (by simp))
  have z2 : w1.heap.size < w2.heap.size := by have := hb2.size; simp at this; omega
  have own2 := own_base (base' := w1.heap.size + 1) hown2 (by simp)
  have ol : ∀ k, (Value.slice A2 xs.length c2).ownBlock = some k → w1.heap.size + 1 ≤ k ∧ k < w2.heap.size := own2.lt
  have OWN2 := Lib.hid own2
  have OL := Lib.hid ol
  have HB2 := Lib.hid B2
  clear hown2 hb2 own2 ol B2
  go_wp2_with fail
  have B3 : Below w1.heap.size w1 (w2.alloc (.cells #[.int .i64 sd, .slice A2 xs.length c2] 30)) := HB2.out.alloc HB2.out.size _
  refine (HE.out A2 A1 c2 c1 _ ((Rd.of_own OWN2.out).at_ ((Below.refl _ _).alloc (Nat.le_refl _) _)) ((r1.below B3).more B3.size)).mono ?_
  rintro e w4 ⟨rfl, hb4⟩
  have q0 : w4.cell? ⟨w1.heap.size, 0, none⟩ = some (.int .i64 sd) := keepC hb4 (keepC ((Below.refl _ _).alloc (Nat.le_refl _) _) p0)
  have q1 : w4.cell? ⟨w1.heap.size, 1, none⟩ = some (.slice A1 xs.length c1) := keepC hb4 (keepC ((Below.refl _ _).alloc (Nat.le_refl _) _) p1)
  have q2 : w4.cell? ⟨w2.heap.size, 0, none⟩ = some (.int .i64 sd) := keepC hb4 (by simp)
  have q3 : w4.cell? ⟨w2.heap.size, 1, none⟩ = some (.slice A2 xs.length c2) := keepC hb4 (by simp)
  have z4 : w2.heap.size < w4.heap.size := by have := hb4.size; simp at this; omega
  have OWN4 := Lib.hid (own_below (OWN2.out.alloc _) hb4)
  have HB4 := Lib.hid (B3.trans (hb4.mono (by simp; omega)))
  clear hb4 B3 p0 p1 OWN2
  go_wp2_with fail
  refine (HM.out A2 _ c2 w4 (by omega) OWN4.out).mono ?_
  rintro e w5 ⟨rfl, hown5, hg5⟩
  have n1 : some w1.heap.size ≠ (Value.slice A2 xs.length c2).ownBlock := fun h => by have := (OL.out _ h.symm).1; omega
  have n2 : some w2.heap.size ≠ (Value.slice A2 xs.length c2).ownBlock := fun h => by have := (OL.out _ h.symm).2; omega
  have p0 := hg5.cell q0 n1
  have p1 := hg5.cell q1 n1
  have p2 := hg5.cell q2 n2
  have p3 := hg5.cell q3 n2
  have HB5 := Lib.hid (HB4.out.grown hg5 HB4.out.size (fun k hk => by have := (OL.out k hk).1; omega))
  have OWN5 := Lib.hid hown5
  have z5 : w2.heap.size < w5.heap.size := by have := hg5.size; omega
  clear q0 q1 q2 q3 n1 n2 hg5 hown5 OWN4
  go_wp2_with fail
  refine (HH.out A2 c2 w5 (Rd.of_own OWN5.out)).mono ?_
  rintro e w6 ⟨rfl, hb6⟩
  have q0 := keepC hb6 p0
  have q1 := keepC hb6 p1
  have q2 := keepC hb6 p2
  have q3 := keepC hb6 p3
  have OWN6 := Lib.hid (own_below OWN5.out hb6)
  have HB6 := Lib.hid (HB5.out.trans (hb6.mono (by omega)))
  have z6 : w2.heap.size < w6.heap.size := by have := hb6.size; omega
  clear p0 p1 p2 p3 hb6 OWN5
  go_wp2_with fail
  refine (HI.out _).mono ?_
  rintro e w7 ⟨A3, c3, rfl, hown7, hb7⟩
  have p0 := keepC hb7 q0
  have p1 := keepC hb7 q1
  have p2 := keepC hb7 q2
  have p3 := keepC hb7 q3
  have OWN7 := Lib.hid (own_below OWN6.out hb7)
  have HB7 := Lib.hid (HB6.out.trans (hb7.mono (by omega)))
  have z7 : w2.heap.size < w7.heap.size := by have := hb7.size; omega
  have y7 : w1.heap.size < w7.heap.size := by omega
  have R7 := Rd.of_own hown7
  clear q0 q1 q2 q3 hb7 OWN6 hown7
  go_wp2_with fail
  have B8 : Below w1.heap.size w1 (w7.alloc (.cells #[.int .i64 sd, .slice A3 xs.length c3] 30)) := HB7.out.alloc HB7.out.size _
  refine (HE.out A3 A1 c3 c1 _ (R7.at_ ((Below.refl _ _).alloc (Nat.le_refl _) _)) ((r1.below B8).more B8.size)).mono ?_
  rintro e w8 ⟨rfl, hb8⟩
  have q2 : w8.cell? ⟨w2.heap.size, 0, none⟩ = some (.int .i64 sd) := keepC hb8 (keepC ((Below.refl _ _).alloc (Nat.le_refl _) _) p2)
  have q3 : w8.cell? ⟨w2.heap.size, 1, none⟩ = some (.slice A2 xs.length c2) := keepC hb8 (keepC ((Below.refl _ _).alloc (Nat.le_refl _) _) p3)
  have OWN8 := Lib.hid (own_below (OWN7.out.alloc _) hb8)
  have HB8 := Lib.hid (B8.trans (hb8.mono (by simp; omega)))
  clear hb8 B8 p0 p1 p2 p3 OWN7 R7
  go_wp2_with fail
  refine (HH.out A2 c2 w8 (Rd.of_own OWN8.out)).mono ?_
  rintro e w9 ⟨rfl, hb9⟩
  go_wp2_with fail
  go_ret
  exact ⟨rfl, (HB1.out.trans (HB8.out.mono HB1.out.size)).trans (hb9.mono (by have := HB8.out.size; have := HB1.out.size; omega))⟩

set_option maxRecDepth 100000 in
theorem lifted (os : Os) (started : os.Started) (H : Type) (enc : TypeId × Value → H) :
    ReturnsInHanded {} Try.checked os 7 .any (Rows.fnExactRingChainSpec.pre6 enc Try.prog Try.f7 Rows.fnExactRingChainRow.domain false) (Rows.fnExactRingChainSpec.post enc Try.prog Try.f7 false true false false) := by
  refine returnsInHanded_of_change (C := Try.checked) own started (by kernel_rfl) Try.func7
    (ChangeSpec.witness6 (enc := enc) (C := Try.checked) false ⟨#[], #[.int .i64 0, .float .f32 0, .float .f32 0], []⟩ 8 (by kernel_rfl) (by kernel_rfl) (by kernel_rfl) (by kernel_rfl)) ?_
  intro W base args ds gs before hval0 hW hcnd _
  have hval : ∀ (j : Nat) t v, Try.f7.params[j]? = some t → args[j]? = some v → Value.okWide Try.prog W .any base t v := hval0
  have hW' := hW
  have hlt : ∀ p ∈ before, p.block < W.heap.size := fun p hp => hW.lt p hp
  obtain ⟨p, q, hA0, hV, rfl, hfz, hnd⟩ := hW
  have hA : DataW.TrodAll enc Try.prog W 0 (fun _ => true) true Try.f7.params.toList args.toList ds p := hA0
  rw [Try.params7] at hA hval
  have hA1 := hA
  obtain ⟨v0, vs0, d0, ds0, p0, q0, hargs, rfl, rfl, h0, r0⟩ := trodAll_cons hA
  obtain ⟨v1, vs1, d1, ds1, p1, q1, rfl, rfl, rfl, h1, r1⟩ := trodAll_cons r0
  obtain ⟨v2, vs2, d2, ds2, p2, q2, rfl, rfl, rfl, h2, r2⟩ := trodAll_cons r1
  obtain ⟨rfl, rfl, rfl⟩ := trodAll_nil r2
  obtain rfl : args = #[v0, v1, v2] := by cases args; simp_all
  obtain ⟨rfl, rfl⟩ := trodVars_none hV
  obtain ⟨x0, rfl, -, -, wf0⟩ := open_int Try.underlying2 (hval 0 _ _ rfl rfl) h0
  have bd0 := int_bd wf0
  obtain ⟨x1, rfl, -, -, wf1⟩ := open_float Try.underlying33 (hval 1 _ _ rfl rfl) h1
  obtain ⟨x2, rfl, -, -, wf2⟩ := open_float Try.underlying33 (hval 2 _ _ rfl rfl) h2
  clear hA0 hval0
  refine (walk x0 x1 x2 W bd0).mono fun e W' ⟨he, hb⟩ => ?_
  subst he
  rw [List.append_nil] at hW' hlt
  exact ⟨_, rfl, post_of_below (pa := _) (pv := []) hW' (fun _ _ _ => (trodAll_cons_mk (shut_bool Try.underlying4 _) trodAll_mk0))
    (fun sp hsp => trodAll_below cl_laid hb _ _ _ _ (by kernel_rfl) hA1 hlt hsp) (fun _ _ => rfl) (List.append_nil _).symm hb (ok_one (by kernel_rfl) rfl (okWide_bool_mk Try.underlying4 _))⟩

theorem g0 : Try.prog.funcNamed Rows.fnExactRingChainRow.func = some 7 := by kernel_rfl
theorem g1 : Rows.fnExactRingChainRow.inPlace = Try.prog.inPlace 7 := by kernel_rfl
theorem g2 : Rows.fnExactRingChainRow.unfollowed = Try.prog.unfollowed 7 := by kernel_rfl
theorem g3 : Rows.fnExactRingChainRow.recurses = Try.prog.recurses 7 := by kernel_rfl
theorem g4 : Rows.fnExactRingChainRow.named = Try.prog.varsNamed 7 := by kernel_rfl
theorem g5 : Rows.fnExactRingChainRow.wf (OpenSpec.ofChange Rows.fnExactRingChainSpec) = true := by kernel_rfl
theorem g6 : (Try.f7.params.all (Try.prog.readableRec ·)) = true := by kernel_rfl
theorem g7 : Rows.fnExactRingChainRow.veiledFits Try.prog Try.f7.params.toList (Try.f7.params.toList ++ Try.f7.resultTypes.toList) = true := by kernel_rfl
theorem g8 : joinedFacts Try.prog 7 Try.f7 Rows.fnExactRingChainSpec Rows.fnExactRingChainRow = true :=
  gen_facts _ _ _ _ rfl rfl cl_laid cl_maps cl_stops cl_knobs cl_heard cl_enter cl_lifts cl_make g5 g6 rfl rfl rfl g1 g2 g3 g4
    (by as_aux_lemma => kernel_rfl) (by as_aux_lemma => kernel_rfl) (by as_aux_lemma => kernel_rfl) (by as_aux_lemma => kernel_rfl) (by as_aux_lemma => kernel_rfl) (by as_aux_lemma => kernel_rfl) (by as_aux_lemma => kernel_rfl) (by as_aux_lemma => kernel_rfl)
    cl_keys.symm rfl rfl rfl rfl rfl (by as_aux_lemma => kernel_rfl) (by as_aux_lemma => kernel_rfl) g7
theorem g9 : Try.f7.isInstance Try.prog Rows.fnExactRingChainRow.origin Rows.fnExactRingChainRow.targs := of_decide_eq_true (by kernel_rfl)
theorem g10 : Try.f7.isWrapper Try.prog Rows.fnExactRingChainRow.wrapper Rows.fnExactRingChainRow.mainSum := by
  unfold Func.isWrapper; first | (rw [if_pos (by decide +kernel)]; kernel_rfl) | (rw [if_neg (by decide +kernel)]; exact ⟨rfl, rfl⟩)
theorem over : Rows.fnExactRingChainRow.holds Try.pinned (OpenSpec.ofChange Rows.fnExactRingChainSpec) :=
  OpenClaim.holds_of_wide 7 Try.f7 rfl rfl rfl rfl rfl rfl rfl ⟨rfl, rfl, rfl, rfl, rfl⟩ rfl rfl rfl rfl rfl g0 Try.func7 g8 g9 g10 (fun os started H enc _ => lifted os started H enc)
theorem proved : Rows.FnExactRingChainSaid := over
end Go.Proofs.Ytddaodjaeommlaa.lawRingChain
