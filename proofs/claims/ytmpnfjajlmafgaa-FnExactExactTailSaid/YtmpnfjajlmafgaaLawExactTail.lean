/-
  impl.ExactTail returns what spec.ExactTail returns, for every table (the law FnExactExactTail returns true), and leaves it as it was. No condition.
-/
import Derived.Test.YtmpnfjajlmafgaaTl
import Derived.Test.YtmpnfjajlmafgaaGj
import Derived.Test.YtmpnfjajlmafgaaGf
import Derived.Test.YtmpnfjajlmafgaaGk
import Derived.Deep.RegionHeld3
import Derived.Deep.DeepCutAuto
namespace Go.Proofs.Ytmpnfjajlmafgaa.lawExactTail
open Go.ChangeShapes Go.WideShapes Go.ChangeAt Go.RowKit

theorem hk2 : ∀ C own cs r0 r1, cs.length = C → C ≤ 4 → (∀ i : Nat, cs[i]! ≤ 60) → r0 ≤ 60 → r1 ≤ 60 → WalkOk 2 C own [r0, r1] cs (wlk2 own cs r0 r1 1) := fun C own cs r0 r1 hl hC hb h0 h1 b1 b2 W hr hc =>
  l06Walk2_any own C C cs hC hl hb C 0 (by omega) 1 b1 2 b2 r0 r1 W h0 h1 (hr 0 (by omega)) (hr 1 (by omega)) hc
theorem hk3 : ∀ C own cs r0 r1 r2, cs.length = C → C ≤ 4 → (∀ i : Nat, cs[i]! ≤ 60) → r0 ≤ 60 → r1 ≤ 60 → r2 ≤ 60 → WalkOk 3 C own [r0, r1, r2] cs (wlk3 own cs r0 r1 r2 1) := fun C own cs r0 r1 r2 hl hC hb h0 h1 h2 b1 b2 W hr hc =>
  l06Walk3_any own C C cs hC hl hb C 0 (by omega) 1 b1 3 b2 r0 r1 r2 W h0 h1 h2 (hr 0 (by omega)) (hr 1 (by omega)) (hr 2 (by omega)) hc
theorem both (r l : Int) (ds : List Int) (hx : ds.length ≤ 9223372036854775807) : ∃ (ri : Int) (rj : Int) (ok : Bool), (∀ A c w, Rd w w.heap.size A (il ds) → Calls Try.prog 16 #[tbV r l A ds.length c] w (tlOut ri rj ok w)) ∧
    (∀ A w, Rd w w.heap.size A (il ds) → Calls Try.prog 17 #[tbV r l A ds.length ds.length] w (tlOut ri rj ok w)) := alike_all hk2 hk3 r l ds hx
set_option maxRecDepth 100000 in
set_option maxHeartbeats 3200000 in
theorem walk (r l : Int) (A : Option Addr) (ds : List Int) (c : Nat) (w : World) (hx : ds.length ≤ 9223372036854775807) (h : Rd w w.heap.size A (il ds)) :
    Calls Try.prog 5 #[tbV r l A ds.length c] w (fun e w' => e = .returned (.bool true) ∧ Below w.heap.size w w') := by
  have HZ := Lib.hid fun w => szTable_any r l A ds.length c 1048576 w hx (by omega) (by omega)
  by_cases hz : lessL 1048576 ds.length < 0
  · generalize lessL 1048576 ds.length = z at *
    unfold tbV at *
    go_enter Try.func5, Try.ntmps5
    go_wp2_with fail
    refine (HZ.out _).mono ?_
    rintro e w1 ⟨rfl, hb1⟩
    have B1 := Lib.hid (below_next (below_al (Below.refl _ _) _) hb1)
    clear hb1
    go_wp2_with fail
    go_ret
    exact ⟨rfl, B1.out⟩
  have hd := tab_no hz
  generalize lessL 1048576 ds.length = z at *
  obtain ⟨ri, rj, ok, HS0, HI0⟩ := both r l ds hx
  have HS := Lib.hid HS0
  have HI := Lib.hid HI0
  clear HS0 HI0
  have HT := Lib.hid fun w h => toTable_any r l A ds c w hd h
  have HE := Lib.hid fun A B c d w hA hB => eqTable_yes r l A B ds c d w (by omega) hA hB
  have HH := Lib.hid h
  unfold tlOut at HS HI
  unfold tbV at *
  clear h
  go_enter Try.func5, Try.ntmps5
  go_wp2_with fail
  generalize hW1 : World.alloc w _ = W1
  have B1 : Below w.heap.size w W1 := by rw [← hW1]; exact below_al (Below.refl _ _) _
  have k1 : TbAt W1 w.heap.size r l A ds.length c := by rw [← hW1]; simp [TbAt, go_sem]
  clear hW1
  refine (HZ.out _).mono ?_
  rintro e w2 ⟨rfl, hb2⟩
  have K2 := Lib.hid (k1.keep hb2)
  have B2 := Lib.hid (below_next B1 hb2)
  clear hb2 k1 B1
  obtain ⟨c0, c1, c2⟩ := K2.out
  go_wp2_with fail
  refine (HT.out _ (HH.out.at_ B2.out)).mono ?_
  rintro e w3 ⟨A3, rfl, ho3, hb3⟩
  have K3 := Lib.hid (K2.out.keep hb3)
  have B3 := Lib.hid (below_next B2.out hb3)
  have O3 := Lib.hid (Rd.of_own ho3)
  clear ho3 hb3 c0 c1 c2 K2 B2
  go_wp2_with fail
  refine (HS.out _ _ _ O3.out).mono ?_
  rintro e w4 ⟨rfl, hb4⟩
  have K4 := Lib.hid (K3.out.keep hb4)
  have B4 := Lib.hid (below_next B3.out hb4)
  clear hb4 K3 B3 O3
  obtain ⟨c0, c1, c2⟩ := K4.out
  go_wp2_with fail
  refine (HT.out _ (HH.out.at_ B4.out)).mono ?_
  rintro e w5 ⟨A5, rfl, ho5, hb5⟩
  have K5 := Lib.hid (K4.out.keep hb5)
  have B5 := Lib.hid (below_next B4.out hb5)
  have O5 := Lib.hid ho5
  clear ho5 hb5 c0 c1 c2 K4 B4
  go_wp2_with fail
  generalize hW6 : World.alloc w5 _ = W6
  have b56 : Below w5.heap.size w5 W6 := by rw [← hW6]; exact below_al (Below.refl _ _) _
  have X6 : TbAt W6 w5.heap.size r l A5 ds.length ds.length := by rw [← hW6]; simp [TbAt, go_sem]
  have K6 := Lib.hid (K5.out.keep b56)
  have B6 := Lib.hid (below_next B5.out b56)
  have O6 := Lib.hid (Rd.of_own (own_below O5.out b56))
  clear hW6 b56 K5 B5 O5
  refine (HI.out _ _ O6.out).mono ?_
  rintro e w7 ⟨rfl, hb7⟩
  have X7 := Lib.hid (X6.keep hb7)
  have K7 := Lib.hid (K6.out.keep hb7)
  have B7 := Lib.hid (below_next B6.out hb7)
  have O7 := Lib.hid (O6.out.at_ hb7)
  clear hb7 X6 K6 B6 O6
  obtain ⟨c0, c1, c2⟩ := K7.out
  obtain ⟨x0, x1, x2⟩ := X7.out
  have HM : Hid (∀ W, Below w7.heap.size w7 W → W.cell? ⟨w.heap.size, 0, none⟩ = some (.int .i64 r) ∧ W.cell? ⟨w.heap.size, 1, none⟩ = some (.int .i64 l) ∧ W.cell? ⟨w.heap.size, 2, none⟩ = some (.slice A ds.length c) ∧ W.cell? ⟨w5.heap.size, 0, none⟩ = some (.int .i64 r) ∧ W.cell? ⟨w5.heap.size, 1, none⟩ = some (.int .i64 l) ∧ W.cell? ⟨w5.heap.size, 2, none⟩ = some (.slice A5 ds.length ds.length)) := Lib.hid fun W hW => by
    obtain ⟨a0, a1, a2⟩ := K7.out.keep hW
    obtain ⟨b0, b1, b2⟩ := X7.out.keep hW
    exact ⟨a0, a1, a2, b0, b1, b2⟩
  go_wp2_with fail
  go_region_held3 (fun W => W.cell? ⟨w.heap.size, 0, none⟩ = some (.int .i64 r) ∧ W.cell? ⟨w.heap.size, 1, none⟩ = some (.int .i64 l) ∧ W.cell? ⟨w.heap.size, 2, none⟩ = some (.slice A ds.length c) ∧ W.cell? ⟨w5.heap.size, 0, none⟩ = some (.int .i64 r) ∧ W.cell? ⟨w5.heap.size, 1, none⟩ = some (.int .i64 l) ∧ W.cell? ⟨w5.heap.size, 2, none⟩ = some (.slice A5 ds.length ds.length))
    (first | exact HM.out _ (Below.refl _ _) | exact HM.out _ (below_dr (Below.refl _ _)) | exact HM.out _ bk8 | exact HM.out _ bk9)
    (first
      | (go_at_call 11; refine (HT.out _ (HH.out.at_ (below_dr B7.out))).mono ?_; rintro e w8 ⟨A8, rfl, ho8, hb8⟩; have bk8 : Below w7.heap.size w7 w8 := below_next (below_dr (Below.refl _ _)) hb8; have O8 := Lib.hid (Rd.of_own ho8); have O7' := Lib.hid (O7.out.at_ bk8); clear ho8 hb8)
      | (go_at_call 13; refine (HE.out _ _ _ _ _ O7'.out O8.out).mono ?_; rintro e w9 ⟨rfl, hb9⟩; have bk9 : Below w7.heap.size w7 w9 := below_next bk8 hb9; clear hb9))
  have B9 := Lib.hid (below_next B7.out bk9)
  clear bk8 bk9
  go_wp2_with fail
  go_ret
  exact ⟨rfl, B9.out⟩

set_option maxRecDepth 100000 in
set_option maxHeartbeats 3200000 in
theorem lifted (os : Os) (started : os.Started) (H : Type) (enc : TypeId × Value → H) :
    ReturnsInHanded {} Try.checked os 5 .any (Rows.fnExactExactTailSpec.pre6 enc Try.prog Try.f5 Rows.fnExactExactTailRow.domain false) (Rows.fnExactExactTailSpec.post enc Try.prog Try.f5 false true false false) := by
  refine returnsInHanded_of_change (C := Try.checked) own started (by kernel_rfl) Try.func5
    (ChangeSpec.witness6 (enc := enc) (C := Try.checked) false ⟨#[], #[.agg #[.int .i64 0, .int .i64 0, .slice none 0 0]], []⟩ 8 (by kernel_rfl) (by kernel_rfl) (by kernel_rfl) (by kernel_rfl)) ?_
  intro W base args ds gs before hval0 hW hcnd _
  have hval : ∀ (j : Nat) t v, Try.f5.params[j]? = some t → args[j]? = some v → Value.okWide Try.prog W .any base t v := hval0
  have hW' := hW
  have hlt : ∀ p ∈ before, p.block < W.heap.size := fun p hp => hW.lt p hp
  obtain ⟨p, q, hA0, hV, rfl, hfz, hnd⟩ := hW
  have hA : DataW.TrodAll enc Try.prog W 0 (fun _ => true) true Try.f5.params.toList args.toList ds p := hA0
  rw [Try.params5] at hA hval
  have hA1 := hA
  obtain ⟨v0, vs0, d0, ds0, p0, q0, hargs, rfl, rfl, h0, r0⟩ := trodAll_cons hA
  obtain ⟨rfl, rfl, rfl⟩ := trodAll_nil r0
  obtain rfl : args = #[v0] := by cases args; simp_all
  obtain ⟨rfl, rfl⟩ := trodVars_none hV
  obtain ⟨r0, l0, A0, xs0, c0, rfl, hx0, hr0⟩ := open_table (hval 0 _ _ rfl rfl) h0
  clear hA0 hval0
  refine (walk r0 l0 A0 xs0 c0 W hx0 hr0).mono fun e W' ⟨he, hb⟩ => ?_
  subst he
  rw [List.append_nil] at hW' hlt
  exact ⟨_, rfl, post_of_below (pa := _) (pv := []) hW' (fun _ _ _ => (trodAll_cons_mk (shut_bool Try.underlying4 _) trodAll_mk0))
    (fun sp hsp => trodAll_below cl_laid hb _ _ _ _ (by kernel_rfl) hA1 hlt hsp) (fun _ _ => rfl) (List.append_nil _).symm hb (ok_one (by kernel_rfl) rfl (okWide_bool_mk Try.underlying4 _))⟩

theorem g0 : Try.prog.funcNamed Rows.fnExactExactTailRow.func = some 5 := by kernel_rfl
theorem g1 : Rows.fnExactExactTailRow.inPlace = Try.prog.inPlace 5 := by kernel_rfl
theorem g2 : Rows.fnExactExactTailRow.unfollowed = Try.prog.unfollowed 5 := by kernel_rfl
theorem g3 : Rows.fnExactExactTailRow.recurses = Try.prog.recurses 5 := by kernel_rfl
theorem g4 : Rows.fnExactExactTailRow.named = Try.prog.varsNamed 5 := by kernel_rfl
theorem g5 : Rows.fnExactExactTailRow.wf (OpenSpec.ofChange Rows.fnExactExactTailSpec) = true := by kernel_rfl
theorem g6 : (Try.f5.params.all (Try.prog.readableRec ·)) = true := by kernel_rfl
theorem g7 : Rows.fnExactExactTailRow.veiledFits Try.prog Try.f5.params.toList (Try.f5.params.toList ++ Try.f5.resultTypes.toList) = true := by kernel_rfl
theorem g8 : joinedFacts Try.prog 5 Try.f5 Rows.fnExactExactTailSpec Rows.fnExactExactTailRow = true :=
  gen_facts _ _ _ _ rfl rfl cl_laid cl_maps cl_stops cl_knobs cl_heard cl_enter cl_lifts cl_make g5 g6 rfl rfl rfl g1 g2 g3 g4
    (by as_aux_lemma => kernel_rfl) (by as_aux_lemma => kernel_rfl) (by as_aux_lemma => kernel_rfl) (by as_aux_lemma => kernel_rfl) (by as_aux_lemma => kernel_rfl) (by as_aux_lemma => kernel_rfl) (by as_aux_lemma => kernel_rfl) (by as_aux_lemma => kernel_rfl)
    cl_keys.symm rfl rfl rfl rfl rfl (by as_aux_lemma => kernel_rfl) (by as_aux_lemma => kernel_rfl) g7
theorem g9 : Try.f5.isInstance Try.prog Rows.fnExactExactTailRow.origin Rows.fnExactExactTailRow.targs := of_decide_eq_true (by kernel_rfl)
theorem g10 : Try.f5.isWrapper Try.prog Rows.fnExactExactTailRow.wrapper Rows.fnExactExactTailRow.mainSum := by
  unfold Func.isWrapper; first | (rw [if_pos (by decide +kernel)]; kernel_rfl) | (rw [if_neg (by decide +kernel)]; exact ⟨rfl, rfl⟩)
theorem over : Rows.fnExactExactTailRow.holds Try.pinned (OpenSpec.ofChange Rows.fnExactExactTailSpec) :=
  OpenClaim.holds_of_wide 5 Try.f5 rfl rfl rfl rfl rfl rfl rfl ⟨rfl, rfl, rfl, rfl, rfl⟩ rfl rfl rfl rfl rfl g0 Try.func5 g8 g9 g10 (fun os started H enc _ => lifted os started H enc)
theorem proved : Rows.FnExactExactTailSaid := over
end Go.Proofs.Ytmpnfjajlmafgaa.lawExactTail
