/-
  impl.DrawnTail returns what spec.DrawnTail returns, for every seed, two lists and number of times (the law FnExactDrawnTail returns true), and leaves its arguments as they were. No condition.
-/
import Derived.Test.YtfkjnaaplhcheaaDt4
import Derived.Test.YtfkjnaaplhcheaaToi
import Derived.Test.YtfkjnaaplhcheaaTos
import Derived.Test.YtfkjnaaplhcheaaOpen
import Derived.Test.YtfkjnaaplhcheaaOut
namespace Go.Proofs.Ytfkjnaaplhcheaa.lawDrawnTail
open Go.ChangeShapes Go.WideShapes Go.ChangeAt Go.RowKit

theorem both (k0 a0 b0 : Int) (xs1 xs2 : List Int) (x3 : Int) (bd0 : (-9223372036854775808 ≤ k0 ∧ k0 ≤ 9223372036854775807) ∧ (0 ≤ a0 ∧ a0 < 18446744073709551616) ∧ (0 ≤ b0 ∧ b0 < 18446744073709551616)) (hx1 : xs1.length ≤ 1048576) (hx2 : xs2.length ≤ 1048576) : ∃ (rk ra rb ri : Int) (ok : Bool),
    (∀ A c B d w, Rd w w.heap.size A (il xs1) → Rd w w.heap.size B (il xs2) → Calls Try.prog 34 #[.agg #[.int .i64 k0, .int .u64 a0, .int .u64 b0], .slice A xs1.length c, .slice B xs2.length d, .int .i64 x3] w (fun e w' => e = .returned (.tuple #[.agg #[.int .i64 rk, .int .u64 ra, .int .u64 rb], .int .i64 ri, .bool ok]) ∧ Below w.heap.size w w')) ∧
    (∀ A c B d w, Rd w w.heap.size A (il xs1) → Rd w w.heap.size B (il xs2) → Calls Try.prog 17 #[.agg #[.int .i64 k0, .int .u64 a0, .int .u64 b0], .slice A xs1.length c, .slice B xs2.length d, .int .i64 x3] w (fun e w' => e = .returned (.tuple #[.agg #[.int .i64 rk, .int .u64 ra, .int .u64 rb], .int .i64 ri, .bool ok]) ∧ Below w.heap.size w w')) := by
  cases h : (seedB k0 a0 b0 && (sampsB xs1 xs2 && inB x3 0 1000)) with
  | false => exact ⟨0, 0, 0, 0, false, fun A c B d w hA hB => sDrawnTail_bad k0 a0 b0 A B xs1 xs2 c d x3 w bd0.2.2 hx1 hx2 hA hB h, fun A c B d w hA hB => DrawnTail_bad k0 a0 b0 A B xs1 xs2 c d x3 w bd0.2.2 hx1 hx2 hA hB h⟩
  | true =>
    rw [Bool.and_eq_true, Bool.and_eq_true] at h
    have hr : 0 ≤ x3 ∧ x3 ≤ 1000 := inB_of h.2.2
    obtain ⟨T, rfl⟩ := Int.eq_ofNat_of_zero_le hr.1
    exact ⟨_, _, _, _, true, fun A c B d w hA hB => sDrawnTail_ok k0 a0 b0 A B xs1 xs2 c d T w ⟨h.1, bd0.2.1, bd0.2.2⟩ hx1 hx2 hA hB h.2.1 (by omega), fun A c B d w hA hB => DrawnTail_ok k0 a0 b0 A B xs1 xs2 c d T w ⟨h.1, bd0.2.1, bd0.2.2⟩ hx1 hx2 hA hB h.2.1 (by omega)⟩

set_option maxRecDepth 100000 in
set_option maxHeartbeats 12800000 in
theorem walk (k0 a0 b0 : Int) (A1 : Option Addr) (xs1 : List Int) (c1 : Nat) (A2 : Option Addr) (xs2 : List Int) (c2 : Nat) (x3 : Int) (w : World) (bd0 : (-9223372036854775808 ≤ k0 ∧ k0 ≤ 9223372036854775807) ∧ (0 ≤ a0 ∧ a0 < 18446744073709551616) ∧ (0 ≤ b0 ∧ b0 < 18446744073709551616))
    (h1 : Rd w w.heap.size A1 (il xs1)) (hx1 : xs1.length ≤ 9223372036854775807) (bf1 : ∀ x ∈ xs1, -9223372036854775808 ≤ x ∧ x ≤ 9223372036854775807) (h2 : Rd w w.heap.size A2 (il xs2)) (hx2 : xs2.length ≤ 9223372036854775807) (bf2 : ∀ x ∈ xs2, -9223372036854775808 ≤ x ∧ x ≤ 9223372036854775807) (bd3 : -9223372036854775808 ≤ x3 ∧ x3 ≤ 9223372036854775807) :
    Calls Try.prog 5 #[.agg #[.int .i64 k0, .int .u64 a0, .int .u64 b0], .slice A1 xs1.length c1, .slice A2 xs2.length c2, .int .i64 x3] w fun e w' => e = .returned (.bool true) ∧ Below w.heap.size w w' := by
  by_cases hq0 : 1048576 < xs1.length
  · clear bf1 bf2
    go_enter Try.func5, Try.ntmps5
    go_wp2
    go_ret
    exact ⟨rfl, below_al (Below.refl _ _) _⟩
  have hy1 : xs1.length ≤ 1048576 := by omega
  clear hq0
  by_cases hq1 : 1048576 < xs2.length
  · clear bf1 bf2
    go_enter Try.func5, Try.ntmps5
    go_wp2
    go_ret
    exact ⟨rfl, below_al (Below.refl _ _) _⟩
  have hy2 : xs2.length ≤ 1048576 := by omega
  clear hq1
  obtain ⟨rk, ra, rb, ri, ok, hS, hI⟩ := both k0 a0 b0 xs1 xs2 x3 bd0 hy1 hy2
  have HS := Lib.hid hS
  have HI := Lib.hid hI
  have H1 := Lib.hid h1
  have H2 := Lib.hid h2
  have HT0 := Lib.hid fun w => toSeed_any k0 a0 b0 w
  have HT1 := Lib.hid fun A c w h => toInt64S_any A xs1 c w hy1 h
  have HT2 := Lib.hid fun A c w h => toInt64S_any A xs2 c w hy2 h
  have HQ := Lib.hid fun w => eqSeed_yes rk ra rb w
  have HX1 := Lib.hid fun A B c d w hA hB => eqInt64S_yes A B xs1 c d w (by omega) hA hB
  have HX2 := Lib.hid fun A B c d w hA hB => eqInt64S_yes A B xs2 c d w (by omega) hA hB
  clear hS hI h1 h2 bf1 bf2 bd0 bd3 hx1 hx2
  go_enter Try.func5, Try.ntmps5
  go_wp2_with fail
  generalize hW1 : World.alloc w _ = W1
  have hx1 : SdAt W1 w.heap.size k0 a0 b0 := by rw [← hW1]; simp [SdAt, go_sem]
  have B1 : Hid (Below w.heap.size w W1) := by rw [← hW1]; exact Lib.hid (below_al (Below.refl _ _) _)
  clear hW1
  have X1 := Lib.hid hx1
  clear hx1
  refine (HT0.out W1).mono ?_
  rintro e W2 ⟨rfl, hb⟩
  have X2 := Lib.hid (X1.out.keep hb)
  have B2 := Lib.hid (below_next B1.out hb)
  clear hb
  go_wp2_with fail
  refine (HT1.out A1 c1 W2 (H1.out.at_ B2.out)).mono ?_
  rintro e W3 ⟨P1, rfl, ho, hb⟩
  have X3 := Lib.hid (X2.out.keep hb)
  have B3 := Lib.hid (below_next B2.out hb)
  have R3 := Lib.hid (Rd.of_own ho)
  clear hb ho
  go_wp2_with fail
  refine (HT2.out A2 c2 W3 (H2.out.at_ B3.out)).mono ?_
  rintro e W4 ⟨P2, rfl, ho, hb⟩
  have X4 := Lib.hid (X3.out.keep hb)
  have B4 := Lib.hid (below_next B3.out hb)
  have R4 := Lib.hid (R3.out.at_ hb)
  have R4' := Lib.hid (Rd.of_own ho)
  clear hb ho
  go_wp2_with fail
  refine (HS.out P1 _ P2 _ W4 R4.out R4'.out).mono ?_
  rintro e W5 ⟨rfl, hb⟩
  have X5 := Lib.hid (X4.out.keep hb)
  have B5 := Lib.hid (below_next B4.out hb)
  clear hb
  go_wp2_with fail
  generalize hW6 : World.alloc W5 _ = W6
  have hy6 : SdAt W6 W5.heap.size rk ra rb := by rw [← hW6]; simp [SdAt, go_sem]
  have h56 : Below W5.heap.size W5 W6 := by rw [← hW6]; exact below_al (Below.refl _ _) _
  have X6 := Lib.hid (X5.out.keep h56)
  have B6 := Lib.hid (below_next B5.out h56)
  have Y6 := Lib.hid hy6
  clear hW6 hy6 h56
  refine (HT1.out A1 c1 W6 (H1.out.at_ B6.out)).mono ?_
  rintro e W7 ⟨Q1, rfl, ho, hb⟩
  have X7 := Lib.hid (X6.out.keep hb)
  have Y7 := Lib.hid (Y6.out.keep hb)
  have B7 := Lib.hid (below_next B6.out hb)
  have S7 := Lib.hid (Rd.of_own ho)
  clear hb ho
  go_wp2_with fail
  refine (HT2.out A2 c2 W7 (H2.out.at_ B7.out)).mono ?_
  rintro e W8 ⟨Q2, rfl, ho, hb⟩
  have hx8 := X7.out.keep hb
  have X8 := Lib.hid hx8
  have Y8 := Lib.hid (Y7.out.keep hb)
  have B8 := Lib.hid (below_next B7.out hb)
  have S8 := Lib.hid (S7.out.at_ hb)
  have S8' := Lib.hid (Rd.of_own ho)
  clear hb ho
  obtain ⟨s0, s1, s2, sf⟩ := hx8
  go_wp2_with fail
  refine (HT0.out W8).mono ?_
  rintro e W9 ⟨rfl, hb⟩
  have Y9 := Lib.hid (Y8.out.keep hb)
  have B9 := Lib.hid (below_next B8.out hb)
  have S9 := Lib.hid (S8.out.at_ hb)
  have S9' := Lib.hid (S8'.out.at_ hb)
  clear hb s0 s1 s2 sf
  go_wp2_with fail
  refine (HI.out Q1 _ Q2 _ W9 S9.out S9'.out).mono ?_
  rintro e W10 ⟨rfl, hb⟩
  have hy10 := Y9.out.keep hb
  have Y10 := Lib.hid hy10
  have B10 := Lib.hid (below_next B9.out hb)
  have S10 := Lib.hid (S9.out.at_ hb)
  have S10' := Lib.hid (S9'.out.at_ hb)
  clear hb
  obtain ⟨y0, y1, y2, yf⟩ := hy10
  have hlt5 : W5.heap.size < W10.heap.size := lt_of_cell (a := ⟨W5.heap.size, 0, none⟩) y0
  go_wp2_with fail
  generalize hW11 : World.alloc W10 _ = W11
  have h1011 : Below W10.heap.size W10 W11 := by rw [← hW11]; exact below_al (Below.refl _ _) _
  have B11 := Lib.hid (below_next B10.out h1011)
  have S11 := Lib.hid (S10.out.at_ h1011)
  have S11' := Lib.hid (S10'.out.at_ h1011)
  clear hW11 h1011 y0 y1 y2 yf hlt5
  refine (HQ.out W11).mono ?_
  rintro e W12 ⟨rfl, hb⟩
  have B12 := Lib.hid (below_next B11.out hb)
  have S12 := Lib.hid (S11.out.at_ hb)
  have S12' := Lib.hid (S11'.out.at_ hb)
  clear hb
  go_wp2_with fail
  refine (HT1.out A1 c1 W12 (H1.out.at_ B12.out)).mono ?_
  rintro e W13 ⟨P3, rfl, ho, hb⟩
  have B13 := Lib.hid (below_next B12.out hb)
  have S13 := Lib.hid (S12.out.at_ hb)
  have S13' := Lib.hid (S12'.out.at_ hb)
  have R13 := Lib.hid (Rd.of_own ho)
  clear hb ho
  go_wp2_with fail
  refine (HX1.out Q1 P3 _ _ W13 S13.out R13.out).mono ?_
  rintro e w14 ⟨rfl, m14, rfl⟩
  have B14 := Lib.hid (below_dn B13.out m14)
  have S14' : Hid (Rd (W13.drewN m14) (W13.drewN m14).heap.size Q2 (il xs2)) := Lib.hid (S13'.out.at_ (below_dn (Below.refl _ _) m14))
  generalize W13.drewN m14 = W14 at *
  go_wp2_with fail
  refine (HT2.out A2 c2 W14 (H2.out.at_ B14.out)).mono ?_
  rintro e W15 ⟨P4, rfl, ho, hb⟩
  have B15 := Lib.hid (below_next B14.out hb)
  have S15' := Lib.hid (S14'.out.at_ hb)
  have R15 := Lib.hid (Rd.of_own ho)
  clear hb ho
  go_wp2_with fail
  refine (HX2.out Q2 P4 _ _ W15 S15'.out R15.out).mono ?_
  rintro e w16 ⟨rfl, m16, rfl⟩
  have B16 := Lib.hid (below_dn B15.out m16)
  generalize W15.drewN m16 = W16 at *
  go_wp2_with fail
  go_ret
  exact ⟨rfl, B16.out⟩

set_option maxRecDepth 100000 in
set_option maxHeartbeats 3200000 in
theorem lifted (os : Os) (started : os.Started) (H : Type) (enc : TypeId × Value → H) :
    ReturnsInHanded {} Try.checked os 5 .any (Rows.fnExactDrawnTailSpec.pre6 enc Try.prog Try.f5 Rows.fnExactDrawnTailRow.domain false) (Rows.fnExactDrawnTailSpec.post enc Try.prog Try.f5 false true false false) := by
  refine returnsInHanded_of_change (C := Try.checked) own started (by kernel_rfl) Try.func5
    (ChangeSpec.witness6 (enc := enc) (C := Try.checked) false ⟨#[], #[.agg #[.int .i64 0, .int .u64 0, .int .u64 0], .slice none 0 0, .slice none 0 0, .int .i64 0], []⟩ 8 (by kernel_rfl) (by kernel_rfl) (by kernel_rfl) (by kernel_rfl)) ?_
  intro W base args ds gs before hval0 hW hcnd _
  have hval : ∀ (j : Nat) t v, Try.f5.params[j]? = some t → args[j]? = some v → Value.okWide Try.prog W .any base t v := hval0
  have hW' := hW
  have hlt : ∀ p ∈ before, p.block < W.heap.size := fun p hp => hW.lt p hp
  obtain ⟨p, q, hA0, hV, rfl, hfz, hnd⟩ := hW
  have hA : DataW.TrodAll enc Try.prog W 0 (fun _ => true) true Try.f5.params.toList args.toList ds p := hA0
  rw [Try.params5] at hA hval
  have hA1 := hA
  obtain ⟨v0, vs0, d0, ds0, p0, q0, hargs, rfl, rfl, h0, r0⟩ := trodAll_cons hA
  obtain ⟨v1, vs1, d1, ds1, p1, q1, rfl, rfl, rfl, h1, r1⟩ := trodAll_cons r0
  obtain ⟨v2, vs2, d2, ds2, p2, q2, rfl, rfl, rfl, h2, r2⟩ := trodAll_cons r1
  obtain ⟨v3, vs3, d3, ds3, p3, q3, rfl, rfl, rfl, h3, r3⟩ := trodAll_cons r2
  obtain ⟨rfl, rfl, rfl⟩ := trodAll_nil r3
  obtain rfl : args = #[v0, v1, v2, v3] := by cases args; simp_all
  obtain ⟨rfl, rfl⟩ := trodVars_none hV
  obtain ⟨k0, a0, b0, rfl, bd0⟩ := open_seed (hval 0 _ _ rfl rfl) h0
  obtain ⟨A1, xs1, c1, rfl, hx1, hr1, bf1⟩ := open_il h1 (okWide_slice Try.underlying25 (hval 1 _ _ rfl rfl))
  obtain ⟨A2, xs2, c2, rfl, hx2, hr2, bf2⟩ := open_il h2 (okWide_slice Try.underlying25 (hval 2 _ _ rfl rfl))
  obtain ⟨x3, rfl, -, -, wf3⟩ := open_int Try.underlying2 (hval 3 _ _ rfl rfl) h3
  have bd3 := int_bd wf3
  clear hA0 hval0
  refine (walk k0 a0 b0 A1 xs1 c1 A2 xs2 c2 x3 W bd0 hr1 hx1 bf1 hr2 hx2 bf2 bd3).mono fun e W' ⟨he, hb⟩ => ?_
  subst he
  rw [List.append_nil] at hW' hlt
  exact ⟨_, rfl, post_of_below (pa := _) (pv := []) hW' (fun _ _ _ => (trodAll_cons_mk (shut_bool Try.underlying4 _) trodAll_mk0))
    (fun sp hsp => trodAll_below cl_laid hb _ _ _ _ (by kernel_rfl) hA1 hlt hsp) (fun _ _ => rfl) (List.append_nil _).symm hb (ok_one (by kernel_rfl) rfl (okWide_bool_mk Try.underlying4 _))⟩

theorem g0 : Try.prog.funcNamed Rows.fnExactDrawnTailRow.func = some 5 := by kernel_rfl
theorem g1 : Rows.fnExactDrawnTailRow.inPlace = Try.prog.inPlace 5 := by kernel_rfl
theorem g2 : Rows.fnExactDrawnTailRow.unfollowed = Try.prog.unfollowed 5 := by kernel_rfl
theorem g3 : Rows.fnExactDrawnTailRow.recurses = Try.prog.recurses 5 := by kernel_rfl
theorem g4 : Rows.fnExactDrawnTailRow.named = Try.prog.varsNamed 5 := by kernel_rfl
theorem g5 : Rows.fnExactDrawnTailRow.wf (OpenSpec.ofChange Rows.fnExactDrawnTailSpec) = true := by kernel_rfl
theorem g6 : (Try.f5.params.all (Try.prog.readableRec ·)) = true := by kernel_rfl
theorem g7 : Rows.fnExactDrawnTailRow.veiledFits Try.prog Try.f5.params.toList (Try.f5.params.toList ++ Try.f5.resultTypes.toList) = true := by kernel_rfl
theorem g8 : joinedFacts Try.prog 5 Try.f5 Rows.fnExactDrawnTailSpec Rows.fnExactDrawnTailRow = true :=
  gen_facts _ _ _ _ rfl rfl cl_laid cl_maps cl_stops cl_knobs cl_heard cl_enter cl_lifts cl_make g5 g6 rfl rfl rfl g1 g2 g3 g4
    (by as_aux_lemma => kernel_rfl) (by as_aux_lemma => kernel_rfl) (by as_aux_lemma => kernel_rfl) (by as_aux_lemma => kernel_rfl) (by as_aux_lemma => kernel_rfl) (by as_aux_lemma => kernel_rfl) (by as_aux_lemma => kernel_rfl) (by as_aux_lemma => kernel_rfl)
    cl_keys.symm rfl rfl rfl rfl rfl (by as_aux_lemma => kernel_rfl) (by as_aux_lemma => kernel_rfl) g7
theorem g9 : Try.f5.isInstance Try.prog Rows.fnExactDrawnTailRow.origin Rows.fnExactDrawnTailRow.targs := of_decide_eq_true (by kernel_rfl)
theorem g10 : Try.f5.isWrapper Try.prog Rows.fnExactDrawnTailRow.wrapper Rows.fnExactDrawnTailRow.mainSum := by
  unfold Func.isWrapper; first | (rw [if_pos (by decide +kernel)]; kernel_rfl) | (rw [if_neg (by decide +kernel)]; exact ⟨rfl, rfl⟩)
theorem over : Rows.fnExactDrawnTailRow.holds Try.pinned (OpenSpec.ofChange Rows.fnExactDrawnTailSpec) :=
  OpenClaim.holds_of_wide 5 Try.f5 rfl rfl rfl rfl rfl rfl rfl ⟨rfl, rfl, rfl, rfl, rfl⟩ rfl rfl rfl rfl rfl g0 Try.func5 g8 g9 g10 (fun os started H enc _ => lifted os started H enc)
theorem proved : Rows.FnExactDrawnTailSaid := over
end Go.Proofs.Ytfkjnaaplhcheaa.lawDrawnTail
