/-
  impl.RankTail returns what spec.RankTail returns, for every two lists (the law FnExactRankTail returns true), in memory of its own where it gives a slice, and leaves its arguments as they were. No condition.
-/
import Derived.Test.YtmpnfjajlmafgaaSt
import Derived.Test.YtmpnfjajlmafgaaToi
import Derived.Test.YtmpnfjajlmafgaaOpen
import Derived.Test.YtmpnfjajlmafgaaOut
import Derived.Deep.RegionHeld3
import Derived.Deep.DeepCutAuto
namespace Go.Proofs.Ytmpnfjajlmafgaa.lawRankTail
open Go.ChangeShapes Go.WideShapes Go.ChangeAt Go.RowKit

theorem both (xs0 : List Int) (xs1 : List Int) (hx0 : xs0.length ≤ 1048576) (bf0 : ∀ x ∈ xs0, -9223372036854775808 ≤ x ∧ x ≤ 9223372036854775807) (hx1 : xs1.length ≤ 1048576) (bf1 : ∀ x ∈ xs1, -9223372036854775808 ≤ x ∧ x ≤ 9223372036854775807) : ∃ (ri : Int) (rj : Int) (ok : Bool), (∀ A50 c50 A51 c51 w, Rd w w.heap.size A50 (il xs0) → Rd w w.heap.size A51 (il xs1) → Calls Try.prog 18 #[.slice A50 xs0.length c50, .slice A51 xs1.length c51] w (fun e w' => e = .returned (.tuple #[.int .i64 ri, .int .i64 rj, .bool ok]) ∧ Below w.heap.size w w')) ∧
    (∀ A50 A51 w, Rd w w.heap.size A50 (il xs0) → Rd w w.heap.size A51 (il xs1) → Calls Try.prog 20 #[.slice A50 xs0.length xs0.length, .slice A51 xs1.length xs1.length] w (fun e w' => e = .returned (.tuple #[.int .i64 ri, .int .i64 rj, .bool ok]) ∧ Below w.heap.size w w')) := by
  have _uhx0 := hx0
  have _ubf0 := bf0
  have _uhx1 := hx1
  have _ubf1 := bf1
  cases h : sampsB xs0 xs1 with
  | false => exact ⟨0, 0, false, fun A c B d w hA hB => specRankTail_bad A B xs0 xs1 c d w hx0 hx1 hA hB h, fun A B w hA hB => RankTail_bad A B xs0 xs1 xs0.length xs1.length w hx0 hx1 hA hB h⟩
  | true => exact ⟨_, _, true, fun A c B d w hA hB => specRankTail_ok A B xs0 xs1 c d w hx0 hx1 hA hB h, fun A B w hA hB => RankTail_ok A B xs0 xs1 xs0.length xs1.length w hx0 hx1 hA hB h⟩

set_option maxRecDepth 100000 in
set_option maxHeartbeats 12800000 in
theorem walk (A0 : Option Addr) (xs0 : List Int) (c0 : Nat) (A1 : Option Addr) (xs1 : List Int) (c1 : Nat) (w : World) (h0 : Rd w w.heap.size A0 (il xs0))  (hx0 : xs0.length ≤ 9223372036854775807) (bf0 : ∀ x ∈ xs0, -9223372036854775808 ≤ x ∧ x ≤ 9223372036854775807) (h1 : Rd w w.heap.size A1 (il xs1))  (hx1 : xs1.length ≤ 9223372036854775807) (bf1 : ∀ x ∈ xs1, -9223372036854775808 ≤ x ∧ x ≤ 9223372036854775807) :
    Calls Try.prog 6 #[.slice A0 xs0.length c0, .slice A1 xs1.length c1] w fun e w' => e = .returned (.bool true) ∧ Below w.heap.size w w' := by
  by_cases hq0 : 1048576 < xs0.length
  · clear bf0 bf1
    go_enter Try.func6, Try.ntmps6
    go_wp2
    go_ret
    exact ⟨rfl, Below.refl _ _⟩
  have hy0 : xs0.length ≤ 1048576 := by omega
  clear hq0
  by_cases hq1 : 1048576 < xs1.length
  · clear bf0 bf1
    go_enter Try.func6, Try.ntmps6
    go_wp2
    go_ret
    exact ⟨rfl, Below.refl _ _⟩
  have hy1 : xs1.length ≤ 1048576 := by omega
  clear hq1
  obtain ⟨ri, rj, ok, HS0, HI0⟩ := both xs0 xs1 hy0 bf0 hy1 bf1
  have HS := Lib.hid HS0
  have HI := Lib.hid HI0
  clear HS0 HI0
  have HT0 := Lib.hid fun w h => toInt64S_any A0 xs0 c0 w hy0 h
  have HX0 := Lib.hid fun A B c d w hA hB => eqInt64S_yes A B xs0 c d w (by omega) hA hB
  have HT1 := Lib.hid fun w h => toInt64S_any A1 xs1 c1 w hy1 h
  have HX1 := Lib.hid fun A B c d w hA hB => eqInt64S_yes A B xs1 c d w (by omega) hA hB
  clear bf0 bf1
  have HBw : Hid (Below w.heap.size w w) := Lib.hid (Below.refl _ _)
  go_enter Try.func6, Try.ntmps6
  go_wp2_with fail
  refine (HT0.out _ (h0.at_ HBw.out)).mono ?_
  rintro e w1 ⟨A1, rfl, hownw1, hbw1⟩
  have OLtW0 : Hid (∀ k, (Value.slice A1 xs0.length xs0.length).ownBlock = some k → w.heap.size ≤ k ∧ k < w1.heap.size) := Lib.hid hownw1.lt
  have OWtW0w1 := Lib.hid hownw1
  have rw1 : w.heap.size ≤ w1.heap.size := hbw1.size
  have HBw1 : Hid (Below w.heap.size w w1) := Lib.hid (HBw.out.trans (hbw1.mono HBw.out.size))
  clear HBw hbw1 hownw1
  go_wp2_with fail
  refine (HT1.out _ (h1.at_ HBw1.out)).mono ?_
  rintro e w2 ⟨A2, rfl, hownw2, hbw2⟩
  have OLtW1 : Hid (∀ k, (Value.slice A2 xs1.length xs1.length).ownBlock = some k → w1.heap.size ≤ k ∧ k < w2.heap.size) := Lib.hid hownw2.lt
  have OWtW1w2 := Lib.hid hownw2
  have rw2 : w1.heap.size ≤ w2.heap.size := hbw2.size
  have OWtW0w2 := Lib.hid (own_below OWtW0w1.out hbw2)
  have HBw2 : Hid (Below w.heap.size w w2) := Lib.hid (HBw1.out.trans (hbw2.mono HBw1.out.size))
  clear OWtW0w1 HBw1 hbw2 hownw2
  go_wp2_with fail
  refine (HS.out A1 _ A2 _ _ (Rd.of_own OWtW0w2.out) (Rd.of_own OWtW1w2.out)).mono ?_
  rintro e w3 ⟨rfl, hbw3⟩
  have OWtW0w3 := Lib.hid (own_below OWtW0w2.out hbw3)
  have OWtW1w3 := Lib.hid (own_below OWtW1w2.out hbw3)
  have HBw3 : Hid (Below w.heap.size w w3) := Lib.hid (HBw2.out.trans (hbw3.mono HBw2.out.size))
  have zw3 : w2.heap.size ≤ w3.heap.size := by have := hbw3.size; omega
  clear OWtW0w2 OWtW1w2 HBw2 hbw3
  clear OWtW0w3 OLtW0
  clear OWtW1w3 OLtW1
  go_wp2_with fail
  refine (HT0.out _ (h0.at_ HBw3.out)).mono ?_
  rintro e w4 ⟨A4, rfl, hownw4, hbw4⟩
  have OLX0 : Hid (∀ k, (Value.slice A4 xs0.length xs0.length).ownBlock = some k → w3.heap.size ≤ k ∧ k < w4.heap.size) := Lib.hid hownw4.lt
  have OWX0w4 := Lib.hid hownw4
  have rw4 : w3.heap.size ≤ w4.heap.size := hbw4.size
  have HBw4 : Hid (Below w.heap.size w w4) := Lib.hid (HBw3.out.trans (hbw4.mono HBw3.out.size))
  clear HBw3 hbw4 hownw4
  go_wp2_with fail
  refine (HT1.out _ (h1.at_ HBw4.out)).mono ?_
  rintro e w5 ⟨A5, rfl, hownw5, hbw5⟩
  have OLX1 : Hid (∀ k, (Value.slice A5 xs1.length xs1.length).ownBlock = some k → w4.heap.size ≤ k ∧ k < w5.heap.size) := Lib.hid hownw5.lt
  have OWX1w5 := Lib.hid hownw5
  have rw5 : w4.heap.size ≤ w5.heap.size := hbw5.size
  have OWX0w5 := Lib.hid (own_below OWX0w4.out hbw5)
  have HBw5 : Hid (Below w.heap.size w w5) := Lib.hid (HBw4.out.trans (hbw5.mono HBw4.out.size))
  clear OWX0w4 HBw4 hbw5 hownw5
  go_wp2_with fail
  refine (HI.out A4 A5 _ (Rd.of_own OWX0w5.out) (Rd.of_own OWX1w5.out)).mono ?_
  rintro e w6 ⟨rfl, hbw6⟩
  have OWX0w6 := Lib.hid (own_below OWX0w5.out hbw6)
  have OWX1w6 := Lib.hid (own_below OWX1w5.out hbw6)
  have HBw6 : Hid (Below w.heap.size w w6) := Lib.hid (HBw5.out.trans (hbw6.mono HBw5.out.size))
  have zw6 : w5.heap.size ≤ w6.heap.size := by have := hbw6.size; omega
  clear OWX0w5 OWX1w5 HBw5 hbw6
  go_wp2_with fail
  refine (HT0.out _ (h0.at_ HBw6.out)).mono ?_
  rintro e w7 ⟨A7, rfl, hownw7, hbw7⟩
  have OLY : Hid (∀ k, (Value.slice A7 xs0.length xs0.length).ownBlock = some k → w6.heap.size ≤ k ∧ k < w7.heap.size) := Lib.hid hownw7.lt
  have OWYw7 := Lib.hid hownw7
  have rw7 : w6.heap.size ≤ w7.heap.size := hbw7.size
  have OWX0w7 := Lib.hid (own_below OWX0w6.out hbw7)
  have OWX1w7 := Lib.hid (own_below OWX1w6.out hbw7)
  have HBw7 : Hid (Below w.heap.size w w7) := Lib.hid (HBw6.out.trans (hbw7.mono HBw6.out.size))
  clear OWX0w6 OWX1w6 HBw6 hbw7 hownw7
  go_wp2_with fail
  refine (HX0.out A4 A7 _ _ _ (Rd.of_own OWX0w7.out) (Rd.of_own OWYw7.out)).mono ?_
  rintro e w8 hqw8
  obtain ⟨rfl, hbw8⟩ := hqw8.below
  have OWX0w8 := Lib.hid (own_below OWX0w7.out hbw8)
  have OWX1w8 := Lib.hid (own_below OWX1w7.out hbw8)
  have OWYw8 := Lib.hid (own_below OWYw7.out hbw8)
  have HBw8 : Hid (Below w.heap.size w w8) := Lib.hid (HBw7.out.trans (hbw8.mono HBw7.out.size))
  have zw8 : w7.heap.size ≤ w8.heap.size := by have := hbw8.size; omega
  clear OWX0w7 OWX1w7 OWYw7 HBw7 hbw8 hqw8
  clear OWYw8 OLY
  go_wp2_with fail
  refine (HT1.out _ (h1.at_ HBw8.out)).mono ?_
  rintro e w9 ⟨A9, rfl, hownw9, hbw9⟩
  have OLY : Hid (∀ k, (Value.slice A9 xs1.length xs1.length).ownBlock = some k → w8.heap.size ≤ k ∧ k < w9.heap.size) := Lib.hid hownw9.lt
  have OWYw9 := Lib.hid hownw9
  have rw9 : w8.heap.size ≤ w9.heap.size := hbw9.size
  have OWX0w9 := Lib.hid (own_below OWX0w8.out hbw9)
  have OWX1w9 := Lib.hid (own_below OWX1w8.out hbw9)
  have HBw9 : Hid (Below w.heap.size w w9) := Lib.hid (HBw8.out.trans (hbw9.mono HBw8.out.size))
  clear OWX0w8 OWX1w8 HBw8 hbw9 hownw9
  go_wp2_with fail
  refine (HX1.out A5 A9 _ _ _ (Rd.of_own OWX1w9.out) (Rd.of_own OWYw9.out)).mono ?_
  rintro e w10 hqw10
  obtain ⟨rfl, hbw10⟩ := hqw10.below
  have OWX0w10 := Lib.hid (own_below OWX0w9.out hbw10)
  have OWX1w10 := Lib.hid (own_below OWX1w9.out hbw10)
  have OWYw10 := Lib.hid (own_below OWYw9.out hbw10)
  have HBw10 : Hid (Below w.heap.size w w10) := Lib.hid (HBw9.out.trans (hbw10.mono HBw9.out.size))
  have zw10 : w9.heap.size ≤ w10.heap.size := by have := hbw10.size; omega
  clear OWX0w9 OWX1w9 OWYw9 HBw9 hbw10 hqw10
  clear OWYw10 OLY
  go_wp2_with fail
  go_ret
  exact ⟨rfl, HBw10.out⟩

set_option maxRecDepth 100000 in
set_option maxHeartbeats 3200000 in
theorem lifted (os : Os) (started : os.Started) (H : Type) (enc : TypeId × Value → H) :
    ReturnsInHanded {} Try.checked os 6 .any (Rows.fnExactRankTailSpec.pre6 enc Try.prog Try.f6 Rows.fnExactRankTailRow.domain false) (Rows.fnExactRankTailSpec.post enc Try.prog Try.f6 false true false false) := by
  refine returnsInHanded_of_change (C := Try.checked) own started (by kernel_rfl) Try.func6
    (ChangeSpec.witness6 (enc := enc) (C := Try.checked) false ⟨#[], #[.slice none 0 0, .slice none 0 0], []⟩ 8 (by kernel_rfl) (by kernel_rfl) (by kernel_rfl) (by kernel_rfl)) ?_
  intro W base args ds gs before hval0 hW hcnd _
  have hval : ∀ (j : Nat) t v, Try.f6.params[j]? = some t → args[j]? = some v → Value.okWide Try.prog W .any base t v := hval0
  have hW' := hW
  have hlt : ∀ p ∈ before, p.block < W.heap.size := fun p hp => hW.lt p hp
  obtain ⟨p, q, hA0, hV, rfl, hfz, hnd⟩ := hW
  have hA : DataW.TrodAll enc Try.prog W 0 (fun _ => true) true Try.f6.params.toList args.toList ds p := hA0
  rw [Try.params6] at hA hval
  have hA1 := hA
  obtain ⟨v0, vs0, d0, ds0, p0, q0, hargs, rfl, rfl, h0, r0⟩ := trodAll_cons hA
  obtain ⟨v1, vs1, d1, ds1, p1, q1, rfl, rfl, rfl, h1, r1⟩ := trodAll_cons r0
  obtain ⟨rfl, rfl, rfl⟩ := trodAll_nil r1
  obtain rfl : args = #[v0, v1] := by cases args; simp_all
  obtain ⟨rfl, rfl⟩ := trodVars_none hV
  obtain ⟨A0, xs0, c0, rfl, hx0, hr0, bf0⟩ := open_il h0 (okWide_slice Try.underlying22 (hval 0 _ _ rfl rfl))
  obtain ⟨A1, xs1, c1, rfl, hx1, hr1, bf1⟩ := open_il h1 (okWide_slice Try.underlying22 (hval 1 _ _ rfl rfl))
  clear hA0 hval0
  refine (walk A0 xs0 c0 A1 xs1 c1 W hr0 hx0 bf0 hr1 hx1 bf1).mono fun e W' ⟨he, hb⟩ => ?_
  subst he
  rw [List.append_nil] at hW' hlt
  exact ⟨_, rfl, post_of_below (pa := _) (pv := []) hW' (fun _ _ _ => (trodAll_cons_mk (shut_bool Try.underlying4 _) trodAll_mk0))
    (fun sp hsp => trodAll_below cl_laid hb _ _ _ _ (by kernel_rfl) hA1 hlt hsp) (fun _ _ => rfl) (List.append_nil _).symm hb (ok_one (by kernel_rfl) rfl (okWide_bool_mk Try.underlying4 _))⟩

theorem g0 : Try.prog.funcNamed Rows.fnExactRankTailRow.func = some 6 := by kernel_rfl
theorem g1 : Rows.fnExactRankTailRow.inPlace = Try.prog.inPlace 6 := by kernel_rfl
theorem g2 : Rows.fnExactRankTailRow.unfollowed = Try.prog.unfollowed 6 := by kernel_rfl
theorem g3 : Rows.fnExactRankTailRow.recurses = Try.prog.recurses 6 := by kernel_rfl
theorem g4 : Rows.fnExactRankTailRow.named = Try.prog.varsNamed 6 := by kernel_rfl
theorem g5 : Rows.fnExactRankTailRow.wf (OpenSpec.ofChange Rows.fnExactRankTailSpec) = true := by kernel_rfl
theorem g6 : (Try.f6.params.all (Try.prog.readableRec ·)) = true := by kernel_rfl
theorem g7 : Rows.fnExactRankTailRow.veiledFits Try.prog Try.f6.params.toList (Try.f6.params.toList ++ Try.f6.resultTypes.toList) = true := by kernel_rfl
theorem g8 : joinedFacts Try.prog 6 Try.f6 Rows.fnExactRankTailSpec Rows.fnExactRankTailRow = true :=
  gen_facts _ _ _ _ rfl rfl cl_laid cl_maps cl_stops cl_knobs cl_heard cl_enter cl_lifts cl_make g5 g6 rfl rfl rfl g1 g2 g3 g4
    (by as_aux_lemma => kernel_rfl) (by as_aux_lemma => kernel_rfl) (by as_aux_lemma => kernel_rfl) (by as_aux_lemma => kernel_rfl) (by as_aux_lemma => kernel_rfl) (by as_aux_lemma => kernel_rfl) (by as_aux_lemma => kernel_rfl) (by as_aux_lemma => kernel_rfl)
    cl_keys.symm rfl rfl rfl rfl rfl (by as_aux_lemma => kernel_rfl) (by as_aux_lemma => kernel_rfl) g7
theorem g9 : Try.f6.isInstance Try.prog Rows.fnExactRankTailRow.origin Rows.fnExactRankTailRow.targs := of_decide_eq_true (by kernel_rfl)
theorem g10 : Try.f6.isWrapper Try.prog Rows.fnExactRankTailRow.wrapper Rows.fnExactRankTailRow.mainSum := by
  unfold Func.isWrapper; first | (rw [if_pos (by decide +kernel)]; kernel_rfl) | (rw [if_neg (by decide +kernel)]; exact ⟨rfl, rfl⟩)
theorem over : Rows.fnExactRankTailRow.holds Try.pinned (OpenSpec.ofChange Rows.fnExactRankTailSpec) :=
  OpenClaim.holds_of_wide 6 Try.f6 rfl rfl rfl rfl rfl rfl rfl ⟨rfl, rfl, rfl, rfl, rfl⟩ rfl rfl rfl rfl rfl g0 Try.func6 g8 g9 g10 (fun os started H enc _ => lifted os started H enc)
theorem proved : Rows.FnExactRankTailSaid := over
end Go.Proofs.Ytmpnfjajlmafgaa.lawRankTail
