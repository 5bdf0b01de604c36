/-
  impl.StepMany returns what spec.StepMany returns, for every list (the law FnExactStepMany returns true), in memory of its own where it gives a slice, and leaves its arguments as they were. No condition.
-/
import Derived.Test.YtmpnfjajlmafgaaHw
import Derived.Test.YtmpnfjajlmafgaaToi
import Derived.Test.YtmpnfjajlmafgaaOpen
import Derived.Test.YtmpnfjajlmafgaaOut
import Derived.Deep.RegionHeld3
import Derived.Deep.DeepCutAuto
namespace Go.Proofs.Ytmpnfjajlmafgaa.lawStepMany
open Go.ChangeShapes Go.WideShapes Go.ChangeAt Go.RowKit

theorem both (xs0 : List Nat) (hx0 : xs0.length ≤ 9223372036854775807) (bf0 : ∀ x ∈ xs0, x < 4294967296) : ∃ (ys : List Nat) (ok : Bool), ys.length ≤ 1048576 ∧ (∀ A50 c50 w, Rd w w.heap.size A50 (fl xs0) → Calls Try.prog 28 #[.slice A50 xs0.length c50] w (fun e w' => ∃ A c, e = .returned (.tuple #[.slice A ys.length c, .bool ok]) ∧ w'.ownsRow w.heap.size 69 1 (.slice A ys.length c) ys.length (fl ys) ∧ Below w.heap.size w w')) ∧
    (∀ A50 w, Rd w w.heap.size A50 (fl xs0) → Calls Try.prog 29 #[.slice A50 xs0.length xs0.length] w (fun e w' => ∃ A c, e = .returned (.tuple #[.slice A ys.length c, .bool ok]) ∧ w'.ownsRow w.heap.size 69 1 (.slice A ys.length c) ys.length (fl ys) ∧ Below w.heap.size w w')) := by
  have _uhx0 := hx0
  have _ubf0 := bf0
  cases h : sharesB xs0 with
  | false => exact ⟨[], false, by simp, fun A c w hA => specStepMany_bad A xs0 c w hx0 hA h, fun A w hA => StepMany_bad A xs0 xs0.length w hx0 hA h⟩
  | true =>
    obtain ⟨ys, h1, h2⟩ := step_one xs0
    exact ⟨ys, true, by have := sharesB_len h; omega, fun A c w hA => (specStepMany_ok A xs0 c w hA h).mono (fun e w' ⟨d, hd, ho⟩ => by rw [h2 d hd] at ho; exact ho), fun A w hA => (StepMany_ok A xs0 xs0.length w hA h).mono (fun e w' ⟨d, hd, ho⟩ => by rw [h2 d hd] at ho; exact ho)⟩

set_option maxRecDepth 100000 in
set_option maxHeartbeats 12800000 in
theorem walk (A0 : Option Addr) (xs0 : List Nat) (c0 : Nat) (w : World) (h0 : Rd w w.heap.size A0 (fl xs0))  (hx0 : xs0.length ≤ 9223372036854775807) (bf0 : ∀ x ∈ xs0, x < 4294967296) :
    Calls Try.prog 8 #[.slice A0 xs0.length c0] w fun e w' => e = .returned (.bool true) ∧ Below w.heap.size w w' := by
  by_cases hq0 : 1048576 < xs0.length
  · clear bf0
    go_enter Try.func8, Try.ntmps8
    go_wp2
    go_ret
    exact ⟨rfl, Below.refl _ _⟩
  have hy0 : xs0.length ≤ 1048576 := by omega
  clear hq0
  obtain ⟨ys, ok, hm, HS0, HI0⟩ := both xs0 hx0 bf0
  have HS := Lib.hid HS0
  have HI := Lib.hid HI0
  clear HS0 HI0
  have HT0 := Lib.hid fun w h => toFloat32S_any A0 xs0 c0 w hy0 h
  have HX0 := Lib.hid fun A B c d w hA hB => eqFloat32S_yes A B xs0 xs0 c d w (by omega) (sameL_refl xs0) hA hB
  have HMx0 := Lib.hid fun A base c w ho => markFloat32S_any A base xs0.length (fl xs0) c (1) w hy0 (by omega) (by omega) ho
  have HE := Lib.hid fun A B c d w hA hB => eqFloat32S_yes A B ys ys c d w (by omega) (sameL_refl ys) hA hB
  have HM := Lib.hid fun A base c w ho => markFloat32S_any A base ys.length (fl ys) c 1 w hm (by omega) (by omega) ho
  have HH := Lib.hid fun A c w hr => heldFloat32S_any A ys.length c 1 w hm (by omega) (by omega) hr
  clear bf0
  have HBw : Hid (Below w.heap.size w w) := Lib.hid (Below.refl _ _)
  go_enter Try.func8, Try.ntmps8
  go_wp2_with fail
  refine (HT0.out _ (h0.at_ HBw.out)).mono ?_
  rintro e w1 ⟨A1, rfl, hownw1, hbw1⟩
  have OLtW0 : Hid (∀ k, (Value.slice A1 xs0.length xs0.length).ownBlock = some k → w.heap.size ≤ k ∧ k < w1.heap.size) := Lib.hid hownw1.lt
  have OWtW0w1 := Lib.hid hownw1
  have rw1 : w.heap.size ≤ w1.heap.size := hbw1.size
  have HBw1 : Hid (Below w.heap.size w w1) := Lib.hid (HBw.out.trans (hbw1.mono HBw.out.size))
  clear HBw hbw1 hownw1
  go_wp2_with fail
  refine (HS.out A1 _ _ (Rd.of_own OWtW0w1.out)).mono ?_
  rintro e w2 ⟨A2, c2, rfl, hownw2, hbw2⟩
  have OLW : Hid (∀ k, (Value.slice A2 ys.length c2).ownBlock = some k → w1.heap.size ≤ k ∧ k < w2.heap.size) := Lib.hid hownw2.lt
  have OWWw2 := Lib.hid hownw2
  have rw2 : w1.heap.size ≤ w2.heap.size := hbw2.size
  have OWtW0w2 := Lib.hid (own_below OWtW0w1.out hbw2)
  have HBw2 : Hid (Below w.heap.size w w2) := Lib.hid (HBw1.out.trans (hbw2.mono HBw1.out.size))
  clear OWtW0w1 HBw1 hbw2 hownw2
  clear OWtW0w2 OLtW0
  go_wp2_with fail
  refine (HT0.out _ (h0.at_ HBw2.out)).mono ?_
  rintro e w3 ⟨A3, rfl, hownw3, hbw3⟩
  have OLX0 : Hid (∀ k, (Value.slice A3 xs0.length xs0.length).ownBlock = some k → w2.heap.size ≤ k ∧ k < w3.heap.size) := Lib.hid hownw3.lt
  have OWX0w3 := Lib.hid hownw3
  have rw3 : w2.heap.size ≤ w3.heap.size := hbw3.size
  have OWWw3 := Lib.hid (own_below OWWw2.out hbw3)
  have HBw3 : Hid (Below w.heap.size w w3) := Lib.hid (HBw2.out.trans (hbw3.mono HBw2.out.size))
  clear OWWw2 HBw2 hbw3 hownw3
  go_wp2_with fail
  refine (HI.out A3 _ (Rd.of_own OWX0w3.out)).mono ?_
  rintro e w4 ⟨A4, c4, rfl, hownw4, hbw4⟩
  have OLG : Hid (∀ k, (Value.slice A4 ys.length c4).ownBlock = some k → w3.heap.size ≤ k ∧ k < w4.heap.size) := Lib.hid hownw4.lt
  have OWGw4 := Lib.hid hownw4
  have rw4 : w3.heap.size ≤ w4.heap.size := hbw4.size
  have OWWw4 := Lib.hid (own_below OWWw3.out hbw4)
  have OWX0w4 := Lib.hid (own_below OWX0w3.out hbw4)
  have HBw4 : Hid (Below w.heap.size w w4) := Lib.hid (HBw3.out.trans (hbw4.mono HBw3.out.size))
  clear OWWw3 OWX0w3 HBw3 hbw4 hownw4
  go_wp2_with fail
  refine (HE.out A4 A2 c4 c2 _ (Rd.of_own OWGw4.out) (Rd.of_own OWWw4.out)).mono ?_
  rintro e w5 hqw5
  obtain ⟨rfl, hbw5⟩ := hqw5.below
  have OWWw5 := Lib.hid (own_below OWWw4.out hbw5)
  have OWX0w5 := Lib.hid (own_below OWX0w4.out hbw5)
  have OWGw5 := Lib.hid (own_below OWGw4.out hbw5)
  have HBw5 : Hid (Below w.heap.size w w5) := Lib.hid (HBw4.out.trans (hbw5.mono HBw4.out.size))
  have zw5 : w4.heap.size ≤ w5.heap.size := by have := hbw5.size; omega
  clear OWWw4 OWX0w4 OWGw4 HBw4 hbw5 hqw5
  go_wp2_with fail
  refine (HT0.out _ (h0.at_ HBw5.out)).mono ?_
  rintro e w6 ⟨A6, rfl, hownw6, hbw6⟩
  have OLY : Hid (∀ k, (Value.slice A6 xs0.length xs0.length).ownBlock = some k → w5.heap.size ≤ k ∧ k < w6.heap.size) := Lib.hid hownw6.lt
  have OWYw6 := Lib.hid hownw6
  have rw6 : w5.heap.size ≤ w6.heap.size := hbw6.size
  have OWWw6 := Lib.hid (own_below OWWw5.out hbw6)
  have OWX0w6 := Lib.hid (own_below OWX0w5.out hbw6)
  have OWGw6 := Lib.hid (own_below OWGw5.out hbw6)
  have HBw6 : Hid (Below w.heap.size w w6) := Lib.hid (HBw5.out.trans (hbw6.mono HBw5.out.size))
  clear OWWw5 OWX0w5 OWGw5 HBw5 hbw6 hownw6
  go_wp2_with fail
  refine (HX0.out A3 A6 _ _ _ (Rd.of_own OWX0w6.out) (Rd.of_own OWYw6.out)).mono ?_
  rintro e w7 hqw7
  obtain ⟨rfl, hbw7⟩ := hqw7.below
  have OWWw7 := Lib.hid (own_below OWWw6.out hbw7)
  have OWX0w7 := Lib.hid (own_below OWX0w6.out hbw7)
  have OWGw7 := Lib.hid (own_below OWGw6.out hbw7)
  have OWYw7 := Lib.hid (own_below OWYw6.out hbw7)
  have HBw7 : Hid (Below w.heap.size w w7) := Lib.hid (HBw6.out.trans (hbw7.mono HBw6.out.size))
  have zw7 : w6.heap.size ≤ w7.heap.size := by have := hbw7.size; omega
  clear OWWw6 OWX0w6 OWGw6 OWYw6 HBw6 hbw7 hqw7
  clear OWYw7 OLY
  go_wp2_with fail
  refine (HMx0.out A3 _ _ w7 OWX0w7.out).mono ?_
  rintro e w8 ⟨rfl, hownw8, hgw8⟩
  have ndw8 : ∀ k, (k < w2.heap.size ∨ w3.heap.size ≤ k) → some k ≠ (Value.slice A3 xs0.length xs0.length).ownBlock := fun k hk h => by have := OLX0.out _ h.symm; omega
  have OWWw8 := Lib.hid (OWWw7.out.kept hgw8 (by
    cases hv : (Value.slice A2 ys.length c2).ownBlock with
    | none => exact .inl rfl
    | some k => exact .inr (ndw8 k (by have := OLW.out k hv; omega))))
  have OWX0w8 := Lib.hid hownw8
  have OWGw8 := Lib.hid (OWGw7.out.kept hgw8 (by
    cases hv : (Value.slice A4 ys.length c4).ownBlock with
    | none => exact .inl rfl
    | some k => exact .inr (ndw8 k (by have := OLG.out k hv; omega))))
  have HBw8 : Hid (Below w.heap.size w w8) := Lib.hid (HBw7.out.grown hgw8 HBw7.out.size (fun k hk => by have := (OLX0.out k hk).1; have := HBw7.out.size; omega))
  have zw8 : w6.heap.size ≤ w8.heap.size := by have := hgw8.size; omega
  clear ndw8 hgw8 hownw8 OWWw7 OWX0w7 OWGw7 HBw7 zw7
  go_wp2_with fail
  refine (HE.out A4 A2 c4 c2 _ (Rd.of_own OWGw8.out) (Rd.of_own OWWw8.out)).mono ?_
  rintro e w9 hqw9
  obtain ⟨rfl, hbw9⟩ := hqw9.below
  have OWWw9 := Lib.hid (own_below OWWw8.out hbw9)
  have OWX0w9 := Lib.hid (own_below OWX0w8.out hbw9)
  have OWGw9 := Lib.hid (own_below OWGw8.out hbw9)
  have HBw9 : Hid (Below w.heap.size w w9) := Lib.hid (HBw8.out.trans (hbw9.mono HBw8.out.size))
  have zw9 : w6.heap.size ≤ w9.heap.size := by have := hbw9.size; omega
  clear OWWw8 OWX0w8 OWGw8 HBw8 zw8 hbw9 hqw9
  go_wp2_with fail
  refine (HM.out A4 _ _ w9 OWGw9.out).mono ?_
  rintro e w10 ⟨rfl, hownw10, hgw10⟩
  have ndw10 : ∀ k, (k < w3.heap.size ∨ w4.heap.size ≤ k) → some k ≠ (Value.slice A4 ys.length c4).ownBlock := fun k hk h => by have := OLG.out _ h.symm; omega
  have OWWw10 := Lib.hid (OWWw9.out.kept hgw10 (by
    cases hv : (Value.slice A2 ys.length c2).ownBlock with
    | none => exact .inl rfl
    | some k => exact .inr (ndw10 k (by have := OLW.out k hv; omega))))
  have OWX0w10 := Lib.hid (OWX0w9.out.kept hgw10 (by
    cases hv : (Value.slice A3 xs0.length xs0.length).ownBlock with
    | none => exact .inl rfl
    | some k => exact .inr (ndw10 k (by have := OLX0.out k hv; omega))))
  have OWGw10 := Lib.hid hownw10
  have HBw10 : Hid (Below w.heap.size w w10) := Lib.hid (HBw9.out.grown hgw10 HBw9.out.size (fun k hk => by have := (OLG.out k hk).1; have := HBw9.out.size; omega))
  have zw10 : w6.heap.size ≤ w10.heap.size := by have := hgw10.size; omega
  clear ndw10 hgw10 hownw10 OWWw9 OWX0w9 OWGw9 HBw9 zw9
  go_wp2_with fail
  refine (HH.out A4 c4 _ (Rd.of_own OWGw10.out)).mono ?_
  rintro e w11 hqw11
  obtain ⟨rfl, hbw11⟩ := hqw11.below
  have OWWw11 := Lib.hid (own_below OWWw10.out hbw11)
  have OWX0w11 := Lib.hid (own_below OWX0w10.out hbw11)
  have OWGw11 := Lib.hid (own_below OWGw10.out hbw11)
  have HBw11 : Hid (Below w.heap.size w w11) := Lib.hid (HBw10.out.trans (hbw11.mono HBw10.out.size))
  have zw11 : w6.heap.size ≤ w11.heap.size := by have := hbw11.size; omega
  clear OWWw10 OWX0w10 OWGw10 HBw10 zw10 hbw11 hqw11
  go_wp2_with fail
  refine (HT0.out _ (h0.at_ HBw11.out)).mono ?_
  rintro e w12 ⟨A12, rfl, hownw12, hbw12⟩
  have OLtV0 : Hid (∀ k, (Value.slice A12 xs0.length xs0.length).ownBlock = some k → w11.heap.size ≤ k ∧ k < w12.heap.size) := Lib.hid hownw12.lt
  have OWtV0w12 := Lib.hid hownw12
  have rw12 : w11.heap.size ≤ w12.heap.size := hbw12.size
  have OWWw12 := Lib.hid (own_below OWWw11.out hbw12)
  have OWX0w12 := Lib.hid (own_below OWX0w11.out hbw12)
  have OWGw12 := Lib.hid (own_below OWGw11.out hbw12)
  have HBw12 : Hid (Below w.heap.size w w12) := Lib.hid (HBw11.out.trans (hbw12.mono HBw11.out.size))
  clear OWWw11 OWX0w11 OWGw11 HBw11 hbw12 hownw12
  go_wp2_with fail
  refine (HI.out A12 _ (Rd.of_own OWtV0w12.out)).mono ?_
  rintro e w13 ⟨A13, c13, rfl, hownw13, hbw13⟩
  have OLV : Hid (∀ k, (Value.slice A13 ys.length c13).ownBlock = some k → w12.heap.size ≤ k ∧ k < w13.heap.size) := Lib.hid hownw13.lt
  have OWVw13 := Lib.hid hownw13
  have rw13 : w12.heap.size ≤ w13.heap.size := hbw13.size
  have OWWw13 := Lib.hid (own_below OWWw12.out hbw13)
  have OWX0w13 := Lib.hid (own_below OWX0w12.out hbw13)
  have OWGw13 := Lib.hid (own_below OWGw12.out hbw13)
  have OWtV0w13 := Lib.hid (own_below OWtV0w12.out hbw13)
  have HBw13 : Hid (Below w.heap.size w w13) := Lib.hid (HBw12.out.trans (hbw13.mono HBw12.out.size))
  clear OWWw12 OWX0w12 OWGw12 OWtV0w12 HBw12 hbw13 hownw13
  clear OWtV0w13 OLtV0
  go_wp2_with fail
  refine (HE.out A13 A2 c13 c2 _ (Rd.of_own OWVw13.out) (Rd.of_own OWWw13.out)).mono ?_
  rintro e w14 hqw14
  obtain ⟨rfl, hbw14⟩ := hqw14.below
  have OWWw14 := Lib.hid (own_below OWWw13.out hbw14)
  have OWX0w14 := Lib.hid (own_below OWX0w13.out hbw14)
  have OWGw14 := Lib.hid (own_below OWGw13.out hbw14)
  have OWVw14 := Lib.hid (own_below OWVw13.out hbw14)
  have HBw14 : Hid (Below w.heap.size w w14) := Lib.hid (HBw13.out.trans (hbw14.mono HBw13.out.size))
  have zw14 : w13.heap.size ≤ w14.heap.size := by have := hbw14.size; omega
  clear OWWw13 OWX0w13 OWGw13 OWVw13 HBw13 hbw14 hqw14
  go_wp2_with fail
  refine (HH.out A4 c4 _ (Rd.of_own OWGw14.out)).mono ?_
  rintro e w15 hqw15
  obtain ⟨rfl, hbw15⟩ := hqw15.below
  have OWWw15 := Lib.hid (own_below OWWw14.out hbw15)
  have OWX0w15 := Lib.hid (own_below OWX0w14.out hbw15)
  have OWGw15 := Lib.hid (own_below OWGw14.out hbw15)
  have OWVw15 := Lib.hid (own_below OWVw14.out hbw15)
  have HBw15 : Hid (Below w.heap.size w w15) := Lib.hid (HBw14.out.trans (hbw15.mono HBw14.out.size))
  have zw15 : w13.heap.size ≤ w15.heap.size := by have := hbw15.size; omega
  clear OWWw14 OWX0w14 OWGw14 OWVw14 HBw14 zw14 hbw15 hqw15
  go_wp2_with fail
  go_ret
  exact ⟨rfl, HBw15.out⟩

set_option maxRecDepth 100000 in
set_option maxHeartbeats 3200000 in
theorem lifted (os : Os) (started : os.Started) (H : Type) (enc : TypeId × Value → H) :
    ReturnsInHanded {} Try.checked os 8 .any (Rows.fnExactStepManySpec.pre6 enc Try.prog Try.f8 Rows.fnExactStepManyRow.domain false) (Rows.fnExactStepManySpec.post enc Try.prog Try.f8 false true false false) := by
  refine returnsInHanded_of_change (C := Try.checked) own started (by kernel_rfl) Try.func8
    (ChangeSpec.witness6 (enc := enc) (C := Try.checked) false ⟨#[], #[.slice none 0 0], []⟩ 8 (by kernel_rfl) (by kernel_rfl) (by kernel_rfl) (by kernel_rfl)) ?_
  intro W base args ds gs before hval0 hW hcnd _
  have hval : ∀ (j : Nat) t v, Try.f8.params[j]? = some t → args[j]? = some v → Value.okWide Try.prog W .any base t v := hval0
  have hW' := hW
  have hlt : ∀ p ∈ before, p.block < W.heap.size := fun p hp => hW.lt p hp
  obtain ⟨p, q, hA0, hV, rfl, hfz, hnd⟩ := hW
  have hA : DataW.TrodAll enc Try.prog W 0 (fun _ => true) true Try.f8.params.toList args.toList ds p := hA0
  rw [Try.params8] at hA hval
  have hA1 := hA
  obtain ⟨v0, vs0, d0, ds0, p0, q0, hargs, rfl, rfl, h0, r0⟩ := trodAll_cons hA
  obtain ⟨rfl, rfl, rfl⟩ := trodAll_nil r0
  obtain rfl : args = #[v0] := by cases args; simp_all
  obtain ⟨rfl, rfl⟩ := trodVars_none hV
  obtain ⟨A0, xs0, c0, rfl, hx0, hr0, bf0⟩ := open_fl h0 (okWide_slice Try.underlying35 (hval 0 _ _ rfl rfl))
  clear hA0 hval0
  refine (walk A0 xs0 c0 W hr0 hx0 bf0).mono fun e W' ⟨he, hb⟩ => ?_
  subst he
  rw [List.append_nil] at hW' hlt
  exact ⟨_, rfl, post_of_below (pa := _) (pv := []) hW' (fun _ _ _ => (trodAll_cons_mk (shut_bool Try.underlying4 _) trodAll_mk0))
    (fun sp hsp => trodAll_below cl_laid hb _ _ _ _ (by kernel_rfl) hA1 hlt hsp) (fun _ _ => rfl) (List.append_nil _).symm hb (ok_one (by kernel_rfl) rfl (okWide_bool_mk Try.underlying4 _))⟩

theorem g0 : Try.prog.funcNamed Rows.fnExactStepManyRow.func = some 8 := by kernel_rfl
theorem g1 : Rows.fnExactStepManyRow.inPlace = Try.prog.inPlace 8 := by kernel_rfl
theorem g2 : Rows.fnExactStepManyRow.unfollowed = Try.prog.unfollowed 8 := by kernel_rfl
theorem g3 : Rows.fnExactStepManyRow.recurses = Try.prog.recurses 8 := by kernel_rfl
theorem g4 : Rows.fnExactStepManyRow.named = Try.prog.varsNamed 8 := by kernel_rfl
theorem g5 : Rows.fnExactStepManyRow.wf (OpenSpec.ofChange Rows.fnExactStepManySpec) = true := by kernel_rfl
theorem g6 : (Try.f8.params.all (Try.prog.readableRec ·)) = true := by kernel_rfl
theorem g7 : Rows.fnExactStepManyRow.veiledFits Try.prog Try.f8.params.toList (Try.f8.params.toList ++ Try.f8.resultTypes.toList) = true := by kernel_rfl
theorem g8 : joinedFacts Try.prog 8 Try.f8 Rows.fnExactStepManySpec Rows.fnExactStepManyRow = true :=
  gen_facts _ _ _ _ rfl rfl cl_laid cl_maps cl_stops cl_knobs cl_heard cl_enter cl_lifts cl_make g5 g6 rfl rfl rfl g1 g2 g3 g4
    (by as_aux_lemma => kernel_rfl) (by as_aux_lemma => kernel_rfl) (by as_aux_lemma => kernel_rfl) (by as_aux_lemma => kernel_rfl) (by as_aux_lemma => kernel_rfl) (by as_aux_lemma => kernel_rfl) (by as_aux_lemma => kernel_rfl) (by as_aux_lemma => kernel_rfl)
    cl_keys.symm rfl rfl rfl rfl rfl (by as_aux_lemma => kernel_rfl) (by as_aux_lemma => kernel_rfl) g7
theorem g9 : Try.f8.isInstance Try.prog Rows.fnExactStepManyRow.origin Rows.fnExactStepManyRow.targs := of_decide_eq_true (by kernel_rfl)
theorem g10 : Try.f8.isWrapper Try.prog Rows.fnExactStepManyRow.wrapper Rows.fnExactStepManyRow.mainSum := by
  unfold Func.isWrapper; first | (rw [if_pos (by decide +kernel)]; kernel_rfl) | (rw [if_neg (by decide +kernel)]; exact ⟨rfl, rfl⟩)
theorem over : Rows.fnExactStepManyRow.holds Try.pinned (OpenSpec.ofChange Rows.fnExactStepManySpec) :=
  OpenClaim.holds_of_wide 8 Try.f8 rfl rfl rfl rfl rfl rfl rfl ⟨rfl, rfl, rfl, rfl, rfl⟩ rfl rfl rfl rfl rfl g0 Try.func8 g8 g9 g10 (fun os started H enc _ => lifted os started H enc)
theorem proved : Rows.FnExactStepManySaid := over
end Go.Proofs.Ytmpnfjajlmafgaa.lawStepMany
