/-
  impl.CyclesText returns what spec.CyclesText returns, for every list (the law FnExactCyclesText returns true), and leaves it as it was. No condition.
-/
import Derived.Test.YtadkpmmbnenemaaDoorRows
import Derived.Test.YtadkpmmbnenemaaDoorCards
import Derived.Test.YtadkpmmbnenemaaDoorTie
import Derived.Test.YtadkpmmbnenemaaDoorCy3
import Derived.Test.YtadkpmmbnenemaaDoorTt
import Derived.Test.YtadkpmmbnenemaaDoorOpn
import Derived.LaidMore
import Derived.Lay
import Derived.MakeChecks
import Derived.ChangeMaps5
import Derived.Stop.Joined
import Derived.SevenTiedAt
namespace Go.Proofs.YtadkpmmbnenemaaDoor
open Go Go.ChangeMaps Go.ChangeShapes Go.WideShapes Go.ChangeAt Go.RowKit

set_option maxRecDepth 100000 in
set_option maxHeartbeats 3200000 in
theorem walk (A : Option Addr) (xs : List Int) (c : Nat) (w : World) (h : Rd w w.heap.size A (il xs)) (hx : xs.length ≤ 9223372036854775807) (_bf : ∀ x ∈ xs, -9223372036854775808 ≤ x ∧ x ≤ 9223372036854775807) (ht : Tab w) :
    Calls Tryd.prog 3 #[.slice A xs.length c] w (fun e w' => e = .returned (.bool true) ∧ Below w.heap.size w w') := by
  by_cases hq : 1048576 < xs.length
  · clear _bf
    go_enter Tryd.func3, Tryd.ntmps3
    go_wp2_with fail
    go_ret
    exact ⟨rfl, Below.refl _ _⟩
  have hy : xs.length ≤ 1048576 := by omega
  have HS := Lib.hid fun A c w h => specCyclesText_any A xs c w hy h
  have HI := Lib.hid fun A c w ht h => CyclesText_any A xs c w hy ht h
  have HT := Lib.hid fun w h => toInt64S_any A xs c w hy h
  have HE := Lib.hid fun A B c d w hA hB => eqInt64S_yes A B xs c d w (by omega) hA hB
  have HH := Lib.hid h
  have HTB := Lib.hid ht
  unfold CtOut at HS HI
  clear h ht _bf hq
  generalize (⟨(ctT xs).toArray⟩ : ByteArray) = S at *
  generalize ordB xs = R at *
  cases R
  all_goals
    go_enter Tryd.func3, Tryd.ntmps3
    go_wp2_with fail
    refine (HT.out _ HH.out).mono ?_
    rintro e w1 ⟨A1, rfl, ho1, hb1⟩
    have O1 := Lib.hid (Rd.of_own ho1)
    have B1 := Lib.hid hb1
    clear ho1 hb1
    go_wp2_with fail
    refine (HS.out _ _ _ O1.out).mono ?_
    rintro e w2 ⟨rfl, hb2⟩
    have B2 := Lib.hid (below_next B1.out hb2)
    clear hb2 O1 B1
    go_wp2_with fail
    refine (HT.out _ (HH.out.at_ B2.out)).mono ?_
    rintro e w3 ⟨A3, rfl, ho3, hb3⟩
    have O3 := Lib.hid (Rd.of_own ho3)
    have B3 := Lib.hid (below_next B2.out hb3)
    clear ho3 hb3 B2
    go_wp2_with fail
    refine (HI.out _ _ _ (HTB.out.keep B3.out) O3.out).mono ?_
    rintro e w4 ⟨rfl, hb4⟩
    have O4 := Lib.hid (O3.out.at_ hb4)
    have B4 := Lib.hid (below_next B3.out hb4)
    clear hb4 O3 B3
    go_wp2_with fail
    refine (HT.out _ (HH.out.at_ B4.out)).mono ?_
    rintro e w5 ⟨A5, rfl, ho5, hb5⟩
    have O5 := Lib.hid (Rd.of_own ho5)
    have O4' := Lib.hid (O4.out.at_ hb5)
    have B5 := Lib.hid (below_next B4.out hb5)
    clear ho5 hb5 O4 B4
    go_wp2_with fail
    refine (HE.out _ _ _ _ _ O4'.out O5.out).mono ?_
    intro e w6 hq6
    obtain ⟨rfl, hb6⟩ := hq6.below
    have B6 := Lib.hid (below_next B5.out hb6)
    clear hb6 hq6
    go_wp2_with fail
    go_ret
    exact ⟨rfl, B6.out⟩
theorem cl_laid : laidOutB Tryd.prog = true := by kernel_rfl
theorem door_met (os : Os) (args : Array Value) : laidMetH Tryd.prog Rows.fnExactCyclesTextRow.laid ((World.laidAll Tryd.prog os Rows.fnExactCyclesTextRow.laid).forCall (fun _ _ => 0) ⟨#[], args, []⟩).memory := by
  rw [MakeChecks.laidMetH_plain _ _ _ (by kernel_rfl)]
  exact laidMet_laidAll _ (by kernel_rfl) (by kernel_rfl)
set_option maxRecDepth 100000 in
theorem lifted (os : Os) (started : os.Started) (H : Type) (enc : TypeId × Value → H) :
    ReturnsInHanded {} Tryd.checked os 3 .any (fun w args => (Rows.fnExactCyclesTextSpec.pre enc Tryd.prog Tryd.f3 [] false w args ∧ laidMetH Tryd.prog Rows.fnExactCyclesTextRow.laid w) ∧ sizedMet enc Tryd.prog Tryd.f3 (OpenSpec.ofChange Rows.fnExactCyclesTextSpec) false w args)
      (Rows.fnExactCyclesTextSpec.post enc Tryd.prog Tryd.f3 false true false false) := by
  refine returnsInHanded_of_calls (C := Tryd.checked) own started (by kernel_rfl)
    (ChangeSpec.witness_shaped (enc := enc) (C := Tryd.checked) (os := os) (X := fun w _ => laidMetH Tryd.prog Rows.fnExactCyclesTextRow.laid w) false (World.laidAll Tryd.prog os Rows.fnExactCyclesTextRow.laid) #[.slice none 0 0] 8 (World.laidAll_os _ _ _) (World.shaped_of_ZipB (by kernel_rfl) (by kernel_rfl)) (by kernel_rfl) (by kernel_rfl) (by kernel_rfl) (door_met os _)) ?_
  intro w tape i _ hsh _ hok hpre _
  obtain ⟨_, _, _, fn', hfn', _, _, _, _, hval0⟩ := hok
  obtain rfl : fn' = Tryd.f3 := Option.some.inj (hfn'.symm.trans Tryd.func3)
  obtain ⟨⟨⟨ds, gs, before, hw, _⟩, hlaid⟩, _⟩ := hpre
  have hW := DataW.Whole.of_heap (w' := w.forCall tape i) (by rfl) hw
  have hL := tab_in_laid (w' := w.forCall tape i) (pre := [_, _]) (suf := []) rfl (fun w => MakeChecks.laidMetH_plain _ _ _ (by kernel_rfl)) hlaid rfl
  clear hsh hlaid
  generalize w.forCall tape i = W at *
  generalize i.args = args at *
  generalize w.heap.size = base at *
  have hval : ∀ (j : Nat) t v, Tryd.f3.params[j]? = some t → args[j]? = some v → Value.okWide Tryd.prog W .any base t v := hval0
  have hW' := hW
  have hlt : ∀ p ∈ before, p.block < W.heap.size := fun p hp => hW.lt p hp
  obtain ⟨p, q, hA0, hV, rfl, hfz, hnd⟩ := hW
  have hA : DataW.TrodAll enc Tryd.prog W 0 (fun _ => true) true Tryd.f3.params.toList args.toList ds p := hA0
  rw [Tryd.params3] at hA hval
  have hA1 := hA
  obtain ⟨v0, vs0, d0, ds0, p0, q0, hargs, rfl, rfl, h0, r0⟩ := trodAll_cons hA
  obtain ⟨rfl, rfl, rfl⟩ := trodAll_nil r0
  obtain rfl : args = #[v0] := by cases args; simp_all
  obtain ⟨rfl, rfl⟩ := trodVars_none hV
  obtain ⟨A0, xs0, c0, rfl, hx0, hr0, bf0⟩ := open_il h0 (okWide_slice Tryd.underlying22 (hval 0 _ _ rfl rfl))
  clear hA0 hval0
  refine (walk A0 xs0 c0 W hr0 hx0 bf0 hL).mono fun e W' ⟨he, hb⟩ => ?_
  subst he
  rw [List.append_nil] at hW' hlt
  exact ChangeSpec.post_blind (post_of_below (pa := _) (pv := []) hW' (fun _ _ _ => (trodAll_cons_mk (shut_bool Tryd.underlying4 _) trodAll_mk0))
    (fun sp hsp => trodAll_below cl_laid hb _ _ _ _ (by kernel_rfl) hA1 hlt hsp) (fun _ _ => rfl) (List.append_nil _).symm hb (ok_one (by kernel_rfl) rfl (okWide_bool_mk Tryd.underlying4 _)))
theorem row_holds : Rows.FnExactCyclesTextSaid :=
  OpenClaim.holds_of_wide 3 Tryd.f3 rfl rfl rfl rfl rfl rfl rfl ⟨rfl, rfl, rfl, rfl, rfl⟩ rfl rfl rfl rfl rfl (by kernel_rfl) Tryd.func3 (by kernel_rfl)
    (of_decide_eq_true (by kernel_rfl)) (by unfold Func.isWrapper; first | (rw [if_pos (by decide +kernel)]; kernel_rfl) | (rw [if_neg (by decide +kernel)]; exact ⟨rfl, rfl⟩))
    (fun os started H enc _ => lifted os started H enc)
theorem card_holds : Rows.FnExactCyclesTextCardSaid :=
  Claim7.holds_tied_plain_at .later [] [.data, .data, .data] true (true, "90a7add8bd7007c4e0fb23fb290c4998ebc473ed6c59d5a4e5ceda466c11f6f2") false
    row_holds (fun _ h => by cases h) (by kernel_rfl) (fun _ h => by cases h) fnExactCyclesText_row_tie rfl ⟨rfl, rfl⟩ (by kernel_rfl) rfl
    (fun f fn hf hfn => by
      obtain rfl : f = 3 := Option.some.inj ((show Tryd.prog.funcNamed "loop.example/g01339/laws.FnExactCyclesText" = some 3 by kernel_rfl).symm.trans hf) |>.symm
      obtain rfl : fn = Tryd.f3 := (Option.some.inj (Tryd.func3.symm.trans hfn)).symm
      exact ⟨by kernel_rfl, fun j t ht => by
        rw [Tryd.params3] at ht
        have hm : t ∈ [22] := by simpa using Array.mem_of_getElem? ht
        have hall : ([22].all fun u => !Tryd.prog.wantsStandIn u) = true := by kernel_rfl
        exact (show Tryd.prog.wantsStandIn t = false by simpa using List.all_eq_true.1 hall t hm)⟩)
    (by kernel_rfl)
end Go.Proofs.YtadkpmmbnenemaaDoor
