/-
  impl.JournalOf returns what spec.JournalOf returns, for every list of texts (the law FnExactJournalOf returns true), and leaves it as it was. No condition.
-/
import Derived.Test.YthfkibecbbkhlaaDoorRows
import Derived.Test.YthfkibecbbkhlaaDoorCards
import Derived.Test.YthfkibecbbkhlaaDoorTie
import Derived.Test.YthfkibecbbkhlaaDoorJr3
import Derived.Test.YthfkibecbbkhlaaDoorTst
import Derived.Test.YthfkibecbbkhlaaDoorOps
import Derived.LaidMore
import Derived.Lay
import Derived.MakeChecks
import Derived.ChangeMaps5
import Derived.Stop.Joined
import Derived.SevenTiedAt
namespace Go.Proofs.YthfkibecbbkhlaaDoor
open Go Go.ChangeMaps Go.ChangeShapes Go.WideShapes Go.ChangeAt Go.RowKit

set_option maxRecDepth 100000 in
set_option maxHeartbeats 3200000 in
theorem walk (A : Option Addr) (ps : List ByteArray) (c : Nat) (w : World) (h : Rd w w.heap.size A (sl ps)) (hx : ps.length ≤ 9223372036854775807) (hb : ∀ k, (ps.getD k ByteArray.empty).size ≤ 9223372036854775807) (ht : Tab w) :
    Calls Tryd.prog 3 #[.slice A ps.length c] w (fun e w' => e = .returned (.bool true) ∧ Below w.heap.size w w') := by
  have HZ := Lib.hid (szStringS_any A ps c w hx hb h)
  have HH := Lib.hid h
  have HTB := Lib.hid ht
  have HT := Lib.hid fun hn w h => toStringS_any A ps c w hn h
  have HE := Lib.hid fun A B c d w hA hB => eqStringS_yes A B ps c d w hx hA hB
  have HS := Lib.hid fun hn hps A c w h => specJournalOf_any A ps c w hn hps h
  have HI := Lib.hid fun hn hps A c w ht h => JournalOf_any A ps c w hn hps ht h
  unfold SzOut at HZ
  unfold JOut at HS HI
  clear h hb ht
  generalize textJ ps = T at *
  generalize okJ ps = R at *
  cases R
  all_goals
    go_enter Tryd.func3, Tryd.ntmps3
    go_wp2_with fail
    refine HZ.out.mono ?_
    rintro e w1 ⟨r, rfl, hr, rfl⟩
    have HRR := Lib.hid hr
    clear hr
    by_cases hneg : r < 0
    · go_wp2_with fail
      go_ret
      exact ⟨rfl, Below.refl _ _⟩
    · obtain ⟨hn, hps⟩ := HRR.out (by omega)
      have HPS := Lib.hid hps
      clear hps
      go_wp2_with fail
      refine (HT.out hn _ HH.out).mono ?_
      rintro e w2 ⟨A2, rfl, ho2, hb2⟩
      have B2 := Lib.hid hb2
      have O2 := Lib.hid (Rd.of_own ho2)
      clear ho2 hb2
      go_wp2_with fail
      refine (HS.out hn HPS.out _ _ _ O2.out).mono ?_
      rintro e w3 ⟨rfl, hb3⟩
      have B3 := Lib.hid (below_next B2.out hb3)
      clear hb3 O2 B2
      go_wp2_with fail
      refine (HT.out hn _ (HH.out.at_ B3.out)).mono ?_
      rintro e w4 ⟨A4, rfl, ho4, hb4⟩
      have B4 := Lib.hid (below_next B3.out hb4)
      have O4 := Lib.hid (Rd.of_own ho4)
      clear ho4 hb4 B3
      go_wp2_with fail
      refine (HI.out hn HPS.out _ _ _ (HTB.out.keep B4.out) O4.out).mono ?_
      rintro e w5 ⟨rfl, hb5⟩
      have B5 := Lib.hid (below_next B4.out hb5)
      have O5 := Lib.hid (O4.out.at_ hb5)
      clear hb5 B4 O4
      go_wp2_with fail
      refine (HT.out hn _ (HH.out.at_ B5.out)).mono ?_
      rintro e w6 ⟨A6, rfl, ho6, hb6⟩
      have B6 := Lib.hid (below_next B5.out hb6)
      have O6 := Lib.hid (Rd.of_own ho6)
      have O56 := Lib.hid (O5.out.at_ hb6)
      clear ho6 hb6 B5 O5
      go_wp2_with fail
      refine (HE.out _ _ _ _ _ O56.out O6.out).mono ?_
      rintro e w7 ⟨rfl, m, rfl⟩
      go_wp2_with fail
      go_ret
      exact ⟨rfl, below_dn B6.out m⟩

theorem cl_laid : laidOutB Tryd.prog = true := by kernel_rfl
theorem door_met (os : Os) (args : Array Value) : laidMetH Tryd.prog Rows.fnExactJournalOfRow.laid ((World.laidAll Tryd.prog os Rows.fnExactJournalOfRow.laid).forCall (fun _ _ => 0) ⟨#[], args, []⟩).memory := by
  rw [MakeChecks.laidMetH_plain _ _ _ (by kernel_rfl)]
  exact laidMet_laidAll _ (by kernel_rfl) (by kernel_rfl)
set_option maxRecDepth 100000 in
theorem lifted (os : Os) (started : os.Started) (H : Type) (enc : TypeId × Value → H) :
    ReturnsInHanded {} Tryd.checked os 3 .any (fun w args => (Rows.fnExactJournalOfSpec.pre enc Tryd.prog Tryd.f3 [] false w args ∧ laidMetH Tryd.prog Rows.fnExactJournalOfRow.laid w) ∧ sizedMet enc Tryd.prog Tryd.f3 (OpenSpec.ofChange Rows.fnExactJournalOfSpec) false w args)
      (Rows.fnExactJournalOfSpec.post enc Tryd.prog Tryd.f3 false true false false) := by
  refine returnsInHanded_of_calls (C := Tryd.checked) own started (by kernel_rfl)
    (ChangeSpec.witness_shaped (enc := enc) (C := Tryd.checked) (os := os) (X := fun w _ => laidMetH Tryd.prog Rows.fnExactJournalOfRow.laid w) false (World.laidAll Tryd.prog os Rows.fnExactJournalOfRow.laid) #[.slice none 0 0] 8 (World.laidAll_os _ _ _) (World.shaped_of_ZipB (by kernel_rfl) (by kernel_rfl)) (by kernel_rfl) (by kernel_rfl) (by kernel_rfl) (door_met os _)) ?_
  intro w tape i _ hsh _ hok hpre _
  obtain ⟨_, _, _, fn', hfn', _, _, _, _, hval0⟩ := hok
  obtain rfl : fn' = Tryd.f3 := Option.some.inj (hfn'.symm.trans Tryd.func3)
  obtain ⟨⟨⟨ds, gs, before, hw, _⟩, hlaid⟩, _⟩ := hpre
  have hW := DataW.Whole.of_heap (w' := w.forCall tape i) (by rfl) hw
  have hL := tab_of_laid (w' := w.forCall tape i) rfl (fun w => MakeChecks.laidMetH_plain _ _ _ (by kernel_rfl)) hlaid rfl
  clear hsh hlaid
  generalize w.forCall tape i = W at *
  generalize i.args = args at *
  generalize w.heap.size = base at *
  have hval : ∀ (j : Nat) t v, Tryd.f3.params[j]? = some t → args[j]? = some v → Value.okWide Tryd.prog W .any base t v := hval0
  have hW' := hW
  have hlt : ∀ p ∈ before, p.block < W.heap.size := fun p hp => hW.lt p hp
  obtain ⟨p, q, hA0, hV, rfl, hfz, hnd⟩ := hW
  have hA : DataW.TrodAll enc Tryd.prog W 0 (fun _ => true) true Tryd.f3.params.toList args.toList ds p := hA0
  rw [Tryd.params3] at hA hval
  have hA1 := hA
  obtain ⟨v0, vs0, d0, ds0, p0, q0, hargs, rfl, rfl, h0, r0⟩ := trodAll_cons hA
  obtain ⟨rfl, rfl, rfl⟩ := trodAll_nil r0
  obtain rfl : args = #[v0] := by cases args; simp_all
  obtain ⟨rfl, rfl⟩ := trodVars_none hV
  obtain ⟨A0, ps0, c0, rfl, hx0, hr0, bf0⟩ := open_sl h0 (okWide_slice Tryd.underlying22 (hval 0 _ _ rfl rfl))
  clear hA0 hval0
  refine (walk A0 ps0 c0 W hr0 hx0 bf0 hL).mono fun e W' ⟨he, hb⟩ => ?_
  subst he
  rw [List.append_nil] at hW' hlt
  exact ChangeSpec.post_blind (post_of_below (pa := _) (pv := []) hW' (fun _ _ _ => (trodAll_cons_mk (shut_bool Tryd.underlying4 _) trodAll_mk0))
    (fun sp hsp => trodAll_below cl_laid hb _ _ _ _ (by kernel_rfl) hA1 hlt hsp) (fun _ _ => rfl) (List.append_nil _).symm hb (ok_one (by kernel_rfl) rfl (okWide_bool_mk Tryd.underlying4 _)))
theorem row_holds : Rows.FnExactJournalOfSaid :=
  OpenClaim.holds_of_wide 3 Tryd.f3 rfl rfl rfl rfl rfl rfl rfl ⟨rfl, rfl, rfl, rfl, rfl⟩ rfl rfl rfl rfl rfl (by kernel_rfl) Tryd.func3 (by kernel_rfl)
    (of_decide_eq_true (by kernel_rfl)) (by unfold Func.isWrapper; first | (rw [if_pos (by decide +kernel)]; kernel_rfl) | (rw [if_neg (by decide +kernel)]; exact ⟨rfl, rfl⟩))
    (fun os started H enc _ => lifted os started H enc)
theorem card_holds : Rows.FnExactJournalOfCardSaid :=
  Claim7.holds_tied_plain_at .later [] [.data, .data, .data] true (true, "c464a63acf787b58ba61872302db468bd8837bd760fd14934ef3a4a522f229db") false
    row_holds (fun _ h => by cases h) (by kernel_rfl) (fun _ h => by cases h) fnExactJournalOf_row_tie rfl ⟨rfl, rfl⟩ (by kernel_rfl) rfl
    (fun f fn hf hfn => by
      obtain rfl : f = 3 := Option.some.inj ((show Tryd.prog.funcNamed "loop.example/g01339/laws.FnExactJournalOf" = some 3 by kernel_rfl).symm.trans hf) |>.symm
      obtain rfl : fn = Tryd.f3 := (Option.some.inj (Tryd.func3.symm.trans hfn)).symm
      exact ⟨by kernel_rfl, fun j t ht => by
        rw [Tryd.params3] at ht
        have hm : t ∈ [22] := by simpa using Array.mem_of_getElem? ht
        have hall : ([22].all fun u => !Tryd.prog.wantsStandIn u) = true := by kernel_rfl
        exact (show Tryd.prog.wantsStandIn t = false by simpa using List.all_eq_true.1 hall t hm)⟩)
    (by kernel_rfl)
end Go.Proofs.YthfkibecbbkhlaaDoor
