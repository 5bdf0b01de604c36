/-
  impl.RecoverJournal returns what spec.RecoverJournal returns, for every text (the law FnExactRecoverJournal returns true), and each call hands a fresh list. No condition.
-/
import Derived.Test.YthfkibecbbkhlaaDoorRows
import Derived.Test.YthfkibecbbkhlaaDoorCards
import Derived.Test.YthfkibecbbkhlaaDoorTie
import Derived.Test.YthfkibecbbkhlaaDoorRj4
import Derived.Test.YthfkibecbbkhlaaDoorMk
import Derived.Test.YthfkibecbbkhlaaDoorOps
import Derived.LaidMore
import Derived.Lay
import Derived.MakeChecks
import Derived.ChangeMaps5
import Derived.Stop.Joined
import Derived.SevenTiedAt
namespace Go.Proofs.YthfkibecbbkhlaaDoor
open Go Go.ChangeMaps Go.ChangeShapes Go.WideShapes Go.ChangeAt Go.RowKit

set_option maxRecDepth 100000 in
set_option maxHeartbeats 3200000 in
theorem walk (s : ByteArray) (w : World) (mx : Int) (hx : s.size ≤ 9223372036854775807) (hm : w.cell? ⟨0, 0, none⟩ = some (.int .i64 mx)) (ht : Tab w) :
    Calls Tryd.prog 4 #[.string s] w (fun e w' => e = .returned (.bool true) ∧ Below w.heap.size w w') := by
  obtain ⟨N, hN⟩ := stop_ex s
  have hl := rjX_len s N
  have hle := rjN_le s hN
  have HTB := Lib.hid ht
  have HM := Lib.hid hm
  have HS := Lib.hid fun w => specRecover_any s N hN w hx
  have HI := Lib.hid fun w hm ht => implRecover_any s N hN w mx hx hm ht
  clear hm ht hN
  unfold RjOut at HS HI
  rw [← hl] at HS HI hle
  clear hl
  generalize rjX s N = X at *
  generalize rjO s N = O at *
  generalize decide (s.size ≤ 16000) = R at *
  clear N
  have HE := Lib.hid fun A B c d w hA hB => eqStringS_yes A B X c d w (by omega) hA hB
  have HK := Lib.hid fun A base c w ho => markStringS_any A base X.length (sl X) c 1 w (by omega) (by omega) ho
  have HH := Lib.hid fun A c w hr => heldStringS_any A X.length c 1 w (by omega) (by omega) hr
  have hcast : ((1 + X.length : Nat) : Int) = 1 + (X.length : Int) := by omega
  rw [hcast] at HK HH
  clear hcast
  generalize X.length = L at *
  go_enter Tryd.func4, Tryd.ntmps4
  cases R
  all_goals
    by_cases hbig : 1048576 < s.size
    · go_wp2_with fail
      go_ret
      exact ⟨rfl, Below.refl _ _⟩
    · go_wp2_with fail
      refine (HS.out _).mono ?_
      rintro e w1 ⟨A1, c1, rfl, ho1, hb1⟩
      have O1 := Lib.hid ho1
      have B1 := Lib.hid hb1
      clear ho1 hb1
      go_wp2_with fail
      refine (HI.out _ (keepC B1.out HM.out) (HTB.out.keep B1.out)).mono ?_
      rintro e w2 ⟨A2, c2, rfl, ho2, hb2⟩
      have O2 := Lib.hid ho2
      have B2 := Lib.hid hb2
      clear ho2 hb2
      go_wp2_with fail
      refine (HE.out _ _ _ _ _ (Rd.of_own O2.out) ((Rd.of_own O1.out).at_ B2.out)).mono ?_
      rintro e w3 ⟨rfl, m, rfl⟩
      go_wp2_with fail
      refine (HK.out _ _ _ _ (own_below O2.out (below_drewN (Below.refl _ _) m))).mono ?_
      rintro e w4 ⟨rfl, ho4, hg4⟩
      have O4 := Lib.hid ho4
      have B4 : Hid (Below w1.heap.size w1 w4) := Lib.hid ((below_drewN B2.out m).grown hg4 B2.out.size (fun q hq => (O2.out.lt q hq).1))
      clear ho4 hg4
      go_wp2_with fail
      refine (HH.out _ _ _ (Rd.of_own O4.out)).mono ?_
      rintro e w5 ⟨rfl, hb5⟩
      have B5 := Lib.hid (below_next B4.out hb5)
      have C5 := Lib.hid hb5
      clear hb5
      go_wp2_with fail
      refine (HI.out _ (keepC (below_next B1.out B5.out) HM.out) (HTB.out.keep (below_next B1.out B5.out))).mono ?_
      rintro e w6 ⟨A3, c3, rfl, ho6, hb6⟩
      have O6 := Lib.hid ho6
      have B6 := Lib.hid (below_next B5.out hb6)
      have C6 := Lib.hid (below_next C5.out hb6)
      clear ho6 hb6
      go_wp2_with fail
      refine (HE.out _ _ _ _ _ (Rd.of_own O6.out) ((Rd.of_own O1.out).at_ B6.out)).mono ?_
      rintro e w7 ⟨rfl, m2, rfl⟩
      go_wp2_with fail
      refine (HH.out _ _ _ ((Rd.of_own O4.out).at_ (below_drewN C6.out m2))).mono ?_
      rintro e w8 ⟨rfl, hb8⟩
      have B8 := Lib.hid (below_next (below_drewN B6.out m2) hb8)
      clear hb8
      go_wp2_with fail
      go_ret
      exact ⟨rfl, below_next B1.out B8.out⟩

theorem cl_laid : laidOutB Tryd.prog = true := by kernel_rfl
theorem door_met (os : Os) (args : Array Value) : laidMetH Tryd.prog Rows.fnExactRecoverJournalRow.laid ((World.laidAll Tryd.prog os Rows.fnExactRecoverJournalRow.laid).forCall (fun _ _ => 0) ⟨#[], args, []⟩).memory := by
  rw [MakeChecks.laidMetH_plain _ _ _ (by kernel_rfl)]
  exact laidMet_laidAll _ (by kernel_rfl) (by kernel_rfl)
set_option maxRecDepth 100000 in
theorem lifted (os : Os) (started : os.Started) (H : Type) (enc : TypeId × Value → H) :
    ReturnsInHanded {} Tryd.checked os 4 .any (fun w args => (Rows.fnExactRecoverJournalSpec.pre enc Tryd.prog Tryd.f4 [] false w args ∧ laidMetH Tryd.prog Rows.fnExactRecoverJournalRow.laid w) ∧ sizedMet enc Tryd.prog Tryd.f4 (OpenSpec.ofChange Rows.fnExactRecoverJournalSpec) false w args)
      (Rows.fnExactRecoverJournalSpec.post enc Tryd.prog Tryd.f4 false true false false) := by
  refine returnsInHanded_of_calls (C := Tryd.checked) own started (by kernel_rfl)
    (ChangeSpec.witness_shaped (enc := enc) (C := Tryd.checked) (os := os) (X := fun w _ => laidMetH Tryd.prog Rows.fnExactRecoverJournalRow.laid w) false (World.laidAll Tryd.prog os Rows.fnExactRecoverJournalRow.laid) #[.string ByteArray.empty] 8 (World.laidAll_os _ _ _) (World.shaped_of_ZipB (by kernel_rfl) (by kernel_rfl)) (by kernel_rfl) (by kernel_rfl) (by kernel_rfl) (door_met os _)) ?_
  intro w tape i _ hsh _ hok hpre _
  obtain ⟨_, _, _, fn', hfn', _, _, _, _, hval0⟩ := hok
  obtain rfl : fn' = Tryd.f4 := Option.some.inj (hfn'.symm.trans Tryd.func4)
  obtain ⟨⟨⟨ds, gs, before, hw, _⟩, hlaid⟩, _⟩ := hpre
  have hW := DataW.Whole.of_heap (w' := w.forCall tape i) (by rfl) hw
  obtain ⟨mx, hmx⟩ := Tryd.laysM219.s1_3 _ hsh
  have hL := tab_of_laid (w' := w.forCall tape i) rfl (fun w => MakeChecks.laidMetH_plain _ _ _ (by kernel_rfl)) hlaid rfl
  clear hsh hlaid
  generalize w.forCall tape i = W at *
  generalize i.args = args at *
  generalize w.heap.size = base at *
  have hval : ∀ (j : Nat) t v, Tryd.f4.params[j]? = some t → args[j]? = some v → Value.okWide Tryd.prog W .any base t v := hval0
  have hW' := hW
  have hlt : ∀ p ∈ before, p.block < W.heap.size := fun p hp => hW.lt p hp
  obtain ⟨p, q, hA0, hV, rfl, hfz, hnd⟩ := hW
  have hA : DataW.TrodAll enc Tryd.prog W 0 (fun _ => true) true Tryd.f4.params.toList args.toList ds p := hA0
  rw [Tryd.params4] at hA hval
  have hA1 := hA
  obtain ⟨v0, vs0, d0, ds0, p0, q0, hargs, rfl, rfl, h0, r0⟩ := trodAll_cons hA
  obtain ⟨rfl, rfl, rfl⟩ := trodAll_nil r0
  obtain rfl : args = #[v0] := by cases args; simp_all
  obtain ⟨rfl, rfl⟩ := trodVars_none hV
  obtain ⟨s0, rfl, rfl, rfl, ws0⟩ := open_string Tryd.underlying9 (hval 0 _ _ rfl rfl) h0
  have hs0 : s0.size ≤ 9223372036854775807 := by unfold maxLen at ws0; omega
  clear hA0 hval0
  refine (walk s0 W mx hs0 hmx hL).mono fun e W' ⟨he, hb⟩ => ?_
  subst he
  rw [List.append_nil] at hW' hlt
  exact ChangeSpec.post_blind (post_of_below (pa := _) (pv := []) hW' (fun _ _ _ => (trodAll_cons_mk (shut_bool Tryd.underlying4 _) trodAll_mk0))
    (fun sp hsp => trodAll_below cl_laid hb _ _ _ _ (by kernel_rfl) hA1 hlt hsp) (fun _ _ => rfl) (List.append_nil _).symm hb (ok_one (by kernel_rfl) rfl (okWide_bool_mk Tryd.underlying4 _)))
theorem row_holds : Rows.FnExactRecoverJournalSaid :=
  OpenClaim.holds_of_wide 4 Tryd.f4 rfl rfl rfl rfl rfl rfl rfl ⟨rfl, rfl, rfl, rfl, rfl⟩ rfl rfl rfl rfl rfl (by kernel_rfl) Tryd.func4 (by kernel_rfl)
    (of_decide_eq_true (by kernel_rfl)) (by unfold Func.isWrapper; first | (rw [if_pos (by decide +kernel)]; kernel_rfl) | (rw [if_neg (by decide +kernel)]; exact ⟨rfl, rfl⟩))
    (fun os started H enc _ => lifted os started H enc)
theorem card_holds : Rows.FnExactRecoverJournalCardSaid :=
  Claim7.holds_tied_plain_at .later [] [.data, .data, .data] true (true, "c464a63acf787b58ba61872302db468bd8837bd760fd14934ef3a4a522f229db") false
    row_holds (fun _ h => by cases h) (by kernel_rfl) (fun _ h => by cases h) fnExactRecoverJournal_row_tie rfl ⟨rfl, rfl⟩ (by kernel_rfl) rfl
    (fun f fn hf hfn => by
      obtain rfl : f = 4 := Option.some.inj ((show Tryd.prog.funcNamed "loop.example/g01339/laws.FnExactRecoverJournal" = some 4 by kernel_rfl).symm.trans hf) |>.symm
      obtain rfl : fn = Tryd.f4 := (Option.some.inj (Tryd.func4.symm.trans hfn)).symm
      exact ⟨by kernel_rfl, fun j t ht => by
        rw [Tryd.params4] at ht
        have hm : t ∈ [9] := by simpa using Array.mem_of_getElem? ht
        have hall : ([9].all fun u => !Tryd.prog.wantsStandIn u) = true := by kernel_rfl
        exact (show Tryd.prog.wantsStandIn t = false by simpa using List.all_eq_true.1 hall t hm)⟩)
    (by kernel_rfl)
end Go.Proofs.YthfkibecbbkhlaaDoor
