/-
  impl.StoreRecords returns what spec.StoreRecords returns, for every row of records (the law FnExactStoreRecords returns true), and leaves the row as it was. No condition.
-/
import Derived.Test.YtielmnkhcljmeaaDoorRows
import Derived.Test.YtielmnkhcljmeaaDoorCards
import Derived.Test.YtielmnkhcljmeaaDoorTie
import Derived.Test.YtielmnkhcljmeaaDoorRq6
import Derived.LaidMore
import Derived.Lay
import Derived.MakeChecks
import Derived.ChangeMaps5
import Derived.Stop.Joined
import Derived.SevenTiedAt
import Derived.Deep.RegionHeld3
namespace Go.Proofs.YtielmnkhcljmeaaDoor
open Go Go.ChangeMaps Go.ChangeShapes Go.WideShapes Go.ChangeAt Go.RowKit

set_option maxRecDepth 100000 in
set_option maxHeartbeats 3200000 in
theorem walk (A : Option Addr) (xs : List Rc) (c : Nat) (w : World) (hx : xs.length ≤ 9223372036854775807) (hk : ∀ i (h : i < xs.length), xs[i].ok) (h : RRow w w.heap.size A xs) :
    Calls Tryd.prog 5 #[.slice A xs.length c] w (fun e w' => e = .returned (.bool true) ∧ Below w.heap.size w w') := by
  have HZ := Lib.hid (szRecordS_any A xs c w hx hk h)
  have HS := Lib.hid fun A c w h => specStoreRecords_any A xs c w hx hk h
  have HI := Lib.hid fun A c w h => StoreRecords_any A xs c w hx hk h
  have HT := Lib.hid fun hn hb w h => toRecordS_any A xs c w hn hb h
  have HE := Lib.hid fun A B c d w hA hB => eqRecordS_yes A B xs c d w hx hk hA hB
  have HH := Lib.hid h
  unfold StsOut at HS HI
  unfold SzOut at HZ
  unfold ToOut at HT
  clear h hk hx
  generalize stS xs = S at *
  generalize stB xs = R at *
  cases R
  all_goals
    go_enter Tryd.func5, Tryd.ntmps5
    go_wp2_with fail
    refine HZ.out.mono ?_
    rintro e w1 ⟨r, rfl, hr, hb1⟩
    have B1 := Lib.hid hb1
    clear hb1 HZ
    by_cases hr0 : r < 0
    · clear hr
      go_wp2_with fail
      go_ret
      exact ⟨rfl, B1.out⟩
    obtain ⟨hn, hbd⟩ := hr.resolve_left hr0
    have HT2 := Lib.hid fun w h => HT.out hn hbd w h
    clear hr hn hbd HT
    go_wp2_with fail
    refine (HT2.out _ (HH.out.at_ B1.out)).mono ?_
    rintro e w2 ⟨g2, rfl, hr2, hb2⟩
    have B2 := Lib.hid (below_next B1.out hb2)
    have R2 := Lib.hid hr2
    clear hr2 hb2 B1
    go_wp2_with fail
    refine (HS.out _ _ _ R2.out).mono ?_
    rintro e w3 ⟨rfl, hb3⟩
    have B3 := Lib.hid (below_next B2.out hb3)
    clear hb3 B2 R2
    go_wp2_with fail
    refine (HT2.out _ (HH.out.at_ B3.out)).mono ?_
    rintro e w4 ⟨g4, rfl, hr4, hb4⟩
    have B4 := Lib.hid (below_next B3.out hb4)
    have R4 := Lib.hid hr4
    clear hr4 hb4 B3
    go_wp2_with fail
    refine (HI.out _ _ _ R4.out).mono ?_
    rintro e w5 ⟨rfl, hb5⟩
    have B5 := Lib.hid (below_next B4.out hb5)
    have R5 := Lib.hid (R4.out.at_ hb5)
    clear hb5 B4 R4
    go_wp2_with fail
    refine (HT2.out _ (HH.out.at_ B5.out)).mono ?_
    rintro e w6 ⟨g6, rfl, hr6, hb6⟩
    have B6 := Lib.hid (below_next B5.out hb6)
    have R6 := Lib.hid (R5.out.at_ hb6)
    have X6 := Lib.hid hr6
    clear hr6 hb6 B5 R5
    go_wp2_with fail
    refine (HE.out _ _ _ _ _ R6.out X6.out).mono ?_
    rintro e w7 ⟨rfl, hb7⟩
    have B7 := Lib.hid (below_next B6.out hb7)
    clear hb7
    go_wp2_with fail
    go_ret
    exact ⟨rfl, B7.out⟩

theorem cl_laid : laidOutB Tryd.prog = true := by kernel_rfl
theorem door_met (os : Os) (args : Array Value) : laidMetH Tryd.prog Rows.fnExactStoreRecordsRow.laid ((World.laidAll Tryd.prog os Rows.fnExactStoreRecordsRow.laid).forCall (fun _ _ => 0) ⟨#[], args, []⟩).memory := by
  rw [MakeChecks.laidMetH_plain _ _ _ (by kernel_rfl)]
  exact laidMet_laidAll _ (by kernel_rfl) (by kernel_rfl)
set_option maxRecDepth 100000 in
theorem lifted (os : Os) (started : os.Started) (H : Type) (enc : TypeId × Value → H) :
    ReturnsInHanded {} Tryd.checked os 5 .any (fun w args => (Rows.fnExactStoreRecordsSpec.pre enc Tryd.prog Tryd.f5 [] false w args ∧ laidMetH Tryd.prog Rows.fnExactStoreRecordsRow.laid w) ∧ sizedMet enc Tryd.prog Tryd.f5 (OpenSpec.ofChange Rows.fnExactStoreRecordsSpec) false w args)
      (Rows.fnExactStoreRecordsSpec.post enc Tryd.prog Tryd.f5 false true false false) := by
  refine returnsInHanded_of_calls (C := Tryd.checked) own started (by kernel_rfl)
    (ChangeSpec.witness_shaped (enc := enc) (C := Tryd.checked) (os := os) (X := fun w _ => laidMetH Tryd.prog Rows.fnExactStoreRecordsRow.laid w) false (World.laidAll Tryd.prog os Rows.fnExactStoreRecordsRow.laid) #[.slice none 0 0] 8 (World.laidAll_os _ _ _) (World.shaped_of_ZipB (by kernel_rfl) (by kernel_rfl)) (by kernel_rfl) (by kernel_rfl) (by kernel_rfl) (door_met os _)) ?_
  intro w tape i _ hsh _ hok hpre _
  obtain ⟨_, _, _, fn', hfn', _, _, _, _, hval0⟩ := hok
  obtain rfl : fn' = Tryd.f5 := Option.some.inj (hfn'.symm.trans Tryd.func5)
  obtain ⟨⟨⟨ds, gs, before, hw, _⟩, hlaid⟩, _⟩ := hpre
  have hW := DataW.Whole.of_heap (w' := w.forCall tape i) (by rfl) hw
  clear hsh hlaid
  generalize w.forCall tape i = W at *
  generalize i.args = args at *
  generalize w.heap.size = base at *
  have hval : ∀ (j : Nat) t v, Tryd.f5.params[j]? = some t → args[j]? = some v → Value.okWide Tryd.prog W .any base t v := hval0
  have hW' := hW
  have hlt : ∀ p ∈ before, p.block < W.heap.size := fun p hp => hW.lt p hp
  obtain ⟨p, q, hA0, hV, rfl, hfz, hnd⟩ := hW
  have hA : DataW.TrodAll enc Tryd.prog W 0 (fun _ => true) true Tryd.f5.params.toList args.toList ds p := hA0
  rw [Tryd.params5] at hA hval
  have hA1 := hA
  obtain ⟨v0, vs0, d0, ds0, p0, q0, hargs, rfl, rfl, h0, r0⟩ := trodAll_cons hA
  obtain ⟨rfl, rfl, rfl⟩ := trodAll_nil r0
  obtain rfl : args = #[v0] := by cases args; simp_all
  obtain ⟨rfl, rfl⟩ := trodVars_none hV
  obtain ⟨A0, xs0, c0, rfl, hx0, hk0, hr0⟩ := open_recs h0 (okWide_slice Tryd.underlying38 (hval 0 _ _ rfl rfl))
  clear hA0 hval0
  refine (walk A0 xs0 c0 W hx0 hk0 hr0).mono fun e W' ⟨he, hb⟩ => ?_
  subst he
  rw [List.append_nil] at hW' hlt
  exact ChangeSpec.post_blind (post_of_below (pa := _) (pv := []) hW' (fun _ _ _ => (trodAll_cons_mk (shut_bool Tryd.underlying4 _) trodAll_mk0))
    (fun sp hsp => trodAll_below cl_laid hb _ _ _ _ (by kernel_rfl) hA1 hlt hsp) (fun _ _ => rfl) (List.append_nil _).symm hb (ok_one (by kernel_rfl) rfl (okWide_bool_mk Tryd.underlying4 _)))
theorem row_holds : Rows.FnExactStoreRecordsSaid :=
  OpenClaim.holds_of_wide 5 Tryd.f5 rfl rfl rfl rfl rfl rfl rfl ⟨rfl, rfl, rfl, rfl, rfl⟩ rfl rfl rfl rfl rfl (by kernel_rfl) Tryd.func5 (by kernel_rfl)
    (of_decide_eq_true (by kernel_rfl)) (by unfold Func.isWrapper; first | (rw [if_pos (by decide +kernel)]; kernel_rfl) | (rw [if_neg (by decide +kernel)]; exact ⟨rfl, rfl⟩))
    (fun os started H enc _ => lifted os started H enc)
theorem card_holds : Rows.FnExactStoreRecordsCardSaid :=
  Claim7.holds_tied_plain_at .later [] [.data, .pinned] true (true, "be79712084d56054debae670ab95c1ba41e85b82581e17572783014f77c3dd1e") false
    row_holds (fun _ h => by cases h) (by kernel_rfl) (fun _ h => by cases h) fnExactStoreRecords_row_tie rfl ⟨rfl, rfl⟩ (by kernel_rfl) rfl
    (fun f fn hf hfn => by
      obtain rfl : f = 5 := Option.some.inj ((show Tryd.prog.funcNamed "loop.example/g01339/laws.FnExactStoreRecords" = some 5 by kernel_rfl).symm.trans hf) |>.symm
      obtain rfl : fn = Tryd.f5 := (Option.some.inj (Tryd.func5.symm.trans hfn)).symm
      exact ⟨by kernel_rfl, fun j t ht => by
        rw [Tryd.params5] at ht
        have hm : t ∈ [38] := by simpa using Array.mem_of_getElem? ht
        have hall : ([38].all fun u => !Tryd.prog.wantsStandIn u) = true := by kernel_rfl
        exact (show Tryd.prog.wantsStandIn t = false by simpa using List.all_eq_true.1 hall t hm)⟩)
    (by kernel_rfl)
end Go.Proofs.YtielmnkhcljmeaaDoor
