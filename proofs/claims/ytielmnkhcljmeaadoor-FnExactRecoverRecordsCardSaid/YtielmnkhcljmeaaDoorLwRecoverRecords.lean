/-
  impl.RecoverRecords returns what spec.RecoverRecords returns, for every text (the law FnExactRecoverRecords returns true); what it returns is its caller's own. No condition.
-/
import Derived.Test.YtielmnkhcljmeaaDoorRows
import Derived.Test.YtielmnkhcljmeaaDoorCards
import Derived.Test.YtielmnkhcljmeaaDoorTie
import Derived.Test.YtielmnkhcljmeaaDoorRv9
import Derived.LaidMore
import Derived.Lay
import Derived.MakeChecks
import Derived.ChangeMaps5
import Derived.Stop.Joined
import Derived.SevenTiedAt
namespace Go.Proofs.YtielmnkhcljmeaaDoor
open Go Go.ChangeMaps Go.ChangeShapes Go.WideShapes Go.ChangeAt Go.RowKit

theorem rcvs_ok : ∀ (n : Nat) (l : List UInt8), l.length ≤ 1048576 → ∀ r ∈ rcvs n l, r.ok
  | 0, _, _, r, h => absurd h (by simp [rcvs])
  | n + 1, l, hl, r, h => by
    unfold rcvs at h
    split at h
    · rename_i hf
      rw [List.mem_cons] at h
      rcases h with rfl | h
      · unfold frR
        rw [if_pos hf]
        have h1 := long_facts (fr_long hf).1
        refine ⟨?_, aL_range l, bL_range l, ?_⟩
        · have := nmS_size (l := l) (by omega)
          show (nmS l).size ≤ _
          omega
        · show (dsL l (manyL l)).length ≤ _
          rw [dsL_len]
          have := manyL_lt l
          omega
      · exact rcvs_ok n _ (by rw [List.length_drop]; omega) r h
    · exact absurd h (by simp)
set_option maxRecDepth 100000 in
set_option maxHeartbeats 6400000 in
theorem walk (s : ByteArray) (w : World) (hs : s.size ≤ 9223372036854775807) :
    Calls Tryd.prog 7 #[.string s] w (fun e w' => e = .returned (.bool true) ∧ Below w.heap.size w w') := by
  by_cases hbig : (1048576 : Int) < (s.size : Int)
  · go_enter Tryd.func7, Tryd.ntmps7
    go_wp2_with fail
    go_ret
    exact ⟨rfl, Below.refl _ _⟩
  have hs2 : s.size ≤ 1048576 := by omega
  have hX8 := rcvs_len 8 s.data.toList
  have hXd := rcvs_ds 8 s.data.toList
  have hXo := rcvs_ok 8 s.data.toList (by rw [← Lib.size_eq]; exact hs2)
  have HS := Lib.hid fun w => specRecoverRecords_any s w hs2
  have HI := Lib.hid fun w => RecoverRecords_any s w hs2
  unfold RvOut at HS HI
  generalize rcvs 8 s.data.toList = X at *
  generalize plc 8 s.data.toList = p at *
  have HE := Lib.hid fun A B c d w hA hB => eqRecordS_yes A B X c d w (by omega) (fun i h => hXo _ (List.getElem_mem h)) hA hB
  have HTL : Hid (∀ ts : List Rt, ts.map (·.1) = X → ts.length = X.length ∧ ts.length ≤ 8 ∧ ∀ t ∈ ts, t.1.ds.length ≤ 65535) := Lib.hid fun ts h => ⟨by rw [← h, List.length_map], by rw [← h, List.length_map] at hX8; exact hX8, fun t ht => hXd _ (by rw [← h]; exact List.mem_map.2 ⟨t, ht, rfl⟩)⟩
  clear hX8 hXd hXo
  go_enter Tryd.func7, Tryd.ntmps7
  go_wp2_with fail
  refine (HS.out _).mono ?_
  rintro e w1 ⟨A1, c1, ts1, hm1, rfl, ho1, hb1⟩
  have R1 : Hid (RRow w1 w1.heap.size A1 X) := Lib.hid (by rw [← hm1]; exact ho1.row)
  have B1 := Lib.hid hb1
  rw [(HTL.out _ hm1).1]
  clear hm1 ho1 hb1 HS
  go_wp2_with fail
  refine (HI.out _).mono ?_
  rintro e w2 ⟨A2, c2, ts2, hm2, rfl, ho2, hb2⟩
  obtain ⟨hl2, h82, hd2⟩ := HTL.out _ hm2
  have HMK := Lib.hid fun base w hb h => markRecordS_any A2 ts2 c2 base w h82 hd2 hb h
  have HHD := Lib.hid fun w h => heldRecordS_any A2 ts2 c2 w h82 hd2 h
  rw [hl2] at HMK HHD
  have K2 : Hid (RRow w2 w2.heap.size A2 X) := Lib.hid (by rw [← hm2]; exact ho2.row)
  rw [hl2] at ho2
  have O2 := Lib.hid ho2
  have D2 : Hid (Below w1.heap.size w1 w2) := Lib.hid hb2
  have R2 : Hid (RRow w2 w2.heap.size A1 X) := Lib.hid (R1.out.at_ hb2)
  have ML : Hid ((mkTs 1 ts2).length = X.length) := Lib.hid (by rw [mkTs_len, hl2])
  rw [hl2]
  clear hm2 ho2 hb2 hl2 h82 hd2
  generalize mkEnd 1 ts2 = M at *
  go_wp2_with fail
  refine (HE.out _ _ _ _ _ K2.out R2.out).mono ?_
  rintro e w3 ⟨rfl, hb3⟩
  have O3 := Lib.hid (O2.out.keep hb3)
  have D3 : Hid (Below w1.heap.size w1 w3) := Lib.hid (below_next D2.out hb3)
  clear hb3 O2 K2 R2 D2
  go_wp2_with fail
  refine (HMK.out _ _ D3.out.size O3.out).mono ?_
  rintro e w4 ⟨rfl, ho4, hb4⟩
  have D4 : Hid (Below w1.heap.size w1 w4) := Lib.hid (D3.out.trans hb4)
  have K4 : Hid (RRow w4 w4.heap.size A2 ((mkTs 1 ts2).map (·.1))) := Lib.hid (by rw [← ML.out] at ho4; exact ho4.row)
  clear ho4 hb4 O3 D3 HMK
  go_wp2_with fail
  refine (HHD.out _ K4.out).mono ?_
  rintro e w5 ⟨rfl, hb5⟩
  have D5 : Hid (Below w1.heap.size w1 w5) := Lib.hid (below_next D4.out hb5)
  have K5 := Lib.hid (K4.out.at_ hb5)
  clear hb5 K4 D4
  go_wp2_with fail
  refine (HI.out _).mono ?_
  rintro e w6 ⟨A6, c6, ts6, hm6, rfl, ho6, hb6⟩
  have X6 : Hid (RRow w6 w6.heap.size A6 X) := Lib.hid (by rw [← hm6]; exact ho6.row)
  have D6 : Hid (Below w1.heap.size w1 w6) := Lib.hid (below_next D5.out hb6)
  have K6 := Lib.hid (K5.out.at_ hb6)
  rw [(HTL.out _ hm6).1]
  clear hm6 ho6 hb6 K5 D5
  have R6 : Hid (RRow w6 w6.heap.size A1 X) := Lib.hid (R1.out.at_ D6.out)
  go_wp2_with fail
  refine (HE.out _ _ _ _ _ X6.out R6.out).mono ?_
  rintro e w7 ⟨rfl, hb7⟩
  have D7 : Hid (Below w1.heap.size w1 w7) := Lib.hid (below_next D6.out hb7)
  have K7 := Lib.hid (K6.out.at_ hb7)
  clear hb7 X6 R6 K6 D6
  go_wp2_with fail
  refine (HHD.out _ K7.out).mono ?_
  rintro e w8 ⟨rfl, hb8⟩
  have D8 : Hid (Below w1.heap.size w1 w8) := Lib.hid (below_next D7.out hb8)
  clear hb8
  go_wp2_with fail
  go_ret
  exact ⟨rfl, below_next B1.out D8.out⟩

theorem cl_laid : laidOutB Tryd.prog = true := by kernel_rfl
theorem door_met (os : Os) (args : Array Value) : laidMetH Tryd.prog Rows.fnExactRecoverRecordsRow.laid ((World.laidAll Tryd.prog os Rows.fnExactRecoverRecordsRow.laid).forCall (fun _ _ => 0) ⟨#[], args, []⟩).memory := by
  rw [MakeChecks.laidMetH_plain _ _ _ (by kernel_rfl)]
  exact laidMet_laidAll _ (by kernel_rfl) (by kernel_rfl)
set_option maxRecDepth 100000 in
theorem lifted (os : Os) (started : os.Started) (H : Type) (enc : TypeId × Value → H) :
    ReturnsInHanded {} Tryd.checked os 7 .any (fun w args => (Rows.fnExactRecoverRecordsSpec.pre enc Tryd.prog Tryd.f7 [] false w args ∧ laidMetH Tryd.prog Rows.fnExactRecoverRecordsRow.laid w) ∧ sizedMet enc Tryd.prog Tryd.f7 (OpenSpec.ofChange Rows.fnExactRecoverRecordsSpec) false w args)
      (Rows.fnExactRecoverRecordsSpec.post enc Tryd.prog Tryd.f7 false true false false) := by
  refine returnsInHanded_of_calls (C := Tryd.checked) own started (by kernel_rfl)
    (ChangeSpec.witness_shaped (enc := enc) (C := Tryd.checked) (os := os) (X := fun w _ => laidMetH Tryd.prog Rows.fnExactRecoverRecordsRow.laid w) false (World.laidAll Tryd.prog os Rows.fnExactRecoverRecordsRow.laid) #[.string ByteArray.empty] 8 (World.laidAll_os _ _ _) (World.shaped_of_ZipB (by kernel_rfl) (by kernel_rfl)) (by kernel_rfl) (by kernel_rfl) (by kernel_rfl) (door_met os _)) ?_
  intro w tape i _ hsh _ hok hpre _
  obtain ⟨_, _, _, fn', hfn', _, _, _, _, hval0⟩ := hok
  obtain rfl : fn' = Tryd.f7 := Option.some.inj (hfn'.symm.trans Tryd.func7)
  obtain ⟨⟨⟨ds, gs, before, hw, _⟩, hlaid⟩, _⟩ := hpre
  have hW := DataW.Whole.of_heap (w' := w.forCall tape i) (by rfl) hw
  clear hsh hlaid
  generalize w.forCall tape i = W at *
  generalize i.args = args at *
  generalize w.heap.size = base at *
  have hval : ∀ (j : Nat) t v, Tryd.f7.params[j]? = some t → args[j]? = some v → Value.okWide Tryd.prog W .any base t v := hval0
  have hW' := hW
  have hlt : ∀ p ∈ before, p.block < W.heap.size := fun p hp => hW.lt p hp
  obtain ⟨p, q, hA0, hV, rfl, hfz, hnd⟩ := hW
  have hA : DataW.TrodAll enc Tryd.prog W 0 (fun _ => true) true Tryd.f7.params.toList args.toList ds p := hA0
  rw [Tryd.params7] at hA hval
  have hA1 := hA
  obtain ⟨v0, vs0, d0, ds0, p0, q0, hargs, rfl, rfl, h0, r0⟩ := trodAll_cons hA
  obtain ⟨rfl, rfl, rfl⟩ := trodAll_nil r0
  obtain rfl : args = #[v0] := by cases args; simp_all
  obtain ⟨rfl, rfl⟩ := trodVars_none hV
  obtain ⟨s0, rfl, rfl, rfl, ws0⟩ := open_string Tryd.underlying9 (hval 0 _ _ rfl rfl) h0
  have hs0 : s0.size ≤ 9223372036854775807 := by unfold maxLen at ws0; omega
  clear hA0 hval0
  refine (walk s0 W hs0).mono fun e W' ⟨he, hb⟩ => ?_
  subst he
  rw [List.append_nil] at hW' hlt
  exact ChangeSpec.post_blind (post_of_below (pa := _) (pv := []) hW' (fun _ _ _ => (trodAll_cons_mk (shut_bool Tryd.underlying4 _) trodAll_mk0))
    (fun sp hsp => trodAll_below cl_laid hb _ _ _ _ (by kernel_rfl) hA1 hlt hsp) (fun _ _ => rfl) (List.append_nil _).symm hb (ok_one (by kernel_rfl) rfl (okWide_bool_mk Tryd.underlying4 _)))
theorem row_holds : Rows.FnExactRecoverRecordsSaid :=
  OpenClaim.holds_of_wide 7 Tryd.f7 rfl rfl rfl rfl rfl rfl rfl ⟨rfl, rfl, rfl, rfl, rfl⟩ rfl rfl rfl rfl rfl (by kernel_rfl) Tryd.func7 (by kernel_rfl)
    (of_decide_eq_true (by kernel_rfl)) (by unfold Func.isWrapper; first | (rw [if_pos (by decide +kernel)]; kernel_rfl) | (rw [if_neg (by decide +kernel)]; exact ⟨rfl, rfl⟩))
    (fun os started H enc _ => lifted os started H enc)
theorem card_holds : Rows.FnExactRecoverRecordsCardSaid :=
  Claim7.holds_tied_plain_at .later [] [.data, .pinned] true (true, "be79712084d56054debae670ab95c1ba41e85b82581e17572783014f77c3dd1e") false
    row_holds (fun _ h => by cases h) (by kernel_rfl) (fun _ h => by cases h) fnExactRecoverRecords_row_tie rfl ⟨rfl, rfl⟩ (by kernel_rfl) rfl
    (fun f fn hf hfn => by
      obtain rfl : f = 7 := Option.some.inj ((show Tryd.prog.funcNamed "loop.example/g01339/laws.FnExactRecoverRecords" = some 7 by kernel_rfl).symm.trans hf) |>.symm
      obtain rfl : fn = Tryd.f7 := (Option.some.inj (Tryd.func7.symm.trans hfn)).symm
      exact ⟨by kernel_rfl, fun j t ht => by
        rw [Tryd.params7] at ht
        have hm : t ∈ [9] := by simpa using Array.mem_of_getElem? ht
        have hall : ([9].all fun u => !Tryd.prog.wantsStandIn u) = true := by kernel_rfl
        exact (show Tryd.prog.wantsStandIn t = false by simpa using List.all_eq_true.1 hall t hm)⟩)
    (by kernel_rfl)
end Go.Proofs.YtielmnkhcljmeaaDoor
