/-
  impl.LoadRecord returns what spec.LoadRecord returns, for every text (the law FnExactLoadRecord returns true), and each call hands fresh draws. No condition.
-/
import Derived.Test.YtielmnkhcljmeaaDoorRows
import Derived.Test.YtielmnkhcljmeaaDoorCards
import Derived.Test.YtielmnkhcljmeaaDoorTie
import Derived.Test.YtielmnkhcljmeaaDoorLo10
import Derived.Test.YtielmnkhcljmeaaDoorOpr
import Derived.LaidMore
import Derived.Lay
import Derived.MakeChecks
import Derived.ChangeMaps5
import Derived.Stop.Joined
import Derived.SevenTiedAt
namespace Go.Proofs.YtielmnkhcljmeaaDoor
open Go Go.ChangeMaps Go.ChangeShapes Go.WideShapes Go.ChangeAt Go.RowKit

theorem ldR_len (l : List UInt8) : (ldR l).ds.length ≤ 1048576 := by
  unfold ldR
  split
  · show (dsL l (manyL l)).length ≤ _
    rw [dsL_len]
    have := manyL_lt l
    omega
  · decide
set_option maxRecDepth 100000 in
set_option maxHeartbeats 6400000 in
theorem walk (s : ByteArray) (w : World) (_hx : s.size ≤ 9223372036854775807) :
    Calls Tryd.prog 6 #[.string s] w (fun e w' => e = .returned (.bool true) ∧ Below w.heap.size w w') := by
  by_cases hbig : 1048576 < s.size
  · go_enter Tryd.func6, Tryd.ntmps6
    go_wp2_with fail
    go_ret
    exact ⟨rfl, Below.refl _ _⟩
  have hs : s.size ≤ 1048576 := by omega
  have hle : (ldR s.data.toList).ds.length ≤ 1048576 := ldR_len s.data.toList
  have HS := Lib.hid fun w => specLoadRecord_any s w hs
  have HI := Lib.hid fun w => LoadRecord_any s w hs
  clear _hx
  unfold LdOut Rc.val at HS HI
  generalize ldR s.data.toList = RR at *
  generalize ldB s.data.toList = ok at *
  obtain ⟨nm, k, a, b, X⟩ := RR
  dsimp only at hle HS HI
  have HE := Lib.hid fun A B c d w hA hB => eqRecord_yes nm k a b A B X c d w (by omega) hA hB
  have HK := Lib.hid fun A base c w ho => markRecord_any nm k a b A base X.length (il X) c w (by omega) ho
  have HH := Lib.hid fun A c w hr => heldRecord_any nm k a b A X.length c w (by omega) hr
  unfold rcV at HE HK HH HS HI
  generalize X.length = n at *
  cases ok
  all_goals
    go_enter Tryd.func6, Tryd.ntmps6
    go_wp2_with fail
    refine (HS.out _).mono ?_
    rintro e w1 ⟨A1, c1, rfl, ho1, hb1⟩
    have O1 := Lib.hid ho1
    have B1 := Lib.hid hb1
    clear ho1 hb1
    go_wp2_with fail
    generalize hV1 : World.alloc w1 _ = v1
    have b1 : Below w1.heap.size w1 v1 := by rw [← hV1]; exact below_al (Below.refl _ _) _
    have T1 : RcAt v1 w1.heap.size nm k a b A1 n c1 := by rw [← hV1]; simp [RcAt, go_sem]
    have lv1 : w1.heap.size < v1.heap.size := T1.lt
    have O1' := Lib.hid (own_below O1.out b1)
    have B1' := Lib.hid (below_next B1.out b1)
    clear hV1 O1 B1
    refine (HI.out _).mono ?_
    rintro e w2 ⟨A2, c2, rfl, ho2, hb2⟩
    have O2 := Lib.hid ho2
    have B2 := Lib.hid hb2
    have T2 := Lib.hid (T1.keep hb2)
    have lt2 : w1.heap.size < w2.heap.size := T2.out.lt
    clear ho2 hb2 b1 T1
    obtain ⟨x0, x1, x2, x3, x4⟩ := T2.out
    go_wp2_with fail
    generalize hV2 : World.alloc w2 _ = v2
    have b2 : Below w2.heap.size w2 v2 := by rw [← hV2]; exact below_al (Below.refl _ _) _
    have U2 : RcAt v2 w2.heap.size nm k a b A2 n c2 := by rw [← hV2]; simp [RcAt, go_sem]
    have T2' := Lib.hid (T2.out.keep b2)
    have O2' := Lib.hid (own_below O2.out b2)
    have B2' := Lib.hid (below_next B2.out b2)
    have R1 := Lib.hid ((Rd.of_own O1'.out).at_ B2'.out)
    clear hV2 b2 T2 B2 x0 x1 x2 x3 x4
    refine (HE.out _ _ _ _ _ (Rd.of_own O2'.out) R1.out).mono ?_
    rintro e w3 ⟨rfl, hb3⟩
    have u3 := U2.keep hb3
    have U3 := Lib.hid u3
    have T3 := Lib.hid (T2'.out.keep hb3)
    have O3 := Lib.hid (own_below O2'.out hb3)
    have B3 := Lib.hid (below_next B2'.out hb3)
    clear hb3 U2 T2' O2' B2' R1
    obtain ⟨y0, y1, y2, y3, y4⟩ := u3
    go_wp2_with fail
    refine (HK.out _ _ _ _ O3.out).mono ?_
    rintro e w4 ⟨rfl, ho4, hg4⟩
    have hq : ∀ q, (Value.slice A2 n c2).ownBlock = some q → v1.heap.size ≤ q ∧ q < w2.heap.size := fun q h => ⟨(O2.out.lt q h).1, (O2.out.lt q h).2⟩
    have u4 := U3.out.grown hg4 (fun h => by have := (hq _ h.symm).2; omega)
    have U4 := Lib.hid u4
    have B4 : Hid (Below v1.heap.size v1 w4) := Lib.hid (B3.out.grown hg4 B3.out.size (fun q h => (hq q h).1))
    have T4 := Lib.hid (T3.out.grown hg4 (fun h => by have h1 := (hq _ h.symm).1; omega))
    have O4 := Lib.hid ho4
    clear hg4 hq ho4 U3 T3 B3 O3 O2 y0 y1 y2 y3 y4
    obtain ⟨y0, y1, y2, y3, y4⟩ := u4
    go_wp2_with fail
    refine (HH.out _ _ _ (Rd.of_own O4.out)).mono ?_
    rintro e w5 ⟨rfl, hb5⟩
    have C5 := Lib.hid hb5
    have B5 := Lib.hid (below_next B4.out hb5)
    clear y0 y1 y2 y3 y4 hb5
    go_wp2_with fail
    refine (HI.out _).mono ?_
    rintro e w6 ⟨A3, c3, rfl, ho6, hb6⟩
    have O6 := Lib.hid ho6
    have B6 := Lib.hid (below_next B5.out hb6)
    have C6 := Lib.hid (below_next C5.out hb6)
    have T6 := Lib.hid ((T4.out.keep C5.out).keep hb6)
    have lt6 : w1.heap.size < w6.heap.size := T6.out.lt
    clear ho6 hb6 T4 B5
    obtain ⟨x0, x1, x2, x3, x4⟩ := T6.out
    go_wp2_with fail
    generalize hV7 : World.alloc w6 _ = v7
    have b7 : Below w6.heap.size w6 v7 := by rw [← hV7]; exact below_al (Below.refl _ _) _
    have O7 := Lib.hid (own_below O6.out b7)
    have B7 := Lib.hid (below_next B6.out b7)
    have C7 := Lib.hid (below_next C6.out b7)
    clear hV7 b7 x0 x1 x2 x3 x4 T6 O6 B6 C6
    refine (HE.out _ _ _ _ _ (Rd.of_own O7.out) ((Rd.of_own O1'.out).at_ B7.out)).mono ?_
    rintro e w8 ⟨rfl, hb8⟩
    have B8 := Lib.hid (below_next B7.out hb8)
    have C8 := Lib.hid (below_next C7.out hb8)
    clear hb8 O7 B7 C7
    obtain ⟨y0, y1, y2, y3, y4⟩ := U4.out.keep C8.out
    go_wp2_with fail
    refine (HH.out _ _ _ ((Rd.of_own O4.out).at_ C8.out)).mono ?_
    rintro e w9 ⟨rfl, hb9⟩
    have B9 := Lib.hid (below_next B8.out hb9)
    clear hb9
    go_wp2_with fail
    go_ret
    exact ⟨rfl, below_next B1'.out B9.out⟩

theorem cl_laid : laidOutB Tryd.prog = true := by kernel_rfl
theorem door_met (os : Os) (args : Array Value) : laidMetH Tryd.prog Rows.fnExactLoadRecordRow.laid ((World.laidAll Tryd.prog os Rows.fnExactLoadRecordRow.laid).forCall (fun _ _ => 0) ⟨#[], args, []⟩).memory := by
  rw [MakeChecks.laidMetH_plain _ _ _ (by kernel_rfl)]
  exact laidMet_laidAll _ (by kernel_rfl) (by kernel_rfl)
set_option maxRecDepth 100000 in
theorem lifted (os : Os) (started : os.Started) (H : Type) (enc : TypeId × Value → H) :
    ReturnsInHanded {} Tryd.checked os 6 .any (fun w args => (Rows.fnExactLoadRecordSpec.pre enc Tryd.prog Tryd.f6 [] false w args ∧ laidMetH Tryd.prog Rows.fnExactLoadRecordRow.laid w) ∧ sizedMet enc Tryd.prog Tryd.f6 (OpenSpec.ofChange Rows.fnExactLoadRecordSpec) false w args)
      (Rows.fnExactLoadRecordSpec.post enc Tryd.prog Tryd.f6 false true false false) := by
  refine returnsInHanded_of_calls (C := Tryd.checked) own started (by kernel_rfl)
    (ChangeSpec.witness_shaped (enc := enc) (C := Tryd.checked) (os := os) (X := fun w _ => laidMetH Tryd.prog Rows.fnExactLoadRecordRow.laid w) false (World.laidAll Tryd.prog os Rows.fnExactLoadRecordRow.laid) #[.string ByteArray.empty] 8 (World.laidAll_os _ _ _) (World.shaped_of_ZipB (by kernel_rfl) (by kernel_rfl)) (by kernel_rfl) (by kernel_rfl) (by kernel_rfl) (door_met os _)) ?_
  intro w tape i _ hsh _ hok hpre _
  obtain ⟨_, _, _, fn', hfn', _, _, _, _, hval0⟩ := hok
  obtain rfl : fn' = Tryd.f6 := Option.some.inj (hfn'.symm.trans Tryd.func6)
  obtain ⟨⟨⟨ds, gs, before, hw, _⟩, hlaid⟩, _⟩ := hpre
  have hW := DataW.Whole.of_heap (w' := w.forCall tape i) (by rfl) hw
  clear hsh hlaid
  generalize w.forCall tape i = W at *
  generalize i.args = args at *
  generalize w.heap.size = base at *
  have hval : ∀ (j : Nat) t v, Tryd.f6.params[j]? = some t → args[j]? = some v → Value.okWide Tryd.prog W .any base t v := hval0
  have hW' := hW
  have hlt : ∀ p ∈ before, p.block < W.heap.size := fun p hp => hW.lt p hp
  obtain ⟨p, q, hA0, hV, rfl, hfz, hnd⟩ := hW
  have hA : DataW.TrodAll enc Tryd.prog W 0 (fun _ => true) true Tryd.f6.params.toList args.toList ds p := hA0
  rw [Tryd.params6] at hA hval
  have hA1 := hA
  obtain ⟨v0, vs0, d0, ds0, p0, q0, hargs, rfl, rfl, h0, r0⟩ := trodAll_cons hA
  obtain ⟨rfl, rfl, rfl⟩ := trodAll_nil r0
  obtain rfl : args = #[v0] := by cases args; simp_all
  obtain ⟨rfl, rfl⟩ := trodVars_none hV
  obtain ⟨s0, rfl, rfl, rfl, ws0⟩ := open_string Tryd.underlying9 (hval 0 _ _ rfl rfl) h0
  have hs0 : s0.size ≤ 9223372036854775807 := by unfold maxLen at ws0; omega
  clear hA0 hval0
  refine (walk s0 W hs0).mono fun e W' ⟨he, hb⟩ => ?_
  subst he
  rw [List.append_nil] at hW' hlt
  exact ChangeSpec.post_blind (post_of_below (pa := _) (pv := []) hW' (fun _ _ _ => (trodAll_cons_mk (shut_bool Tryd.underlying4 _) trodAll_mk0))
    (fun sp hsp => trodAll_below cl_laid hb _ _ _ _ (by kernel_rfl) hA1 hlt hsp) (fun _ _ => rfl) (List.append_nil _).symm hb (ok_one (by kernel_rfl) rfl (okWide_bool_mk Tryd.underlying4 _)))
theorem row_holds : Rows.FnExactLoadRecordSaid :=
  OpenClaim.holds_of_wide 6 Tryd.f6 rfl rfl rfl rfl rfl rfl rfl ⟨rfl, rfl, rfl, rfl, rfl⟩ rfl rfl rfl rfl rfl (by kernel_rfl) Tryd.func6 (by kernel_rfl)
    (of_decide_eq_true (by kernel_rfl)) (by unfold Func.isWrapper; first | (rw [if_pos (by decide +kernel)]; kernel_rfl) | (rw [if_neg (by decide +kernel)]; exact ⟨rfl, rfl⟩))
    (fun os started H enc _ => lifted os started H enc)
theorem card_holds : Rows.FnExactLoadRecordCardSaid :=
  Claim7.holds_tied_plain_at .later [] [.data, .pinned] true (true, "be79712084d56054debae670ab95c1ba41e85b82581e17572783014f77c3dd1e") false
    row_holds (fun _ h => by cases h) (by kernel_rfl) (fun _ h => by cases h) fnExactLoadRecord_row_tie rfl ⟨rfl, rfl⟩ (by kernel_rfl) rfl
    (fun f fn hf hfn => by
      obtain rfl : f = 6 := Option.some.inj ((show Tryd.prog.funcNamed "loop.example/g01339/laws.FnExactLoadRecord" = some 6 by kernel_rfl).symm.trans hf) |>.symm
      obtain rfl : fn = Tryd.f6 := (Option.some.inj (Tryd.func6.symm.trans hfn)).symm
      exact ⟨by kernel_rfl, fun j t ht => by
        rw [Tryd.params6] at ht
        have hm : t ∈ [9] := by simpa using Array.mem_of_getElem? ht
        have hall : ([9].all fun u => !Tryd.prog.wantsStandIn u) = true := by kernel_rfl
        exact (show Tryd.prog.wantsStandIn t = false by simpa using List.all_eq_true.1 hall t hm)⟩)
    (by kernel_rfl)
end Go.Proofs.YtielmnkhcljmeaaDoor
