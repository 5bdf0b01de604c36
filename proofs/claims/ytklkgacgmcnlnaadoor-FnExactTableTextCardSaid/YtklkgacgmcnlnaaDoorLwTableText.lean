/-
  impl.TableText returns what spec.TableText returns, for every table (the law FnExactTableText returns true), and leaves it as it was. No condition.
-/
import Derived.Test.YtklkgacgmcnlnaaDoorRows
import Derived.Test.YtklkgacgmcnlnaaDoorCards
import Derived.Test.YtklkgacgmcnlnaaDoorTie
import Derived.Test.YtklkgacgmcnlnaaDoorTb3
import Derived.Test.YtklkgacgmcnlnaaDoorTt
import Derived.LaidMore
import Derived.Lay
import Derived.MakeChecks
import Derived.ChangeMaps5
import Derived.Stop.Joined
import Derived.SevenTiedAt
import Derived.Deep.RegionHeld3
namespace Go.Proofs.YtklkgacgmcnlnaaDoor
open Go Go.ChangeMaps Go.ChangeShapes Go.WideShapes Go.ChangeAt Go.RowKit

theorem tab_no {n : Nat} (h : ¬ lessL 1048576 n < 0) : n ≤ 1048576 := by
  unfold lessL at h
  split at h <;> omega
set_option maxRecDepth 100000 in
set_option maxHeartbeats 3200000 in
theorem walk (r l : Int) (A : Option Addr) (ds : List Int) (c : Nat) (w : World) (hx : ds.length ≤ 9223372036854775807) (h : Rd w w.heap.size A (il ds)) (ht : Tab w) :
    Calls Tryd.prog 4 #[tbV r l A ds.length c] w (fun e w' => e = .returned (.bool true) ∧ Below w.heap.size w w') := by
  have HZ := Lib.hid fun w => szTable_any r l A ds.length c 1048576 w hx (by omega) (by omega)
  by_cases hz : lessL 1048576 ds.length < 0
  · generalize lessL 1048576 ds.length = z at *
    unfold tbV at *
    go_enter Tryd.func4, Tryd.ntmps4
    go_wp2_with fail
    refine (HZ.out _).mono ?_
    rintro e w1 ⟨rfl, hb1⟩
    have B1 := Lib.hid (below_next (below_al (Below.refl _ _) _) hb1)
    clear hb1
    go_wp2_with fail
    go_ret
    exact ⟨rfl, B1.out⟩
  have hd := tab_no hz
  generalize lessL 1048576 ds.length = z at *
  have HS := Lib.hid fun A c w h => specTableText_any r l A ds c w hx h
  have HI := Lib.hid fun A c w ht h => TableText_any r l A ds c w hx ht h
  have HT := Lib.hid fun w h => toTable_any r l A ds c w hd h
  have HE := Lib.hid fun A B c d w hA hB => eqTable_yes r l A B ds c d w (by omega) hA hB
  have HH := Lib.hid h
  have HTB := Lib.hid ht
  unfold TbOut at HS HI
  unfold tbV at *
  clear h ht
  generalize tabS r l ds = S at *
  generalize tabB r l ds = R at *
  cases R
  all_goals
    go_enter Tryd.func4, Tryd.ntmps4
    go_wp2_with fail
    generalize hW1 : World.alloc w _ = W1
    have B1 : Below w.heap.size w W1 := by rw [← hW1]; exact below_al (Below.refl _ _) _
    have k1 : TbAt W1 w.heap.size r l A ds.length c := by rw [← hW1]; simp [TbAt, go_sem]
    clear hW1
    refine (HZ.out _).mono ?_
    rintro e w2 ⟨rfl, hb2⟩
    have K2 := Lib.hid (k1.keep hb2)
    have B2 := Lib.hid (below_next B1 hb2)
    clear hb2 k1 B1
    obtain ⟨c0, c1, c2⟩ := K2.out
    go_wp2_with fail
    refine (HT.out _ (HH.out.at_ B2.out)).mono ?_
    rintro e w3 ⟨A3, rfl, ho3, hb3⟩
    have K3 := Lib.hid (K2.out.keep hb3)
    have B3 := Lib.hid (below_next B2.out hb3)
    have O3 := Lib.hid (Rd.of_own ho3)
    clear ho3 hb3 c0 c1 c2 K2 B2
    go_wp2_with fail
    refine (HS.out _ _ _ O3.out).mono ?_
    rintro e w4 ⟨rfl, hb4⟩
    have K4 := Lib.hid (K3.out.keep hb4)
    have B4 := Lib.hid (below_next B3.out hb4)
    clear hb4 K3 B3 O3
    obtain ⟨c0, c1, c2⟩ := K4.out
    go_wp2_with fail
    refine (HT.out _ (HH.out.at_ B4.out)).mono ?_
    rintro e w5 ⟨A5, rfl, ho5, hb5⟩
    have K5 := Lib.hid (K4.out.keep hb5)
    have B5 := Lib.hid (below_next B4.out hb5)
    have O5 := Lib.hid ho5
    clear ho5 hb5 c0 c1 c2 K4 B4
    go_wp2_with fail
    generalize hW6 : World.alloc w5 _ = W6
    have b56 : Below w5.heap.size w5 W6 := by rw [← hW6]; exact below_al (Below.refl _ _) _
    have X6 : TbAt W6 w5.heap.size r l A5 ds.length ds.length := by rw [← hW6]; simp [TbAt, go_sem]
    have K6 := Lib.hid (K5.out.keep b56)
    have B6 := Lib.hid (below_next B5.out b56)
    have O6 := Lib.hid (Rd.of_own (own_below O5.out b56))
    clear hW6 b56 K5 B5 O5
    refine (HI.out _ _ _ (HTB.out.keep B6.out) O6.out).mono ?_
    rintro e w7 ⟨rfl, hb7⟩
    have X7 := Lib.hid (X6.keep hb7)
    have K7 := Lib.hid (K6.out.keep hb7)
    have B7 := Lib.hid (below_next B6.out hb7)
    have O7 := Lib.hid (O6.out.at_ hb7)
    clear hb7 X6 K6 B6 O6
    obtain ⟨c0, c1, c2⟩ := K7.out
    obtain ⟨x0, x1, x2⟩ := X7.out
    have HM : Hid (∀ W, Below w7.heap.size w7 W → W.cell? ⟨w.heap.size, 0, none⟩ = some (.int .i64 r) ∧ W.cell? ⟨w.heap.size, 1, none⟩ = some (.int .i64 l) ∧ W.cell? ⟨w.heap.size, 2, none⟩ = some (.slice A ds.length c) ∧ W.cell? ⟨w5.heap.size, 0, none⟩ = some (.int .i64 r) ∧ W.cell? ⟨w5.heap.size, 1, none⟩ = some (.int .i64 l) ∧ W.cell? ⟨w5.heap.size, 2, none⟩ = some (.slice A5 ds.length ds.length)) := Lib.hid fun W hW => by
      obtain ⟨a0, a1, a2⟩ := K7.out.keep hW
      obtain ⟨b0, b1, b2⟩ := X7.out.keep hW
      exact ⟨a0, a1, a2, b0, b1, b2⟩
    go_wp2_with fail
    go_region_held3 (fun W => W.cell? ⟨w.heap.size, 0, none⟩ = some (.int .i64 r) ∧ W.cell? ⟨w.heap.size, 1, none⟩ = some (.int .i64 l) ∧ W.cell? ⟨w.heap.size, 2, none⟩ = some (.slice A ds.length c) ∧ W.cell? ⟨w5.heap.size, 0, none⟩ = some (.int .i64 r) ∧ W.cell? ⟨w5.heap.size, 1, none⟩ = some (.int .i64 l) ∧ W.cell? ⟨w5.heap.size, 2, none⟩ = some (.slice A5 ds.length ds.length))
      (first | exact HM.out _ (Below.refl _ _) | exact HM.out _ (below_dr (Below.refl _ _)) | exact HM.out _ bk8 | exact HM.out _ bk9)
      (first
        | (go_at_call 13; refine (HT.out _ (HH.out.at_ (below_dr B7.out))).mono ?_; rintro e w8 ⟨A8, rfl, ho8, hb8⟩; have bk8 : Below w7.heap.size w7 w8 := below_next (below_dr (Below.refl _ _)) hb8; have O8 := Lib.hid (Rd.of_own ho8); have O7' := Lib.hid (O7.out.at_ bk8); clear ho8 hb8)
        | (go_at_call 15; refine (HE.out _ _ _ _ _ O7'.out O8.out).mono ?_; rintro e w9 ⟨rfl, hb9⟩; have bk9 : Below w7.heap.size w7 w9 := below_next bk8 hb9; clear hb9))
    have B9 := Lib.hid (below_next B7.out bk9)
    clear bk8 bk9
    go_wp2_with fail
    go_ret
    exact ⟨rfl, B9.out⟩

theorem cl_laid : laidOutB Tryd.prog = true := by kernel_rfl
theorem door_met (os : Os) (args : Array Value) : laidMetH Tryd.prog Rows.fnExactTableTextRow.laid ((World.laidAll Tryd.prog os Rows.fnExactTableTextRow.laid).forCall (fun _ _ => 0) ⟨#[], args, []⟩).memory := by
  rw [MakeChecks.laidMetH_plain _ _ _ (by kernel_rfl)]
  exact laidMet_laidAll _ (by kernel_rfl) (by kernel_rfl)
set_option maxRecDepth 100000 in
theorem lifted (os : Os) (started : os.Started) (H : Type) (enc : TypeId × Value → H) :
    ReturnsInHanded {} Tryd.checked os 4 .any (fun w args => (Rows.fnExactTableTextSpec.pre enc Tryd.prog Tryd.f4 [] false w args ∧ laidMetH Tryd.prog Rows.fnExactTableTextRow.laid w) ∧ sizedMet enc Tryd.prog Tryd.f4 (OpenSpec.ofChange Rows.fnExactTableTextSpec) false w args)
      (Rows.fnExactTableTextSpec.post enc Tryd.prog Tryd.f4 false true false false) := by
  refine returnsInHanded_of_calls (C := Tryd.checked) own started (by kernel_rfl)
    (ChangeSpec.witness_shaped (enc := enc) (C := Tryd.checked) (os := os) (X := fun w _ => laidMetH Tryd.prog Rows.fnExactTableTextRow.laid w) false (World.laidAll Tryd.prog os Rows.fnExactTableTextRow.laid) #[.agg #[.int .i64 0, .int .i64 0, .slice none 0 0]] 8 (World.laidAll_os _ _ _) (World.shaped_of_ZipB (by kernel_rfl) (by kernel_rfl)) (by kernel_rfl) (by kernel_rfl) (by kernel_rfl) (door_met os _)) ?_
  intro w tape i _ hsh _ hok hpre _
  obtain ⟨_, _, _, fn', hfn', _, _, _, _, hval0⟩ := hok
  obtain rfl : fn' = Tryd.f4 := Option.some.inj (hfn'.symm.trans Tryd.func4)
  obtain ⟨⟨⟨ds, gs, before, hw, _⟩, hlaid⟩, _⟩ := hpre
  have hW := DataW.Whole.of_heap (w' := w.forCall tape i) (by rfl) hw
  have hL := tab_in_laid (w' := w.forCall tape i) (pre := [_, _]) (suf := []) rfl (fun w => MakeChecks.laidMetH_plain _ _ _ (by kernel_rfl)) hlaid rfl
  clear hsh hlaid
  generalize w.forCall tape i = W at *
  generalize i.args = args at *
  generalize w.heap.size = base at *
  have hval : ∀ (j : Nat) t v, Tryd.f4.params[j]? = some t → args[j]? = some v → Value.okWide Tryd.prog W .any base t v := hval0
  have hW' := hW
  have hlt : ∀ p ∈ before, p.block < W.heap.size := fun p hp => hW.lt p hp
  obtain ⟨p, q, hA0, hV, rfl, hfz, hnd⟩ := hW
  have hA : DataW.TrodAll enc Tryd.prog W 0 (fun _ => true) true Tryd.f4.params.toList args.toList ds p := hA0
  rw [Tryd.params4] at hA hval
  have hA1 := hA
  obtain ⟨v0, vs0, d0, ds0, p0, q0, hargs, rfl, rfl, h0, r0⟩ := trodAll_cons hA
  obtain ⟨rfl, rfl, rfl⟩ := trodAll_nil r0
  obtain rfl : args = #[v0] := by cases args; simp_all
  obtain ⟨rfl, rfl⟩ := trodVars_none hV
  obtain ⟨r0, l0, A0, xs0, c0, rfl, hx0, hr0⟩ := open_table (hval 0 _ _ rfl rfl) h0
  clear hA0 hval0
  refine (walk r0 l0 A0 xs0 c0 W hx0 hr0 hL).mono fun e W' ⟨he, hb⟩ => ?_
  subst he
  rw [List.append_nil] at hW' hlt
  exact ChangeSpec.post_blind (post_of_below (pa := _) (pv := []) hW' (fun _ _ _ => (trodAll_cons_mk (shut_bool Tryd.underlying4 _) trodAll_mk0))
    (fun sp hsp => trodAll_below cl_laid hb _ _ _ _ (by kernel_rfl) hA1 hlt hsp) (fun _ _ => rfl) (List.append_nil _).symm hb (ok_one (by kernel_rfl) rfl (okWide_bool_mk Tryd.underlying4 _)))
theorem row_holds : Rows.FnExactTableTextSaid :=
  OpenClaim.holds_of_wide 4 Tryd.f4 rfl rfl rfl rfl rfl rfl rfl ⟨rfl, rfl, rfl, rfl, rfl⟩ rfl rfl rfl rfl rfl (by kernel_rfl) Tryd.func4 (by kernel_rfl)
    (of_decide_eq_true (by kernel_rfl)) (by unfold Func.isWrapper; first | (rw [if_pos (by decide +kernel)]; kernel_rfl) | (rw [if_neg (by decide +kernel)]; exact ⟨rfl, rfl⟩))
    (fun os started H enc _ => lifted os started H enc)
theorem card_holds : Rows.FnExactTableTextCardSaid :=
  Claim7.holds_tied_plain_at .later [] [.data, .data, .data] true (true, "a4a50681808862a7beed52045ac324b7d4d4efb5ca10f78be118e68f7af30370") true
    row_holds (fun _ h => by cases h) (by kernel_rfl) (fun _ h => by cases h) fnExactTableText_row_tie rfl ⟨rfl, rfl⟩ (by kernel_rfl) rfl
    (fun f fn hf hfn => by
      obtain rfl : f = 4 := Option.some.inj ((show Tryd.prog.funcNamed "loop.example/g01339/laws.FnExactTableText" = some 4 by kernel_rfl).symm.trans hf) |>.symm
      obtain rfl : fn = Tryd.f4 := (Option.some.inj (Tryd.func4.symm.trans hfn)).symm
      exact ⟨by kernel_rfl, fun j t ht => by
        rw [Tryd.params4] at ht
        have hm : t ∈ [32] := by simpa using Array.mem_of_getElem? ht
        have hall : ([32].all fun u => !Tryd.prog.wantsStandIn u) = true := by kernel_rfl
        exact (show Tryd.prog.wantsStandIn t = false by simpa using List.all_eq_true.1 hall t hm)⟩)
    (by kernel_rfl)
end Go.Proofs.YtklkgacgmcnlnaaDoor
