/-
  impl.ReadCycles returns what spec.ReadCycles returns, for every text (the law FnExactReadCycles returns true), and each call hands a fresh list. No condition.
-/
import Derived.Test.YtadkpmmbnenemaaGreatDoorRows
import Derived.Test.YtadkpmmbnenemaaGreatDoorCards
import Derived.Test.YtadkpmmbnenemaaGreatDoorTie
import Derived.Test.YtadkpmmbnenemaaGreatDoorOc7
import Derived.Test.YtadkpmmbnenemaaGreatDoorTt
import Derived.LaidMore
import Derived.Lay
import Derived.MakeChecks
import Derived.ChangeMaps5
import Derived.Stop.Joined
import Derived.Stop.LaidErr
import Derived.SevenTiedAt
namespace Go.Proofs.YtadkpmmbnenemaaGreatDoor
open Go Go.ChangeMaps Go.ChangeShapes Go.WideShapes Go.ChangeAt Go.RowKit

theorem es_star : "*" ++ "errors.errorString" = "*errors.errorString" := by decide
theorem es_row (u : TypeId) (h : Tryz.prog.typeName? 3 u = some "*errors.errorString") : u = 125 :=
  typeName_ptr_named (nm := "errors.errorString") (by rw [es_star]; kernel_rfl) (by kernel_rfl) (by decide) u (by rw [es_star]; exact h)
theorem env_of_laid {laid : List (String × DataW Unit)} {x0 x1 x3 x6 : String × DataW Unit} {tr ts : List UInt8} {w w' : World} {mx : Int}
    (hl : laid = [x0, x1, ("internal/strconv.uint64pow10", Lib.tabData .u64 Lib.pow10Tab), x3, ("strconv.ErrRange", .iface "*errors.errorString" (.ptr (.agg [.lit (.string tr)]))), ("strconv.ErrSyntax", .iface "*errors.errorString" (.ptr (.agg [.lit (.string ts)]))), x6])
    (hp : ∀ w, laidMetH Tryz.prog laid w = laidMet Tryz.prog laid w) (h : laidMetH Tryz.prog laid w) (he : w'.heap = w.heap) (hmx : w'.cell? ⟨0, 0, none⟩ = some (.int .i64 mx)) : Env w' := by
  have ht : Tab w' := tab_in_laid (pre := [x0, x1]) (suf := [x3, ("strconv.ErrRange", .iface "*errors.errorString" (.ptr (.agg [.lit (.string tr)]))), ("strconv.ErrSyntax", .iface "*errors.errorString" (.ptr (.agg [.lit (.string ts)]))), x6]) hl hp h he
  rw [hp, hl] at h
  have h4 := laidMet.tail (laidMet.tail (laidMet.tail (laidMet.tail h)))
  have h5 := laidMet.tail h4
  have g3 : Tryz.prog.globalNamed "strconv.ErrRange" = some 4 := by kernel_rfl
  have g2 : Tryz.prog.globalNamed "strconv.ErrSyntax" = some 3 := by kernel_rfl
  have t3 : (Tryz.prog.globals[4]?).map (·.type) = some 50 := by kernel_rfl
  have t2 : (Tryz.prog.globals[3]?).map (·.type) = some 50 := by kernel_rfl
  have c1 : Tryz.prog.cellsOf 127 = 1 := by kernel_rfl
  have c2 : Tryz.prog.cellsOf 9 = 1 := by kernel_rfl
  obtain ⟨a0, s0, hv0, -, -, -⟩ := laid_sentinel h4 g3 t3 Tryz.underlying50 es_row Tryz.underlying125 Tryz.underlying127 rfl rfl Tryz.underlying9 c1 c2
  obtain ⟨a1, s1, hv1, -, -, -⟩ := laid_sentinel h5 g2 t2 Tryz.underlying50 es_row Tryz.underlying125 Tryz.underlying127 rfl rfl Tryz.underlying9 c1 c2
  have k3 : w.cell? ⟨4, 0, none⟩ = some (.iface 125 (.pointer (some a0))) := by simpa using World.var?_cell g3 hv0 0
  have k2 : w.cell? ⟨3, 0, none⟩ = some (.iface 125 (.pointer (some a1))) := by simpa using World.var?_cell g2 hv1 0
  have hc : ∀ p : Addr, w'.cell? p = w.cell? p := fun p => World.cell?_of_block (a := p) (by rw [he])
  exact ⟨ht, ⟨mx, hmx⟩, ⟨_, _, (hc _).trans k2⟩, ⟨_, _, (hc _).trans k3⟩⟩

theorem rcX_len (s : ByteArray) : (rcX s).length ≤ 64 := by
  unfold rcX
  split
  · exact ocXC_len _
  · simp
set_option maxRecDepth 100000 in
set_option maxHeartbeats 6400000 in
theorem walk (s : ByteArray) (w : World) (mx : Int) (_hx : s.size ≤ 9223372036854775807) (_hmx : w.cell? ⟨0, 0, none⟩ = some (.int .i64 mx)) (he : Env w) :
    Calls Tryz.prog 3 #[.string s] w (fun e w' => e = .returned (.bool true) ∧ Below w.heap.size w w') := by
  by_cases hbig : 1048576 < s.size
  · clear he _hmx
    go_enter Tryz.func3, Tryz.ntmps3
    go_wp2_with fail
    go_ret
    exact ⟨rfl, Below.refl _ _⟩
  have hs : s.size ≤ 1048576 := by omega
  have hle := rcX_len s
  have HTB := Lib.hid he
  have HS := Lib.hid fun w => specReadCycles_any s w hs
  have HI := Lib.hid fun w he => ReadCycles_any s w hs he
  clear he _hmx _hx
  unfold RcyOut at HS HI
  generalize rcX s = X at *
  generalize rcOk s = ok at *
  have HE := Lib.hid fun A B c d w hA hB => eqInt64S_yes A B X c d w (by omega) hA hB
  have HK := Lib.hid fun A base c w ho => markInt64S_any A base X.length (il X) c 1 w (by omega) (by omega) (by omega) ho
  have HH := Lib.hid fun A c w hr => heldInt64S_any A X.length c 1 w (by omega) (by omega) (by omega) hr
  generalize X.length = n at *
  cases ok
  all_goals
    go_enter Tryz.func3, Tryz.ntmps3
    go_wp2_with fail
    refine (HS.out _).mono ?_
    rintro e w1 ⟨A1, c1, rfl, ho1, hb1⟩
    have O1 := Lib.hid ho1
    have B1 := Lib.hid hb1
    clear ho1 hb1
    go_wp2_with fail
    refine (HI.out _ (HTB.out.keep B1.out)).mono ?_
    rintro e w2 ⟨A2, c2, rfl, ho2, hb2⟩
    have O2 := Lib.hid ho2
    have B2 := Lib.hid hb2
    have R1 := Lib.hid ((Rd.of_own O1.out).at_ hb2)
    clear ho2 hb2
    go_wp2_with fail
    refine (HE.out _ _ _ _ _ (Rd.of_own O2.out) R1.out).mono ?_
    intro e w3 hq3
    obtain ⟨rfl, hb3⟩ := hq3.below
    have O3 := Lib.hid (own_below O2.out hb3)
    have B3 := Lib.hid (below_next B2.out hb3)
    clear hb3 hq3 R1
    go_wp2_with fail
    refine (HK.out _ _ _ _ O3.out).mono ?_
    rintro e w4 ⟨rfl, ho4, hg4⟩
    have B4 : Hid (Below w1.heap.size w1 w4) := Lib.hid (B3.out.grown hg4 B3.out.size (fun q h => (O2.out.lt q h).1))
    have O4 := Lib.hid ho4
    clear hg4 ho4 B3 O3 O2 B2
    go_wp2_with fail
    refine (HH.out _ _ _ (Rd.of_own O4.out)).mono ?_
    intro e w5 hq5
    obtain ⟨rfl, hb5⟩ := hq5.below
    have C5 := Lib.hid hb5
    have B5 := Lib.hid (below_next B4.out hb5)
    clear hb5 hq5
    go_wp2_with fail
    refine (HI.out _ (HTB.out.keep (below_next B1.out B5.out))).mono ?_
    rintro e w6 ⟨A3, c3, rfl, ho6, hb6⟩
    have O6 := Lib.hid ho6
    have B6 := Lib.hid (below_next B5.out hb6)
    have C6 := Lib.hid (below_next C5.out hb6)
    clear ho6 hb6 B5
    go_wp2_with fail
    refine (HE.out _ _ _ _ _ (Rd.of_own O6.out) ((Rd.of_own O1.out).at_ B6.out)).mono ?_
    intro e w8 hq8
    obtain ⟨rfl, hb8⟩ := hq8.below
    have B8 := Lib.hid (below_next B6.out hb8)
    have C8 := Lib.hid (below_next C6.out hb8)
    clear hb8 hq8 O6 B6 C6
    go_wp2_with fail
    refine (HH.out _ _ _ ((Rd.of_own O4.out).at_ C8.out)).mono ?_
    intro e w9 hq9
    obtain ⟨rfl, hb9⟩ := hq9.below
    have B9 := Lib.hid (below_next B8.out hb9)
    clear hb9 hq9
    go_wp2_with fail
    go_ret
    exact ⟨rfl, below_next B1.out B9.out⟩

theorem cl_laid : laidOutB Tryz.prog = true := by kernel_rfl
theorem door_met (os : Os) (args : Array Value) : laidMetH Tryz.prog Rows.fnExactReadCyclesRow.laid ((World.laidAll Tryz.prog os Rows.fnExactReadCyclesRow.laid).forCall (fun _ _ => 0) ⟨#[], args, []⟩).memory := by
  rw [MakeChecks.laidMetH_plain _ _ _ (by kernel_rfl)]
  exact laidMet_laidAll _ (by kernel_rfl) (by kernel_rfl)
set_option maxRecDepth 100000 in
theorem lifted (os : Os) (started : os.Started) (H : Type) (enc : TypeId × Value → H) :
    ReturnsInHanded {} Tryz.checked os 3 .any (fun w args => (Rows.fnExactReadCyclesSpec.pre enc Tryz.prog Tryz.f3 [] false w args ∧ laidMetH Tryz.prog Rows.fnExactReadCyclesRow.laid w) ∧ sizedMet enc Tryz.prog Tryz.f3 (OpenSpec.ofChange Rows.fnExactReadCyclesSpec) false w args)
      (Rows.fnExactReadCyclesSpec.post enc Tryz.prog Tryz.f3 false true false false) := by
  refine returnsInHanded_of_calls (C := Tryz.checked) own started (by kernel_rfl)
    (ChangeSpec.witness_shaped (enc := enc) (C := Tryz.checked) (os := os) (X := fun w _ => laidMetH Tryz.prog Rows.fnExactReadCyclesRow.laid w) false (World.laidAll Tryz.prog os Rows.fnExactReadCyclesRow.laid) #[.string ByteArray.empty] 8 (World.laidAll_os _ _ _) (World.shaped_of_ZipB (by kernel_rfl) (by kernel_rfl)) (by kernel_rfl) (by kernel_rfl) (by kernel_rfl) (door_met os _)) ?_
  intro w tape i _ hsh _ hok hpre _
  obtain ⟨_, _, _, fn', hfn', _, _, _, _, hval0⟩ := hok
  obtain rfl : fn' = Tryz.f3 := Option.some.inj (hfn'.symm.trans Tryz.func3)
  obtain ⟨⟨⟨ds, gs, before, hw, _⟩, hlaid⟩, _⟩ := hpre
  have hW := DataW.Whole.of_heap (w' := w.forCall tape i) (by rfl) hw
  obtain ⟨mx, hmx⟩ := Tryz.laysM219.s1_3 _ hsh
  have hL := env_of_laid (w' := w.forCall tape i) rfl (fun w => MakeChecks.laidMetH_plain _ _ _ (by kernel_rfl)) hlaid rfl hmx
  clear hsh hlaid
  generalize w.forCall tape i = W at *
  generalize i.args = args at *
  generalize w.heap.size = base at *
  have hval : ∀ (j : Nat) t v, Tryz.f3.params[j]? = some t → args[j]? = some v → Value.okWide Tryz.prog W .any base t v := hval0
  have hW' := hW
  have hlt : ∀ p ∈ before, p.block < W.heap.size := fun p hp => hW.lt p hp
  obtain ⟨p, q, hA0, hV, rfl, hfz, hnd⟩ := hW
  have hA : DataW.TrodAll enc Tryz.prog W 0 (fun _ => true) true Tryz.f3.params.toList args.toList ds p := hA0
  rw [Tryz.params3] at hA hval
  have hA1 := hA
  obtain ⟨v0, vs0, d0, ds0, p0, q0, hargs, rfl, rfl, h0, r0⟩ := trodAll_cons hA
  obtain ⟨rfl, rfl, rfl⟩ := trodAll_nil r0
  obtain rfl : args = #[v0] := by cases args; simp_all
  obtain ⟨rfl, rfl⟩ := trodVars_none hV
  obtain ⟨s0, rfl, rfl, rfl, ws0⟩ := open_string Tryz.underlying9 (hval 0 _ _ rfl rfl) h0
  have hs0 : s0.size ≤ 9223372036854775807 := by unfold maxLen at ws0; omega
  clear hA0 hval0
  refine (walk s0 W mx hs0 hmx hL).mono fun e W' ⟨he, hb⟩ => ?_
  subst he
  rw [List.append_nil] at hW' hlt
  exact ChangeSpec.post_blind (post_of_below (pa := _) (pv := []) hW' (fun _ _ _ => (trodAll_cons_mk (shut_bool Tryz.underlying4 _) trodAll_mk0))
    (fun sp hsp => trodAll_below cl_laid hb _ _ _ _ (by kernel_rfl) hA1 hlt hsp) (fun _ _ => rfl) (List.append_nil _).symm hb (ok_one (by kernel_rfl) rfl (okWide_bool_mk Tryz.underlying4 _)))
theorem row_holds : Rows.FnExactReadCyclesSaid :=
  OpenClaim.holds_of_wide 3 Tryz.f3 rfl rfl rfl rfl rfl rfl rfl ⟨rfl, rfl, rfl, rfl, rfl⟩ rfl rfl rfl rfl rfl (by kernel_rfl) Tryz.func3 (by kernel_rfl)
    (of_decide_eq_true (by kernel_rfl)) (by unfold Func.isWrapper; first | (rw [if_pos (by decide +kernel)]; kernel_rfl) | (rw [if_neg (by decide +kernel)]; exact ⟨rfl, rfl⟩))
    (fun os started H enc _ => lifted os started H enc)
theorem card_holds : Rows.FnExactReadCyclesCardSaid :=
  Claim7.holds_tied_plain_at .later [] [.data, .data, .data, .data, .sentinel, .sentinel, .pinned] true (true, "908746288bae5b1b95eedc91bfab9f7b0bb7d07d85432dee93e52ad73335ff6e") true
    row_holds (fun _ h => by cases h) (by kernel_rfl) (fun _ h => by cases h) fnExactReadCycles_row_tie rfl ⟨rfl, rfl⟩ (by kernel_rfl) rfl
    (fun f fn hf hfn => by
      obtain rfl : f = 3 := Option.some.inj ((show Tryz.prog.funcNamed "loop.example/g01339/laws.FnExactReadCycles" = some 3 by kernel_rfl).symm.trans hf) |>.symm
      obtain rfl : fn = Tryz.f3 := (Option.some.inj (Tryz.func3.symm.trans hfn)).symm
      exact ⟨by kernel_rfl, fun j t ht => by
        rw [Tryz.params3] at ht
        have hm : t ∈ [9] := by simpa using Array.mem_of_getElem? ht
        have hall : ([9].all fun u => !Tryz.prog.wantsStandIn u) = true := by kernel_rfl
        exact (show Tryz.prog.wantsStandIn t = false by simpa using List.all_eq_true.1 hall t hm)⟩)
    (by kernel_rfl)
end Go.Proofs.YtadkpmmbnenemaaGreatDoor
