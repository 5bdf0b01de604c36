/-
  impl.SeedText returns what spec.SeedText returns, for every seed (the law FnExactSeedText returns true). No condition.
-/
import Derived.Test.YtklkgacgmcnlnaaDoorRows
import Derived.Test.YtklkgacgmcnlnaaDoorCards
import Derived.Test.YtklkgacgmcnlnaaDoorTie
import Derived.Test.YtklkgacgmcnlnaaDoorHx4
import Derived.Test.YtklkgacgmcnlnaaDoorTt
import Derived.LaidMore
import Derived.Lay
import Derived.MakeChecks
import Derived.ChangeMaps5
import Derived.Stop.Joined
import Derived.SevenTiedAt
namespace Go.Proofs.YtklkgacgmcnlnaaDoor
open Go Go.ChangeMaps Go.ChangeShapes Go.WideShapes Go.ChangeAt Go.RowKit

theorem toSeed_any (k : Int) (a b : Nat) (w : World) : Calls Tryd.prog 9 #[sdV k a b] w (fun e w' => e = .returned (sdV k a b) ∧ Below w.heap.size w w') := by
  unfold sdV
  go_enter Tryd.func9, Tryd.ntmps9
  go_wp2
  refine bodyPost_ret (v := .agg #[.int .i64 k, .int .u64 a, .int .u64 b]) (by simp [results, Tryd.results9, go_sem]) rfl ⟨rfl, ?_⟩
  exact below_al (below_al (below_al (Below.refl _ _) _) _) _
set_option maxRecDepth 100000 in
set_option maxHeartbeats 1600000 in
theorem walk (k : Int) (a b : Nat) (w : World) (hk : -9223372036854775808 ≤ k ∧ k ≤ 9223372036854775807) (ha : a < 18446744073709551616) (hb : b < 18446744073709551616) (ht : Tab w ∧ Bru w) :
    Calls Tryd.prog 3 #[sdV k a b] w (fun e w' => e = .returned (.bool true) ∧ Below w.heap.size w w') := by
  have HT := Lib.hid fun w => toSeed_any k a b w
  have HS := Lib.hid fun w => specSeedText_any k a b w hk ha hb
  have HI := Lib.hid fun w h1 h2 => SeedText_any k a b w hk ha hb h1 h2
  have HTB := Lib.hid ht
  unfold SxOut at HS HI
  unfold sdV at *
  clear hk ha hb ht
  generalize seedS k a b = S at *
  generalize seedB k a b = R at *
  cases R
  all_goals
    go_enter Tryd.func3, Tryd.ntmps3
    go_wp2_with fail
    generalize hW1 : World.alloc w _ = W1
    have B1 : Below w.heap.size w W1 := by rw [← hW1]; exact below_al (Below.refl _ _) _
    have k1 : SdAt W1 w.heap.size k a b := by rw [← hW1]; simp [SdAt, go_sem]
    clear hW1
    obtain ⟨c0, c1, c2⟩ := id k1
    have K1 := Lib.hid k1
    clear k1
    refine (HT.out _).mono ?_
    rintro e w2 ⟨rfl, hb2⟩
    have B2 := Lib.hid (below_next B1 hb2)
    have K2 := Lib.hid (K1.out.keep hb2)
    clear hb2 B1 c0 c1 c2
    go_wp2_with fail
    refine (HS.out _).mono ?_
    rintro e w3 ⟨rfl, hb3⟩
    have B3 := Lib.hid (below_next B2.out hb3)
    have K3 := Lib.hid (K2.out.keep hb3)
    clear hb3
    obtain ⟨c0, c1, c2⟩ := K3.out
    go_wp2_with fail
    refine (HT.out _).mono ?_
    rintro e w4 ⟨rfl, hb4⟩
    have B4 := Lib.hid (below_next B3.out hb4)
    clear hb4 c0 c1 c2
    go_wp2_with fail
    refine (HI.out _ (HTB.out.1.keep B4.out) (HTB.out.2.keep B4.out)).mono ?_
    rintro e w5 ⟨rfl, hb5⟩
    have B5 := Lib.hid (below_next B4.out hb5)
    clear hb5
    go_wp2_with fail
    go_ret
    exact ⟨rfl, B5.out⟩
def deB64 : List Int := [0, 1, 56, 2, 57, 49, 28, 3, 61, 58, 42, 50, 38, 29, 17, 4, 62, 47, 59, 36, 45, 43, 51, 22, 53, 39, 33, 30, 24, 18, 12, 5, 63, 55, 48, 27, 60, 41, 37, 16, 46, 35, 44, 21, 52, 32, 23, 11, 54, 26, 40, 15, 34, 20, 31, 10, 25, 14, 19, 9, 13, 8, 7, 6]
theorem bru_in_laid {laid : List (String × DataW Unit)} {pre suf : List (String × DataW Unit)} {w w' : World} (hl : laid = pre ++ ("math/bits.deBruijn64tab", Lib.tabData .u8 deB64) :: suf) (hp : ∀ w, laidMetH Tryd.prog laid w = laidMet Tryd.prog laid w) (h : laidMetH Tryd.prog laid w) (he : w'.heap = w.heap) : Bru w' := by
  rw [hp, hl] at h
  have h2 : ∀ pre : List (String × DataW Unit), laidMet Tryd.prog (pre ++ ("math/bits.deBruijn64tab", Lib.tabData .u8 deB64) :: suf) w → laidMet Tryd.prog (("math/bits.deBruijn64tab", Lib.tabData .u8 deB64) :: suf) w := by
    intro pre
    induction pre with
    | nil => exact id
    | cons x xs ih => intro h; exact ih (laidMet.tail h)
  have h3 := Lib.tabIs_of_head (P := Tryd.prog) (g := 5) (by kernel_rfl) (by kernel_rfl) Tryd.underlying164 Tryd.underlying5 (by kernel_rfl) (by kernel_rfl) (h2 pre h)
  have h4 := h3.cell (g := 5) (by kernel_rfl) 15 (by decide)
  unfold Bru
  unfold World.cell? at h4 ⊢
  rw [he]
  exact h4
set_option maxRecDepth 100000 in
theorem open_seed {H : Type} {enc : TypeId × Value → H} {W : World} {r : Reach} {b0 : Nat} {v : Value} {d : DataW H} {ps : List MemPlace} (hv : Value.okWide Tryd.prog W r b0 24 v) (h : DataW.Trod enc Tryd.prog W 0 (fun _ => true) true 24 v d ps) :
    ∃ (k : Int) (a b : Nat), v = sdV k a b ∧ (-9223372036854775808 ≤ k ∧ k ≤ 9223372036854775807) ∧ a < 18446744073709551616 ∧ b < 18446744073709551616 := by
  obtain ⟨cs, rfl, hsz⟩ := okWide_struct Tryd.underlying24 hv
  rw [show Tryd.prog.cellsOf 24 = 3 by kernel_rfl] at hsz
  obtain ⟨cl⟩ := cs
  match cl, hsz with
  | [c1, c2, c3], _ =>
    obtain ⟨fuel, hf⟩ := h
    obtain ⟨zs, m, _, _, _, hzl, hz⟩ := DataW.trod_struct Tryd.underlying24 hf
    have g0 : DataW.trod enc Tryd.prog W 0 (fun _ => true) true m 2 ((([c1, c2, c3] : List Value).drop 0).take (Tryd.prog.cellsOf 2)) = zs[0]? := hz 0 _ rfl
    have g1 : DataW.trod enc Tryd.prog W 0 (fun _ => true) true m 22 ((([c1, c2, c3] : List Value).drop 1).take (Tryd.prog.cellsOf 22)) = zs[1]? := hz 1 _ rfl
    have g2 : DataW.trod enc Tryd.prog W 0 (fun _ => true) true m 22 ((([c1, c2, c3] : List Value).drop 2).take (Tryd.prog.cellsOf 22)) = zs[2]? := hz 2 _ rfl
    rw [show Tryd.prog.cellsOf 2 = 1 by kernel_rfl] at g0
    rw [show Tryd.prog.cellsOf 22 = 1 by kernel_rfl] at g1 g2
    match zs, hzl with
    | [z0, z1, z2], _ =>
      have k0 : DataW.trod enc Tryd.prog W 0 (fun _ => true) true m 2 [c1] = some z0 := g0
      have k1 : DataW.trod enc Tryd.prog W 0 (fun _ => true) true m 22 [c2] = some z1 := g1
      have k2 : DataW.trod enc Tryd.prog W 0 (fun _ => true) true m 22 [c3] = some z2 := g2
      obtain ⟨k, ek, _, hk⟩ := DataW.trod_int Tryd.underlying2 k0
      obtain ⟨a, ea, _, ha⟩ := DataW.trod_int Tryd.underlying22 k1
      obtain ⟨b, eb, _, hb⟩ := DataW.trod_int Tryd.underlying22 k2
      obtain rfl : c1 = .int .i64 k := by simpa using ek
      obtain rfl : c2 = .int .u64 a := by simpa using ea
      obtain rfl : c3 = .int .u64 b := by simpa using eb
      have hk' : -9223372036854775808 ≤ k ∧ k ≤ 9223372036854775807 := by
        simp [Lit.wf, IntKind.min, IntKind.max, IntKind.signed, IntKind.bits] at hk
        omega
      have ha' : 0 ≤ a ∧ a < 18446744073709551616 := by
        simp [Lit.wf, IntKind.min, IntKind.max, IntKind.signed, IntKind.bits] at ha
        omega
      have hb' : 0 ≤ b ∧ b < 18446744073709551616 := by
        simp [Lit.wf, IntKind.min, IntKind.max, IntKind.signed, IntKind.bits] at hb
        omega
      obtain ⟨a', rfl⟩ := Int.eq_ofNat_of_zero_le ha'.1
      obtain ⟨b', rfl⟩ := Int.eq_ofNat_of_zero_le hb'.1
      exact ⟨k, a', b', rfl, hk', by omega, by omega⟩
theorem cl_laid : laidOutB Tryd.prog = true := by kernel_rfl
theorem door_met (os : Os) (args : Array Value) : laidMetH Tryd.prog Rows.fnExactSeedTextRow.laid ((World.laidAll Tryd.prog os Rows.fnExactSeedTextRow.laid).forCall (fun _ _ => 0) ⟨#[], args, []⟩).memory := by
  rw [MakeChecks.laidMetH_plain _ _ _ (by kernel_rfl)]
  exact laidMet_laidAll _ (by kernel_rfl) (by kernel_rfl)
set_option maxRecDepth 100000 in
theorem lifted (os : Os) (started : os.Started) (H : Type) (enc : TypeId × Value → H) :
    ReturnsInHanded {} Tryd.checked os 3 .any (fun w args => (Rows.fnExactSeedTextSpec.pre enc Tryd.prog Tryd.f3 [] false w args ∧ laidMetH Tryd.prog Rows.fnExactSeedTextRow.laid w) ∧ sizedMet enc Tryd.prog Tryd.f3 (OpenSpec.ofChange Rows.fnExactSeedTextSpec) false w args)
      (Rows.fnExactSeedTextSpec.post enc Tryd.prog Tryd.f3 false true false false) := by
  refine returnsInHanded_of_calls (C := Tryd.checked) own started (by kernel_rfl)
    (ChangeSpec.witness_shaped (enc := enc) (C := Tryd.checked) (os := os) (X := fun w _ => laidMetH Tryd.prog Rows.fnExactSeedTextRow.laid w) false (World.laidAll Tryd.prog os Rows.fnExactSeedTextRow.laid) #[.agg #[.int .i64 0, .int .u64 0, .int .u64 0]] 8 (World.laidAll_os _ _ _) (World.shaped_of_ZipB (by kernel_rfl) (by kernel_rfl)) (by kernel_rfl) (by kernel_rfl) (by kernel_rfl) (door_met os _)) ?_
  intro w tape i _ hsh _ hok hpre _
  obtain ⟨_, _, _, fn', hfn', _, _, _, _, hval0⟩ := hok
  obtain rfl : fn' = Tryd.f3 := Option.some.inj (hfn'.symm.trans Tryd.func3)
  obtain ⟨⟨⟨ds, gs, before, hw, _⟩, hlaid⟩, _⟩ := hpre
  have hW := DataW.Whole.of_heap (w' := w.forCall tape i) (by rfl) hw
  have hL := And.intro (tab_in_laid (w' := w.forCall tape i) (pre := [_, _]) (suf := []) rfl (fun w => MakeChecks.laidMetH_plain _ _ _ (by kernel_rfl)) hlaid rfl) (bru_in_laid (w' := w.forCall tape i) (pre := [_]) (suf := [_]) rfl (fun w => MakeChecks.laidMetH_plain _ _ _ (by kernel_rfl)) hlaid rfl)
  clear hsh hlaid
  generalize w.forCall tape i = W at *
  generalize i.args = args at *
  generalize w.heap.size = base at *
  have hval : ∀ (j : Nat) t v, Tryd.f3.params[j]? = some t → args[j]? = some v → Value.okWide Tryd.prog W .any base t v := hval0
  have hW' := hW
  have hlt : ∀ p ∈ before, p.block < W.heap.size := fun p hp => hW.lt p hp
  obtain ⟨p, q, hA0, hV, rfl, hfz, hnd⟩ := hW
  have hA : DataW.TrodAll enc Tryd.prog W 0 (fun _ => true) true Tryd.f3.params.toList args.toList ds p := hA0
  rw [Tryd.params3] at hA hval
  have hA1 := hA
  obtain ⟨v0, vs0, d0, ds0, p0, q0, hargs, rfl, rfl, h0, r0⟩ := trodAll_cons hA
  obtain ⟨rfl, rfl, rfl⟩ := trodAll_nil r0
  obtain rfl : args = #[v0] := by cases args; simp_all
  obtain ⟨rfl, rfl⟩ := trodVars_none hV
  obtain ⟨k0, a0, b0, rfl, hk0, ha0, hb0⟩ := open_seed (hval 0 _ _ rfl rfl) h0
  clear hA0 hval0
  refine (walk k0 a0 b0 W hk0 ha0 hb0 hL).mono fun e W' ⟨he, hb⟩ => ?_
  subst he
  rw [List.append_nil] at hW' hlt
  exact ChangeSpec.post_blind (post_of_below (pa := _) (pv := []) hW' (fun _ _ _ => (trodAll_cons_mk (shut_bool Tryd.underlying4 _) trodAll_mk0))
    (fun sp hsp => trodAll_below cl_laid hb _ _ _ _ (by kernel_rfl) hA1 hlt hsp) (fun _ _ => rfl) (List.append_nil _).symm hb (ok_one (by kernel_rfl) rfl (okWide_bool_mk Tryd.underlying4 _)))
theorem row_holds : Rows.FnExactSeedTextSaid :=
  OpenClaim.holds_of_wide 3 Tryd.f3 rfl rfl rfl rfl rfl rfl rfl ⟨rfl, rfl, rfl, rfl, rfl⟩ rfl rfl rfl rfl rfl (by kernel_rfl) Tryd.func3 (by kernel_rfl)
    (of_decide_eq_true (by kernel_rfl)) (by unfold Func.isWrapper; first | (rw [if_pos (by decide +kernel)]; kernel_rfl) | (rw [if_neg (by decide +kernel)]; exact ⟨rfl, rfl⟩))
    (fun os started H enc _ => lifted os started H enc)
theorem card_holds : Rows.FnExactSeedTextCardSaid :=
  Claim7.holds_tied_plain_at .later [] [.data, .data, .data] true (true, "a4a50681808862a7beed52045ac324b7d4d4efb5ca10f78be118e68f7af30370") true
    row_holds (fun _ h => by cases h) (by kernel_rfl) (fun _ h => by cases h) fnExactSeedText_row_tie rfl ⟨rfl, rfl⟩ (by kernel_rfl) rfl
    (fun f fn hf hfn => by
      obtain rfl : f = 3 := Option.some.inj ((show Tryd.prog.funcNamed "loop.example/g01339/laws.FnExactSeedText" = some 3 by kernel_rfl).symm.trans hf) |>.symm
      obtain rfl : fn = Tryd.f3 := (Option.some.inj (Tryd.func3.symm.trans hfn)).symm
      exact ⟨by kernel_rfl, fun j t ht => by
        rw [Tryd.params3] at ht
        have hm : t ∈ [24] := by simpa using Array.mem_of_getElem? ht
        have hall : ([24].all fun u => !Tryd.prog.wantsStandIn u) = true := by kernel_rfl
        exact (show Tryd.prog.wantsStandIn t = false by simpa using List.all_eq_true.1 hall t hm)⟩)
    (by kernel_rfl)
end Go.Proofs.YtklkgacgmcnlnaaDoor
