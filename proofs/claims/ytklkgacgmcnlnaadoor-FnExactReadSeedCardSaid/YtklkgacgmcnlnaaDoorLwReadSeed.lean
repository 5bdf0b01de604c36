/-
  impl.ReadSeed returns what spec.ReadSeed returns, for every text (the law FnExactReadSeed returns true). No condition.
-/
import Derived.Test.YtklkgacgmcnlnaaDoorRows
import Derived.Test.YtklkgacgmcnlnaaDoorCards
import Derived.Test.YtklkgacgmcnlnaaDoorTie
import Derived.Test.YtklkgacgmcnlnaaDoorRs5
import Derived.Test.YtklkgacgmcnlnaaDoorTt
import Derived.LaidMore
import Derived.Lay
import Derived.MakeChecks
import Derived.ChangeMaps5
import Derived.Stop.Joined
import Derived.Stop.LaidErr
import Derived.SevenTiedAt
namespace Go.Proofs.YtklkgacgmcnlnaaDoor
open Go Go.ChangeMaps Go.ChangeShapes Go.WideShapes Go.ChangeAt Go.RowKit

def deB64 : List Int := [0, 1, 56, 2, 57, 49, 28, 3, 61, 58, 42, 50, 38, 29, 17, 4, 62, 47, 59, 36, 45, 43, 51, 22, 53, 39, 33, 30, 24, 18, 12, 5, 63, 55, 48, 27, 60, 41, 37, 16, 46, 35, 44, 21, 52, 32, 23, 11, 54, 26, 40, 15, 34, 20, 31, 10, 25, 14, 19, 9, 13, 8, 7, 6]
theorem bru_in_laid {laid : List (String × DataW Unit)} {pre suf : List (String × DataW Unit)} {w w' : World} (hl : laid = pre ++ ("math/bits.deBruijn64tab", Lib.tabData .u8 deB64) :: suf) (hp : ∀ w, laidMetH Tryd.prog laid w = laidMet Tryd.prog laid w) (h : laidMetH Tryd.prog laid w) (he : w'.heap = w.heap) : Bru w' := by
  rw [hp, hl] at h
  have h2 : ∀ pre : List (String × DataW Unit), laidMet Tryd.prog (pre ++ ("math/bits.deBruijn64tab", Lib.tabData .u8 deB64) :: suf) w → laidMet Tryd.prog (("math/bits.deBruijn64tab", Lib.tabData .u8 deB64) :: suf) w := by
    intro pre
    induction pre with
    | nil => exact id
    | cons x xs ih => intro h; exact ih (laidMet.tail h)
  have h3 := Lib.tabIs_of_head (P := Tryd.prog) (g := 5) (by kernel_rfl) (by kernel_rfl) Tryd.underlying164 Tryd.underlying5 (by kernel_rfl) (by kernel_rfl) (h2 pre h)
  have h4 := h3.cell (g := 5) (by kernel_rfl) 15 (by decide)
  unfold Bru
  unfold World.cell? at h4 ⊢
  rw [he]
  exact h4
theorem es_star : "*" ++ "errors.errorString" = "*errors.errorString" := by decide
theorem es_row (u : TypeId) (h : Tryd.prog.typeName? 3 u = some "*errors.errorString") : u = 160 :=
  typeName_ptr_named (nm := "errors.errorString") (by rw [es_star]; kernel_rfl) (by kernel_rfl) (by decide) u (by rw [es_star]; exact h)
theorem env_of_laid {laid : List (String × DataW Unit)} {x0 x3 x6 : String × DataW Unit} {tr ts : List UInt8} {w w' : World} {mx : Int}
    (hl : laid = [x0, ("math/bits.deBruijn64tab", Lib.tabData .u8 deB64), ("internal/strconv.uint64pow10", Lib.tabData .u64 Lib.pow10Tab), x3, ("strconv.ErrRange", .iface "*errors.errorString" (.ptr (.agg [.lit (.string tr)]))), ("strconv.ErrSyntax", .iface "*errors.errorString" (.ptr (.agg [.lit (.string ts)]))), x6])
    (hp : ∀ w, laidMetH Tryd.prog laid w = laidMet Tryd.prog laid w) (h : laidMetH Tryd.prog laid w) (he : w'.heap = w.heap) (hmx : w'.cell? ⟨1, 0, none⟩ = some (.int .i64 mx)) : Env w' ∧ Bru w' := by
  have ht : Tab w' := tab_in_laid (pre := [x0, ("math/bits.deBruijn64tab", Lib.tabData .u8 deB64)]) (suf := [x3, ("strconv.ErrRange", .iface "*errors.errorString" (.ptr (.agg [.lit (.string tr)]))), ("strconv.ErrSyntax", .iface "*errors.errorString" (.ptr (.agg [.lit (.string ts)]))), x6]) hl hp h he
  have hbr : Bru w' := bru_in_laid (pre := [x0]) hl hp h he
  rw [hp, hl] at h
  have h4 := laidMet.tail (laidMet.tail (laidMet.tail (laidMet.tail h)))
  have h5 := laidMet.tail h4
  have g3 : Tryd.prog.globalNamed "strconv.ErrRange" = some 3 := by kernel_rfl
  have g2 : Tryd.prog.globalNamed "strconv.ErrSyntax" = some 2 := by kernel_rfl
  have t3 : (Tryd.prog.globals[3]?).map (·.type) = some 75 := by kernel_rfl
  have t2 : (Tryd.prog.globals[2]?).map (·.type) = some 75 := by kernel_rfl
  have c1 : Tryd.prog.cellsOf 162 = 1 := by kernel_rfl
  have c2 : Tryd.prog.cellsOf 9 = 1 := by kernel_rfl
  obtain ⟨a0, s0, hv0, -, -, -⟩ := laid_sentinel h4 g3 t3 Tryd.underlying75 es_row Tryd.underlying160 Tryd.underlying162 rfl rfl Tryd.underlying9 c1 c2
  obtain ⟨a1, s1, hv1, -, -, -⟩ := laid_sentinel h5 g2 t2 Tryd.underlying75 es_row Tryd.underlying160 Tryd.underlying162 rfl rfl Tryd.underlying9 c1 c2
  have k3 : w.cell? ⟨3, 0, none⟩ = some (.iface 160 (.pointer (some a0))) := by simpa using World.var?_cell g3 hv0 0
  have k2 : w.cell? ⟨2, 0, none⟩ = some (.iface 160 (.pointer (some a1))) := by simpa using World.var?_cell g2 hv1 0
  have hc : ∀ p : Addr, w'.cell? p = w.cell? p := fun p => World.cell?_of_block (a := p) (by rw [he])
  exact ⟨⟨ht, ⟨mx, hmx⟩, ⟨_, _, (hc _).trans k2⟩, ⟨_, _, (hc _).trans k3⟩⟩, hbr⟩

theorem eqSeed_yes (k : Int) (a b : Nat) (w : World) : Calls Tryd.prog 26 #[sdV k a b, sdV k a b] w (fun e w' => e = .returned (.bool true) ∧ Below w.heap.size w w') := by
  unfold sdV
  go_enter Tryd.func26, Tryd.ntmps26
  go_wp2
  go_ret
  exact ⟨rfl, below_al (below_al (Below.refl _ _) _) _⟩
set_option maxRecDepth 100000 in
set_option maxHeartbeats 3200000 in
theorem walk (s : ByteArray) (w : World) (mx : Int) (_hx : s.size ≤ 9223372036854775807) (_hmx : w.cell? ⟨1, 0, none⟩ = some (.int .i64 mx)) (he : Env w ∧ Bru w) :
    Calls Tryd.prog 7 #[.string s] w (fun e w' => e = .returned (.bool true) ∧ Below w.heap.size w w') := by
  by_cases hbig : 1048576 < s.size
  · clear he _hmx
    go_enter Tryd.func7, Tryd.ntmps7
    go_wp2_with fail
    go_ret
    exact ⟨rfl, Below.refl _ _⟩
  have hs : s.size ≤ 1048576 := by omega
  have HTB := Lib.hid he
  have HS := Lib.hid fun w => specReadSeed_any s w hs
  have HI := Lib.hid fun w h1 h2 => ReadSeed_any s w hs h1 h2
  have HE := Lib.hid fun w => eqSeed_yes (rsR s).k (rsR s).a (rsR s).b w
  clear he _hmx _hx
  unfold RsOut at HS HI
  unfold sdV at HE HS HI
  generalize rsR s = R at *
  generalize rsOk s = ok at *
  obtain ⟨k, a, b⟩ := R
  dsimp only at *
  cases ok
  all_goals
    go_enter Tryd.func7, Tryd.ntmps7
    go_wp2_with fail
    refine (HS.out _).mono ?_
    rintro e w1 ⟨rfl, hb1⟩
    have B1 := Lib.hid hb1
    clear hb1
    go_wp2_with fail
    generalize hV1 : World.alloc w1 _ = v1
    have b1 : Below w1.heap.size w1 v1 := by rw [← hV1]; exact below_al (Below.refl _ _) _
    have T1 : SdAt v1 w1.heap.size k a b := by rw [← hV1]; simp [SdAt, go_sem]
    have B1' := Lib.hid (below_next B1.out b1)
    clear hV1
    refine (HI.out _ (HTB.out.1.keep B1'.out) (HTB.out.2.keep B1'.out)).mono ?_
    rintro e w2 ⟨rfl, hb2⟩
    have B2 := Lib.hid (below_next B1'.out hb2)
    have T2 := T1.keep hb2
    have lt2 : w1.heap.size < w2.heap.size := lt_of_cell (a := ⟨w1.heap.size, 0, none⟩) T2.1
    clear hb2 b1 T1
    obtain ⟨x0, x1, x2⟩ := T2
    go_wp2_with fail
    generalize hV2 : World.alloc w2 _ = v2
    have b2 : Below w2.heap.size w2 v2 := by rw [← hV2]; exact below_al (Below.refl _ _) _
    have B2' := Lib.hid (below_next B2.out b2)
    clear hV2 b2
    refine (HE.out _).mono ?_
    rintro e w3 ⟨rfl, hb3⟩
    have B3 := Lib.hid (below_next B2'.out hb3)
    clear hb3 x0 x1 x2
    go_wp2_with fail
    go_ret
    exact ⟨rfl, B3.out⟩
theorem cl_laid : laidOutB Tryd.prog = true := by kernel_rfl
theorem door_met (os : Os) (args : Array Value) : laidMetH Tryd.prog Rows.fnExactReadSeedRow.laid ((World.laidAll Tryd.prog os Rows.fnExactReadSeedRow.laid).forCall (fun _ _ => 0) ⟨#[], args, []⟩).memory := by
  rw [MakeChecks.laidMetH_plain _ _ _ (by kernel_rfl)]
  exact laidMet_laidAll _ (by kernel_rfl) (by kernel_rfl)
set_option maxRecDepth 100000 in
theorem lifted (os : Os) (started : os.Started) (H : Type) (enc : TypeId × Value → H) :
    ReturnsInHanded {} Tryd.checked os 7 .any (fun w args => (Rows.fnExactReadSeedSpec.pre enc Tryd.prog Tryd.f7 [] false w args ∧ laidMetH Tryd.prog Rows.fnExactReadSeedRow.laid w) ∧ sizedMet enc Tryd.prog Tryd.f7 (OpenSpec.ofChange Rows.fnExactReadSeedSpec) false w args)
      (Rows.fnExactReadSeedSpec.post enc Tryd.prog Tryd.f7 false true false false) := by
  refine returnsInHanded_of_calls (C := Tryd.checked) own started (by kernel_rfl)
    (ChangeSpec.witness_shaped (enc := enc) (C := Tryd.checked) (os := os) (X := fun w _ => laidMetH Tryd.prog Rows.fnExactReadSeedRow.laid w) false (World.laidAll Tryd.prog os Rows.fnExactReadSeedRow.laid) #[.string ByteArray.empty] 8 (World.laidAll_os _ _ _) (World.shaped_of_ZipB (by kernel_rfl) (by kernel_rfl)) (by kernel_rfl) (by kernel_rfl) (by kernel_rfl) (door_met os _)) ?_
  intro w tape i _ hsh _ hok hpre _
  obtain ⟨_, _, _, fn', hfn', _, _, _, _, hval0⟩ := hok
  obtain rfl : fn' = Tryd.f7 := Option.some.inj (hfn'.symm.trans Tryd.func7)
  obtain ⟨⟨⟨ds, gs, before, hw, _⟩, hlaid⟩, _⟩ := hpre
  have hW := DataW.Whole.of_heap (w' := w.forCall tape i) (by rfl) hw
  obtain ⟨mx, hmx⟩ := Tryd.laysM145.s1_3 _ hsh
  have hL := env_of_laid (w' := w.forCall tape i) rfl (fun w => MakeChecks.laidMetH_plain _ _ _ (by kernel_rfl)) hlaid rfl hmx
  clear hsh hlaid
  generalize w.forCall tape i = W at *
  generalize i.args = args at *
  generalize w.heap.size = base at *
  have hval : ∀ (j : Nat) t v, Tryd.f7.params[j]? = some t → args[j]? = some v → Value.okWide Tryd.prog W .any base t v := hval0
  have hW' := hW
  have hlt : ∀ p ∈ before, p.block < W.heap.size := fun p hp => hW.lt p hp
  obtain ⟨p, q, hA0, hV, rfl, hfz, hnd⟩ := hW
  have hA : DataW.TrodAll enc Tryd.prog W 0 (fun _ => true) true Tryd.f7.params.toList args.toList ds p := hA0
  rw [Tryd.params7] at hA hval
  have hA1 := hA
  obtain ⟨v0, vs0, d0, ds0, p0, q0, hargs, rfl, rfl, h0, r0⟩ := trodAll_cons hA
  obtain ⟨rfl, rfl, rfl⟩ := trodAll_nil r0
  obtain rfl : args = #[v0] := by cases args; simp_all
  obtain ⟨rfl, rfl⟩ := trodVars_none hV
  obtain ⟨s0, rfl, rfl, rfl, ws0⟩ := open_string Tryd.underlying9 (hval 0 _ _ rfl rfl) h0
  have hs0 : s0.size ≤ 9223372036854775807 := by unfold maxLen at ws0; omega
  clear hA0 hval0
  refine (walk s0 W mx hs0 hmx hL).mono fun e W' ⟨he, hb⟩ => ?_
  subst he
  rw [List.append_nil] at hW' hlt
  exact ChangeSpec.post_blind (post_of_below (pa := _) (pv := []) hW' (fun _ _ _ => (trodAll_cons_mk (shut_bool Tryd.underlying4 _) trodAll_mk0))
    (fun sp hsp => trodAll_below cl_laid hb _ _ _ _ (by kernel_rfl) hA1 hlt hsp) (fun _ _ => rfl) (List.append_nil _).symm hb (ok_one (by kernel_rfl) rfl (okWide_bool_mk Tryd.underlying4 _)))
theorem row_holds : Rows.FnExactReadSeedSaid :=
  OpenClaim.holds_of_wide 7 Tryd.f7 rfl rfl rfl rfl rfl rfl rfl ⟨rfl, rfl, rfl, rfl, rfl⟩ rfl rfl rfl rfl rfl (by kernel_rfl) Tryd.func7 (by kernel_rfl)
    (of_decide_eq_true (by kernel_rfl)) (by unfold Func.isWrapper; first | (rw [if_pos (by decide +kernel)]; kernel_rfl) | (rw [if_neg (by decide +kernel)]; exact ⟨rfl, rfl⟩))
    (fun os started H enc _ => lifted os started H enc)
theorem card_holds : Rows.FnExactReadSeedCardSaid :=
  Claim7.holds_tied_plain_at .later [] [.data, .data, .data, .data, .sentinel, .sentinel, .pinned] true (true, "a4a50681808862a7beed52045ac324b7d4d4efb5ca10f78be118e68f7af30370") true
    row_holds (fun _ h => by cases h) (by kernel_rfl) (fun _ h => by cases h) fnExactReadSeed_row_tie rfl ⟨rfl, rfl⟩ (by kernel_rfl) rfl
    (fun f fn hf hfn => by
      obtain rfl : f = 7 := Option.some.inj ((show Tryd.prog.funcNamed "loop.example/g01339/laws.FnExactReadSeed" = some 7 by kernel_rfl).symm.trans hf) |>.symm
      obtain rfl : fn = Tryd.f7 := (Option.some.inj (Tryd.func7.symm.trans hfn)).symm
      exact ⟨by kernel_rfl, fun j t ht => by
        rw [Tryd.params7] at ht
        have hm : t ∈ [9] := by simpa using Array.mem_of_getElem? ht
        have hall : ([9].all fun u => !Tryd.prog.wantsStandIn u) = true := by kernel_rfl
        exact (show Tryd.prog.wantsStandIn t = false by simpa using List.all_eq_true.1 hall t hm)⟩)
    (by kernel_rfl)
end Go.Proofs.YtklkgacgmcnlnaaDoor
