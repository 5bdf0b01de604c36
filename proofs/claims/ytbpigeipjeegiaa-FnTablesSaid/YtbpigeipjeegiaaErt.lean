/-
  impl.eachRow with impl.TablesWith's visitor (printed by rowgen15.py out of XEr, XEs).
-/
import Derived.Test.YtbpigeipjeegiaaEs
import Derived.BigQuiet
import Derived.Deep.RegionHeld3
import Derived.Deep.DeepCutAuto
import Derived.Laws.EntriesVeiled
namespace Go.Proofs.Ytbpigeipjeegiaa
open Go Go.RowKit

/-- what eachRow's inner function only reads -/
structure ROt (bR bL bV bP gl ol lc : Nat) (p1 p2 p3 : Value) (lims : List Nat) (W : World) : Prop where
  l : W.cell? ⟨bL, 0, none⟩ = some (.slice (some ⟨gl, ol, none⟩) lims.length lc)
  v : W.cell? ⟨bV, 0, none⟩ = some (.func (.func 28) #[] #[p1, p2, p3])
  p : W.cell? ⟨bP, 0, none⟩ = some (.func (.func 38) #[] #[.pointer (some ⟨bR, 0, none⟩), .pointer (some ⟨bL, 0, none⟩), .pointer (some ⟨bV, 0, none⟩), .pointer (some ⟨bP, 0, none⟩)])
  r : ∀ i, i < lims.length → W.cell? ⟨gl, ol + i, none⟩ = some (.int .i64 (lims[i]! : Nat))
theorem ROt.keep {bR bL bV bP gl ol lc : Nat} {p1 p2 p3 : Value} {lims : List Nat} {W W' : World} {bs : List Nat} (h : ROt bR bL bV bP gl ol lc p1 p2 p3 lims W) (k : Kp bs W W') (hn : bL ∉ bs ∧ bV ∉ bs ∧ bP ∉ bs ∧ gl ∉ bs) : ROt bR bL bV bP gl ol lc p1 p2 p3 lims W' :=
  ⟨k.cell h.l hn.1, k.cell h.v hn.2.1, k.cell h.p hn.2.2.1, fun i hi => k.cell (h.r i hi) hn.2.2.2⟩
/-- the visitor's word -/
def VCt {σ : Type} (V : σ → List Nat → World → Prop) (nx : σ → List Nat → σ) (B0 : Nat) (p1 p2 p3 : Value) (lims : List Nat) (sum : Nat) : Prop :=
  ∀ x gs row g c W, V x gs W → (∀ b, b ∈ gs → b < W.heap.size) → g ∉ gs → B0 ≤ g → W.ownsRow 0 2 1 (.slice (some ⟨g, 0, none⟩) row.length c) row.length (nlv row) → row ∈ rowsOf lims sum →
    Calls Try.prog 28 #[.slice (some ⟨g, 0, none⟩) row.length c, p1, p2, p3] W (fun e w' => e = .returned (.tuple #[]) ∧ ∃ gs', V (nx x row) gs' w' ∧ Kp gs W w' ∧ ∀ b, b ∈ gs' → (b ∈ gs ∨ W.heap.size ≤ b) ∧ b < w'.heap.size)
set_option maxRecDepth 100000 in
set_option maxHeartbeats 3200000 in
theorem eachRow1T_any {σ : Type} (V : σ → List Nat → World → Prop) (nx : σ → List Nat → σ) (B0 bR bL bV bP gl ol lc : Nat) (p1 p2 p3 : Value) (lims : List Nat) (sum : Nat) (hV : VCt V nx B0 p1 p2 p3 lims sum) (hF : VF V B0) (hln : lims.length ≤ 4) (hlb : ∀ i, i < lims.length → lims[i]! ≤ 1048576) :
    ∀ (j : Nat) (pre : List Nat) (left : Nat) (x : σ) (gs : List Nat) (g c : Nat) (W : World), pre.length + j = lims.length → left ≤ 1048576 → (∀ r, r ∈ rowsOf (lims.drop pre.length) left → pre ++ r ∈ rowsOf lims sum) → B0 ≤ W.heap.size → ES V B0 bR x gs g c pre W → ROt bR bL bV bP gl ol lc p1 p2 p3 lims W →
      (bL ∉ bR :: g :: gs ∧ bV ∉ bR :: g :: gs ∧ bP ∉ bR :: g :: gs ∧ gl ∉ bR :: g :: gs) →
      Calls Try.prog 38 #[.int .i64 left, .pointer (some ⟨bR, 0, none⟩), .pointer (some ⟨bL, 0, none⟩), .pointer (some ⟨bV, 0, none⟩), .pointer (some ⟨bP, 0, none⟩)] W (fun e w' => e = .returned (.tuple #[]) ∧ EP V B0 bR (goRows nx pre (rowsOf (lims.drop pre.length) left) x) gs g pre W w')
  | 0, pre, left, x, gs, g, c, W, hj, hleft, hmem, hB, hE, hR, hn => by
    have hd : lims.drop pre.length = [] := List.drop_eq_nil_of_le (by omega)
    rw [hd] at hmem ⊢
    have e1 := hE.bc
    have e2 := hR.l
    have e3 := hR.v
    have hpl : pre.length = lims.length := by omega
    have HE := Lib.hid hE
    by_cases h0 : left = 0
    · have HV9 := Lib.hid (hV x gs pre g c W hE.v hE.lt hE.d2 hE.l2 hE.o (by have := hmem [] (by rw [h0]; exact List.mem_singleton.2 rfl); rw [List.append_nil] at this; exact this))
      have HG : Hid (goRows nx pre (rowsOf [] left) x = nx x pre) := Lib.hid (by rw [h0]; show List.foldl _ x [[]] = _; simp)
      rw [hpl] at e1 HV9
      clear hE hR hmem hV hj hn hd
      subst h0
      generalize lims.length = n at *
      go_enter Try.func38, Try.ntmps38
      go_wp2_with (go_at_call 28; refine HV9.out.mono ?_; rintro e w1 ⟨rfl, gs', hv1, hk1, hs1⟩; have V1 := Lib.hid hv1; have K1 := Lib.hid hk1; have S1 := Lib.hid hs1; clear hv1 hk1 hs1)
      refine bodyPost_ret (results_none rfl _ _ _) rfl ?_
      rw [HG.out]
      exact ⟨rfl, gs', g, c, HE.out.visit V1.out K1.out S1.out, ⟨K1.out.os, K1.out.tape, K1.out.output, K1.out.size, fun b hb hn => K1.out.block b hb (by simp at hn; exact hn.2.2)⟩, fun b hb => (S1.out b hb).1, .inl rfl⟩
    · have hz : ¬ (left : Int) = 0 := by omega
      have HG : Hid (goRows nx pre (rowsOf [] left) x = x) := Lib.hid (by show List.foldl _ x (if left = 0 then _ else _) = _; rw [if_neg h0]; rfl)
      rw [hpl] at e1
      clear hE hR hmem hV hj hn hd
      generalize lims.length = n at *
      go_enter Try.func38, Try.ntmps38
      go_wp2_with fail
      refine bodyPost_ret (results_none rfl _ _ _) rfl ?_
      rw [HG.out]
      exact ⟨rfl, gs, g, c, HE.out, Kp.refl _ _, fun b hb => .inl hb, .inl rfl⟩
  | j + 1, pre, left, x, gs, g, c, W, hj, hleft, hmem, hB, hE, hR, hn => by
    have hk : pre.length < lims.length := by omega
    have hd : lims.drop pre.length = lims[pre.length]! :: lims.drop (pre.length + 1) := by
      rw [List.drop_eq_getElem_cons hk, getElem!_pos lims pre.length hk]
    rw [hd] at hmem ⊢
    obtain ⟨i0, hi0, hz0, hz1, hz2⟩ := info_parts info_i64
    have HIH := Lib.hid (eachRow1T_any V nx B0 bR bL bV bP gl ol lc p1 p2 p3 lims sum hV hF hln hlb j)
    have hll := hlb _ hk
    have HNX := Lib.hid fun m x => goRows_succ nx pre (lims.drop (pre.length + 1)) left m x
    have HEN : Hid (goRows nx pre (rowsOf (lims[pre.length]! :: lims.drop (pre.length + 1)) left) x = goRows nx pre (rowsTo (lims.drop (pre.length + 1)) left (min left lims[pre.length]! + 1)) x) := Lib.hid rfl
    have HMEM : Hid (∀ m r, m ≤ left → m ≤ lims[pre.length]! → r ∈ rowsOf (lims.drop (pre.length + 1)) (left - m) → (pre ++ [m]) ++ r ∈ rowsOf lims sum) := Lib.hid fun m r h1 h2 h3 => by
      have := hmem _ (mem_rowsOf_cons h1 h2 h3)
      simpa using this
    have e1 := hE.bc
    have e2 := hR.l
    have e5 := hR.r _ hk
    have HE := Lib.hid hE
    have HR := Lib.hid hR
    have HN := Lib.hid hn
    have HF := Lib.hid hF
    have HLT := Lib.hid (And.intro (lt_of_cell hR.l) (And.intro (lt_of_cell hR.v) (And.intro (lt_of_cell hR.p) (lt_of_cell (hR.r _ hk)))))
    have hkne : ¬ ((pre.length : Int) = (lims.length : Int)) := by omega
    have hkne2 : ¬ (pre.length = lims.length) := by omega
    have hkz : (pre.length : Int) < (lims.length : Int) := by omega
    have hpl4 : pre.length ≤ 4 := by omega
    have hM9 : ∃ M : Nat, ((¬ (left : Int) ≤ (lims[pre.length]! : Nat) ∧ ((lims[pre.length]! : Nat) : Int) < left ∧ IntKind.i64.wrap (((lims[pre.length]! : Nat) : Int) + 1) = (M : Int)) ∨ ((left : Int) ≤ (lims[pre.length]! : Nat) ∧ ¬ ((lims[pre.length]! : Nat) : Int) < left ∧ IntKind.i64.wrap ((left : Int) + 1) = (M : Int))) ∧ min left lims[pre.length]! + 1 = M ∧ M ≤ left + 1 ∧ M ≤ lims[pre.length]! + 1 := by
      refine ⟨min left lims[pre.length]! + 1, ?_, rfl, by omega, by omega⟩
      rcases Nat.lt_or_ge lims[pre.length]! left with hq | hq
      · refine .inl ⟨by omega, by omega, ?_⟩
        rw [IntWalk.i64_in _ (by omega)]
        omega
      · refine .inr ⟨by omega, by omega, ?_⟩
        rw [IntWalk.i64_in _ (by omega)]
        omega
    obtain ⟨M, hMw, hM1, hM2, hM3⟩ := hM9
    rw [hM1] at HEN
    have HM := Lib.hid (And.intro hM2 hM3)
    have START : Hid (goRows nx pre (rowsTo (lims.drop (pre.length + 1)) left 0) x = x) := Lib.hid rfl
    have HPL : Hid (∀ m : Nat, (pre ++ [m]).length = pre.length + 1) := Lib.hid fun m => by simp
    have HJ : Hid (pre.length + 1 + j = lims.length) := Lib.hid (by omega)
    clear hE hR hn hmem hV hF hj hd hk hM1 hM2 hM3 hll hlb
    generalize hgl9 : lims[pre.length]! = l at *
    generalize hrest : lims.drop (pre.length + 1) = rest at *
    have HREST := Lib.hid hrest
    clear hrest hgl9
    rcases hMw with ⟨s1, s2, s3⟩ | ⟨s1, s2, s3⟩
    all_goals
      go_enter Try.func38, Try.ntmps38
      go_wp2_with fail
      go_loopw [26] (fun kv wr => ∃ (m : Nat) (gs' : List Nat) (g' c' : Nat), m ≤ M ∧ kv = .int .i64 m ∧ ES V B0 bR (goRows nx pre (rowsTo rest left m) x) gs' g' c' pre wr ∧ Kp (bR :: g :: gs) W wr ∧ (∀ b, b ∈ gs' → b ∈ gs ∨ W.heap.size ≤ b) ∧ (g' = g ∨ W.heap.size ≤ g')) (fun kv _ => M - (intOf kv).toNat)
      case atStart => exact ⟨0, gs, g, c, Nat.zero_le _, rfl, by rw [START.out]; exact HE.out, Kp.refl _ _, fun b hb => .inl hb, .inl rfl⟩
      case round =>
        obtain ⟨m, gs', g', c', hm, rfl, hE1, hK1, hS1, hG1⟩ := hrel
        rename World => wr
        have E1 := Lib.hid hE1
        have K1 := Lib.hid hK1
        have S1 := Lib.hid (And.intro hS1 hG1)
        have RO1 := Lib.hid (HR.out.keep hK1 HN.out)
        have q1 := hE1.bc
        have qf := hE1.f
        have hne3 := hE1.d3
        have hlt1 := lt_of_cell hE1.bc
        have hown1 := Lib.hid hE1.o
        have hsz1 := hK1.size
        have hgl1 := own_ltg hE1.o
        clear hE1 hK1 hS1 hG1
        by_cases hlt : m < M
        · have hmz : (m : Int) < (M : Int) := by omega
          have hMb : M ≤ 1048577 := by have := HM.out; omega
          have hwl : IntKind.i64.wrap ((left : Int) - (m : Int)) = ((left - m : Nat) : Int) := by
            have := HM.out
            rw [show (left : Int) - (m : Int) = ((left - m : Nat) : Int) by omega]
            exact IntWalk.i64_in _ (by omega)
          go_upto_region 8 with (refine wpList_append_lies _ rfl _ _ _ rfl 0 2 i0 _ 1 8 Try.underlying24 hi0 hz0 hz1 hz2 rfl (by omega) (.slice (some ⟨g', 0, none⟩) pre.length c') pre.length (nlv pre) (by rfl) (hown1.out.alloc _) ⟨wr.heap.size, 0, none⟩ 1 1 [.int .i64 (m : Nat)] (by rfl) (by rfl) (World.news_of_block (cs := #[.int .i64 (m : Nat)]) (t := 2) (fr := (0, 0)) (heap_alloc_new wr _)) (by simp [Value.oneCell']) (by omega) (by unfold maxLen; omega) (by omega) (Nat.zero_le _) (wr.heap.size + 1) (by simp) ?_; intro g9 cap9 w9 hown9 hgrow hat hlt9; have hk9 : Kp [g'] wr w9 := (Kp.of_below (below_al (Below.refl wr.heap.size wr) _)).grown hgrow (fun j e => by cases e; exact .inl (by simp)); have hc9 := hk9.cell q1 (by simp; exact hne3); have hf9 := (hk9.frozen (p := ⟨bR, 0, none⟩) hlt1 (by simp; exact hne3)).trans qf; have P9 := Lib.hid (E1.out.push HF.out (by omega) hown9 hgrow (by rcases hat with e | e; exact .inl (Option.some.inj e).symm; exact .inr e)); have A9 := Lib.hid (show g9 = g' ∨ wr.heap.size ≤ g9 by rcases hat with e | e; exact .inl (Option.some.inj e).symm; exact .inr (by omega)); clear hown9 hgrow hat hk9)
          have RO2 := Lib.hid (RO1.out.keep P9.out.2 ⟨far2 HN.out.1 HLT.out.1 S1.out.2, far2 HN.out.2.1 HLT.out.2.1 S1.out.2, far2 HN.out.2.2.1 HLT.out.2.2.1 S1.out.2, far2 HN.out.2.2.2 HLT.out.2.2.2 S1.out.2⟩)
          have G9 : Hid (g9 = g ∨ W.heap.size ≤ g9) := Lib.hid (by
            have h1 := S1.out.2
            have h2 := A9.out
            omega)
          have N2 := Lib.hid (show bL ∉ bR :: g9 :: gs' ∧ bV ∉ bR :: g9 :: gs' ∧ bP ∉ bR :: g9 :: gs' ∧ gl ∉ bR :: g9 :: gs' from ⟨far_of HN.out.1 HLT.out.1 G9.out S1.out.1, far_of HN.out.2.1 HLT.out.2.1 G9.out S1.out.1, far_of HN.out.2.2.1 HLT.out.2.2.1 G9.out S1.out.1, far_of HN.out.2.2.2 HLT.out.2.2.2 G9.out S1.out.1⟩)
          have CALL := Lib.hid (HIH.out (pre ++ [m]) (left - m) _ gs' g9 cap9 _ (by rw [HPL.out]; exact HJ.out) (by omega) (fun r hr => HMEM.out m r (by have := HM.out; omega) (by have := HM.out; omega) (by rw [HPL.out, HREST.out] at hr; exact hr)) (by have := P9.out.2.size; omega) P9.out.1 RO2.out N2.out)
          rw [HPL.out, HREST.out] at CALL
          have hp2 := RO2.out.p
          clear hc9 hf9
          generalize World.setCell w9 _ _ = wx at *
          clear HIH
          go_upto_region 9 with (go_at_call 38; refine CALL.out.mono ?_; rintro e w2 ⟨rfl, gs2, g2, c2, hE2, hK2, hS2, hG2⟩; have E2 := Lib.hid hE2; have K2 := Lib.hid hK2; have S2 := Lib.hid (And.intro hS2 hG2); clear hE2 hK2 hS2 hG2)
          have E3 := Lib.hid (E2.out.pop HF.out)
          have r1 := E2.out.bc
          rw [HPL.out] at r1
          have rf := E2.out.f
          have hcap := own_cap E2.out.o
          rw [HPL.out] at hcap
          have hcapz : (pre.length : Int) ≤ (c2 : Int) := by omega
          go_wp2_with fail
          go_roundw
          case rel =>
            refine ⟨m + 1, gs2, g2, c2, by omega, by go_num, by rw [HNX.out]; exact E3.out.1, ?_, ?_, ?_⟩
            · refine ((K1.out.trans P9.out.2 ?_).trans K2.out ?_).trans E3.out.2 ?_
              · intro b hb
                simp only [List.mem_cons, List.not_mem_nil, or_false] at hb
                rcases hb with rfl | rfl
                · exact .inl (by simp)
                · rcases S1.out.2 with h | h
                  · exact .inl (by simp [h])
                  · exact .inr h
              · intro b hb
                simp only [List.mem_cons] at hb
                rcases hb with rfl | rfl | hb
                · exact .inl (by simp)
                · rcases G9.out with h | h
                  · exact .inl (by simp [h])
                  · exact .inr h
                · rcases S1.out.1 b hb with h | h
                  · exact .inl (by simp [h])
                  · exact .inr h
              · intro b hb
                simp only [List.mem_cons, List.not_mem_nil, or_false] at hb
                exact .inl (by simp [hb])
            · intro b hb
              rcases S2.out.1 b hb with h | h
              · exact S1.out.1 b h
              · have := P9.out.2.size
                exact .inr (by omega)
            · have h1 := S2.out.2
              have h2 := G9.out
              have := P9.out.2.size
              omega
          case measure => simp [intOf]; omega
        · obtain rfl : m = M := by omega
          go_wp2_with fail
          go_end0
          rw [HEN.out]
          exact ⟨rfl, gs', g', c', E1.out, K1.out, S1.out.1, S1.out.2⟩
set_option maxRecDepth 100000 in
set_option maxHeartbeats 3200000 in
theorem eachRowT_any {σ : Type} (V : σ → List Nat → World → Prop) (nx : σ → List Nat → σ) (gl ol lc : Nat) (p1 p2 p3 : Value) (lims : List Nat) (sum : Nat) (x : σ) (gs : List Nat) (W : World) (hV : VCt V nx W.heap.size p1 p2 p3 lims sum) (hF : VF V W.heap.size) (hln : lims.length ≤ 4) (hlb : ∀ i, i < lims.length → lims[i]! ≤ 1048576) (hsum : sum ≤ 1048576)
    (hv : V x gs W) (hlt : ∀ b, b ∈ gs → b < W.heap.size) (hgl : gl ∉ gs ∧ gl < W.heap.size) (hr : ∀ i, i < lims.length → W.cell? ⟨gl, ol + i, none⟩ = some (.int .i64 (lims[i]! : Nat))) :
    Calls Try.prog 27 #[.int .i64 sum, .slice (some ⟨gl, ol, none⟩) lims.length lc, .func (.func 28) #[] #[p1, p2, p3]] W (fun e w' => e = .returned (.tuple #[]) ∧ ∃ gs', V (goRows nx [] (rowsOf lims sum) x) gs' w' ∧ Kp gs W w' ∧ ∀ b, b ∈ gs' → (b ∈ gs ∨ W.heap.size ≤ b) ∧ b < w'.heap.size) := by
  have hmf : ∀ (fn : Fn) (first cap : Array Value) (w : World), (Instr.makeFunc fn first cap).run Try.prog w = .ok (.func fn first cap) w := fun _ _ _ _ => rfl
  have H := Lib.hid (eachRow1T_any V nx W.heap.size (W.heap.size + 3) W.heap.size (W.heap.size + 1) (W.heap.size + 4) gl ol lc p1 p2 p3 lims sum hV hF hln hlb lims.length [] sum x gs (W.heap.size + 2) 0)
  have HV := Lib.hid hv
  have HF := Lib.hid hF
  have HL := Lib.hid hlt
  have HG := Lib.hid hgl
  have HR := Lib.hid hr
  clear hV hF hv hlt hgl hr hlb
  go_enter Try.func27, Try.ntmps27
  go_upto_region 4 with fail
  have HX : Hid (∀ W5, W5 = ((((W.alloc (.cells #[.slice (some ⟨gl, ol, none⟩) lims.length lc] 24)).alloc (.cells #[.func (.func 28) #[] #[p1, p2, p3]] 52)).alloc (.cells #[] 2)).alloc (.cells #[.slice (some ⟨W.heap.size + 2, 0, none⟩) 0 0] 24)).alloc (.cells #[.func (.func 38) #[] #[.pointer (some ⟨W.heap.size + 3, 0, none⟩), .pointer (some ⟨W.heap.size, 0, none⟩), .pointer (some ⟨W.heap.size + 1, 0, none⟩), .pointer (some ⟨W.heap.size + 4, 0, none⟩)]] 65) →
      Below W.heap.size W W5 ∧ W5.heap.size = W.heap.size + 5 ∧ ES V W.heap.size (W.heap.size + 3) x gs (W.heap.size + 2) 0 [] W5 ∧ ROt (W.heap.size + 3) W.heap.size (W.heap.size + 1) (W.heap.size + 4) gl ol lc p1 p2 p3 lims W5) := Lib.hid fun W5 hW5 => by
    have hb : Below W.heap.size W W5 := by
      rw [hW5]
      repeat (first | exact Below.refl _ _ | refine below_al ?_ _)
    have hz : W5.heap.size = W.heap.size + 5 := by rw [hW5]; simp
    refine ⟨hb, hz, ⟨HF.out _ _ _ _ HV.out hb.size (fun b hl _ => hb.block b hl), ?_, ?_, ?_, fun b hm => by have := HL.out b hm; omega, fun hm => by have := HL.out _ hm; omega, fun hm => by have := HL.out _ hm; omega, by omega, by omega, by omega⟩, ⟨?_, ?_, ?_, fun i hi => keepC hb (HR.out i hi)⟩⟩
    · rw [hW5]
      repeat (first | exact cl_new _ _ _ _ (by simp) | refine cl_up _ ?_)
    · rw [hW5]
      exact fz_up _ (by simp) (fz_new _ _ _ _ (by simp))
    · rw [hW5]
      exact ow_up _ (ow_up _ (ow_nil _ _ _ (by simp)))
    · rw [hW5]
      repeat (first | exact cl_new _ _ _ _ (by simp) | refine cl_up _ ?_)
    · rw [hW5]
      repeat (first | exact cl_new _ _ _ _ (by simp) | refine cl_up _ ?_)
    · rw [hW5]
      repeat (first | exact cl_new _ _ _ _ (by simp) | refine cl_up _ ?_)
  have e9 := HX.out _ rfl
  have E9 := Lib.hid e9
  clear e9 HX
  generalize World.alloc (World.alloc (World.alloc (World.alloc (World.alloc W _) _) _) _) _ = W5 at *
  have e4 := E9.out.2.2.2.p
  have HN : Hid (W.heap.size ∉ (W.heap.size + 3) :: (W.heap.size + 2) :: gs ∧ W.heap.size + 1 ∉ (W.heap.size + 3) :: (W.heap.size + 2) :: gs ∧ W.heap.size + 4 ∉ (W.heap.size + 3) :: (W.heap.size + 2) :: gs ∧ gl ∉ (W.heap.size + 3) :: (W.heap.size + 2) :: gs) := Lib.hid (by
    have h9 := HG.out
    have h8 : ∀ b, W.heap.size ≤ b → b ∉ gs := fun b hb hm => by have := HL.out b hm; omega
    have g0 := h8 W.heap.size (by omega)
    have g1 := h8 (W.heap.size + 1) (by omega)
    have g4 := h8 (W.heap.size + 4) (by omega)
    simp only [List.mem_cons, not_or]
    exact ⟨⟨by omega, by omega, g0⟩, ⟨by omega, by omega, g1⟩, ⟨by omega, by omega, g4⟩, ⟨by omega, by omega, h9.1⟩⟩)
  have HC := Lib.hid (H.out W5 (by simp) (by omega) (fun r hr => hr) E9.out.1.size E9.out.2.2.1 E9.out.2.2.2 HN.out)
  clear H
  go_wp2_with (go_at_call 38; refine HC.out.mono ?_; rintro e w2 ⟨rfl, gs2, g2, c2, hE2, hK2, hS2, hG2⟩; have E2 := Lib.hid hE2; have K2 := Lib.hid hK2; have S2 := Lib.hid hS2; clear hE2 hK2 hS2 hG2)
  go_end0
  refine ⟨rfl, gs2, E2.out.v, ?_, fun b hb => ⟨?_, E2.out.lt b hb⟩⟩
  · refine (Kp.of_below (bs := gs) E9.out.1).trans K2.out fun b hb => ?_
    simp only [List.mem_cons] at hb
    rcases hb with rfl | rfl | hb
    · exact .inr (by omega)
    · exact .inr (by omega)
    · exact .inl hb
  · rcases S2.out b hb with h | h
    · exact .inl h
    · have := E9.out.1.size
      exact .inr (by omega)
end Go.Proofs.Ytbpigeipjeegiaa
