/-
  impl.eachRow: its visitor is handed all rows with a sum, one after another (the visitor is impl.eachTable's).
-/
import Derived.Test.YtbpigeipjeegiaaEk
import Derived.BigQuiet
import Derived.Deep.RegionHeld3
import Derived.Deep.DeepCutAuto
namespace Go.Proofs.Ytbpigeipjeegiaa
open Go Go.RowKit

/-- what the visitor keeps: a state x, in blocks gs that it may change -/
structure ES {σ : Type} (V : σ → List Nat → World → Prop) (B0 bR : Nat) (x : σ) (gs : List Nat) (g c : Nat) (pre : List Nat) (W : World) : Prop where
  v : V x gs W
  bc : W.cell? ⟨bR, 0, none⟩ = some (.slice (some ⟨g, 0, none⟩) pre.length c)
  f : W.frozen? ⟨bR, 0, none⟩ = false
  o : W.ownsRow 0 2 1 (.slice (some ⟨g, 0, none⟩) pre.length c) pre.length (nlv pre)
  lt : ∀ b, b ∈ gs → b < W.heap.size
  d1 : bR ∉ gs
  d2 : g ∉ gs
  d3 : bR ≠ g
  l1 : B0 ≤ bR
  l2 : B0 ≤ g
/-- the visitor's state leans on its own blocks and on what lay below B0 -/
def VF {σ : Type} (V : σ → List Nat → World → Prop) (B0 : Nat) : Prop := ∀ x gs W W', V x gs W → W.heap.size ≤ W'.heap.size → (∀ b, b < W.heap.size → (b ∈ gs ∨ b < B0) → W'.heap[b]? = W.heap[b]?) → V x gs W'
theorem ES.keep {σ : Type} {V : σ → List Nat → World → Prop} {B0 bR : Nat} {x : σ} {gs : List Nat} {g c : Nat} {pre : List Nat} {W W' : World} (h : ES V B0 bR x gs g c pre W) (hF : VF V B0) (hb : Below W.heap.size W W') : ES V B0 bR x gs g c pre W' :=
  ⟨hF _ _ _ _ h.v hb.size (fun b hl _ => hb.block b hl), keepC hb h.bc, (hb.frozen (lt_of_cell h.bc)).trans h.f, own_below h.o hb, fun b hm => Nat.lt_of_lt_of_le (h.lt b hm) hb.size, h.d1, h.d2, h.d3, h.l1, h.l2⟩
theorem ES.push {σ : Type} {V : σ → List Nat → World → Prop} {B0 bR : Nat} {x : σ} {gs : List Nat} {g c : Nat} {pre : List Nat} {W w9 : World} {o : Obj} {g9 cap m : Nat} (h : ES V B0 bR x gs g c pre W) (hF : VF V B0) (hB : B0 ≤ W.heap.size)
    (hown : w9.ownsRow 0 2 1 (.slice (some ⟨g9, 0, none⟩) (pre.length + 1) cap) (pre.length + 1) (nlv pre ++ [.int .i64 (m : Nat)])) (hg : (W.alloc o).grownBy w9 (some g)) (hat : g9 = g ∨ g9 = W.heap.size + 1) :
    ES V B0 bR x gs g9 cap (pre ++ [m]) (w9.setCell ⟨bR, 0, none⟩ (.slice (some ⟨g9, 0, none⟩) (pre.length + 1) cap)) ∧ Kp [bR, g] W (w9.setCell ⟨bR, 0, none⟩ (.slice (some ⟨g9, 0, none⟩) (pre.length + 1) cap)) := by
  have hb := lt_of_cell h.bc
  have hgl := own_ltg h.o
  have hbR : bR < W.heap.size := hb
  have hk9 : Kp [g] W w9 := (Kp.of_below (bs := [g]) (below_al (Below.refl W.heap.size W) o)).grown hg (fun j e => by cases e; exact .inl (by simp))
  have hlen : (pre ++ [m]).length = pre.length + 1 := by simp
  have hk8 : Kp [bR, g] W (w9.setCell ⟨bR, 0, none⟩ (.slice (some ⟨g9, 0, none⟩) (pre.length + 1) cap)) := (⟨hk9.os, hk9.tape, hk9.output, hk9.size, fun b hb hn => hk9.block b hb (by simp at hn ⊢; exact hn.2)⟩ : Kp [bR, g] W w9).set bR 0 _ (.inl (by simp))
  have hc9 : w9.cell? ⟨bR, 0, none⟩ = some (.slice (some ⟨g, 0, none⟩) pre.length c) := hk9.cell h.bc (by simp; exact h.d3)
  have hne : bR ≠ g9 := by
    rcases hat with e | e
    · rw [e]; exact h.d3
    · omega
  refine ⟨⟨hF _ _ _ _ h.v hk8.size (fun b hl hor => hk8.block b hl ?_), ?_, ?_, ?_, fun b hm => Nat.lt_of_lt_of_le (h.lt b hm) hk8.size, h.d1, ?_, hne, h.l1, ?_⟩, hk8⟩
  · intro hm
    simp at hm
    rcases hor with h1 | h1
    · rcases hm with rfl | rfl
      · exact h.d1 h1
      · exact h.d2 h1
    · have := h.l1
      have := h.l2
      omega
  · rw [hlen]
    exact World.cell?_setCell_same' _ _ _ (by rw [hc9]; rfl)
  · rw [World.frozen?_setCell]
    exact (hk9.frozen hb (by simp; exact h.d3)).trans h.f
  · rw [hlen, nlv_snoc]
    exact own_block hown (Below.heap_setCell _ _ _ _ (fun e => hne e.symm))
  · rcases hat with e | e
    · rw [e]; exact h.d2
    · intro hm
      have := h.lt _ hm
      omega
  · have := h.l2
    rcases hat with e | e <;> omega
theorem ES.pop {σ : Type} {V : σ → List Nat → World → Prop} {B0 bR : Nat} {x : σ} {gs : List Nat} {g c : Nat} {pre : List Nat} {m : Nat} {W : World} (h : ES V B0 bR x gs g c (pre ++ [m]) W) (hF : VF V B0) :
    ES V B0 bR x gs g c pre (W.setCell ⟨bR, 0, none⟩ (.slice (some ⟨g, 0, none⟩) pre.length c)) ∧ Kp [bR] W (W.setCell ⟨bR, 0, none⟩ (.slice (some ⟨g, 0, none⟩) pre.length c)) := by
  have hb : bR < W.heap.size := lt_of_cell h.bc
  have hk : Kp [bR] W (W.setCell ⟨bR, 0, none⟩ (.slice (some ⟨g, 0, none⟩) pre.length c)) := (Kp.refl _ W).set bR 0 _ (.inl (by simp))
  have ho := own_cut h.o (k := pre.length) (by simp)
  have htk : (nlv (pre ++ [m])).take pre.length = nlv pre := by
    rw [nlv_snoc, List.take_append_of_le_length (by rw [nlv_len]; omega), List.take_of_length_le (by rw [nlv_len]; omega)]
  rw [htk] at ho
  refine ⟨⟨hF _ _ _ _ h.v hk.size (fun b hl hor => hk.block b hl ?_), World.cell?_setCell_same' _ _ _ (by rw [h.bc]; rfl), by rw [World.frozen?_setCell]; exact h.f, own_block ho (Below.heap_setCell _ _ _ _ (fun e => h.d3 e.symm)), fun b hm => Nat.lt_of_lt_of_le (h.lt b hm) hk.size, h.d1, h.d2, h.d3, h.l1, h.l2⟩, hk⟩
  intro hm
  simp at hm
  subst hm
  rcases hor with h1 | h1
  · exact h.d1 h1
  · have := h.l1
    omega
/-- what eachRow's inner function only reads -/
structure RO (bR bL bV bP gl ol lc : Nat) (p1 p2 p3 : Value) (lims : List Nat) (W : World) : Prop where
  l : W.cell? ⟨bL, 0, none⟩ = some (.slice (some ⟨gl, ol, none⟩) lims.length lc)
  v : W.cell? ⟨bV, 0, none⟩ = some (.func (.func 44) #[] #[p1, p2, p3])
  p : W.cell? ⟨bP, 0, none⟩ = some (.func (.func 38) #[] #[.pointer (some ⟨bR, 0, none⟩), .pointer (some ⟨bL, 0, none⟩), .pointer (some ⟨bV, 0, none⟩), .pointer (some ⟨bP, 0, none⟩)])
  r : ∀ i, i < lims.length → W.cell? ⟨gl, ol + i, none⟩ = some (.int .i64 (lims[i]! : Nat))
theorem RO.keep {bR bL bV bP gl ol lc : Nat} {p1 p2 p3 : Value} {lims : List Nat} {W W' : World} {bs : List Nat} (h : RO bR bL bV bP gl ol lc p1 p2 p3 lims W) (k : Kp bs W W') (hn : bL ∉ bs ∧ bV ∉ bs ∧ bP ∉ bs ∧ gl ∉ bs) : RO bR bL bV bP gl ol lc p1 p2 p3 lims W' :=
  ⟨k.cell h.l hn.1, k.cell h.v hn.2.1, k.cell h.p hn.2.2.1, fun i hi => k.cell (h.r i hi) hn.2.2.2⟩
/-- the visitor's word -/
def VC {σ : Type} (V : σ → List Nat → World → Prop) (nx : σ → List Nat → σ) (B0 : Nat) (p1 p2 p3 : Value) (lims : List Nat) (sum : Nat) : Prop :=
  ∀ x gs row g c W, V x gs W → (∀ b, b ∈ gs → b < W.heap.size) → g ∉ gs → B0 ≤ g → W.ownsRow 0 2 1 (.slice (some ⟨g, 0, none⟩) row.length c) row.length (nlv row) → row ∈ rowsOf lims sum →
    Calls Try.prog 44 #[.slice (some ⟨g, 0, none⟩) row.length c, p1, p2, p3] W (fun e w' => e = .returned (.tuple #[]) ∧ ∃ gs', V (nx x row) gs' w' ∧ Kp gs W w' ∧ ∀ b, b ∈ gs' → (b ∈ gs ∨ W.heap.size ≤ b) ∧ b < w'.heap.size)
/-- a visit within eachRow -/
theorem ES.visit {σ : Type} {V : σ → List Nat → World → Prop} {B0 bR : Nat} {x x' : σ} {gs gs' : List Nat} {g c : Nat} {pre : List Nat} {W W' : World} (h : ES V B0 bR x gs g c pre W) (hv : V x' gs' W') (hk : Kp gs W W') (hs : ∀ b, b ∈ gs' → (b ∈ gs ∨ W.heap.size ≤ b) ∧ b < W'.heap.size) : ES V B0 bR x' gs' g c pre W' := by
  have hb : bR < W.heap.size := lt_of_cell h.bc
  have hg := own_ltg h.o
  refine ⟨hv, hk.cell h.bc h.d1, (hk.frozen hb h.d1).trans h.f, own_block h.o (hk.block g hg h.d2), fun b hm => (hs b hm).2, fun hm => ?_, fun hm => ?_, h.d3, h.l1, h.l2⟩
  · rcases (hs _ hm).1 with h1 | h1
    · exact h.d1 h1
    · omega
  · rcases (hs _ hm).1 with h1 | h1
    · exact h.d2 h1
    · omega
theorem far_of {b bR g g' B : Nat} {gs gs' : List Nat} (h : b ∉ bR :: g :: gs) (hb : b < B) (hg : g' = g ∨ B ≤ g') (hs : ∀ b, b ∈ gs' → b ∈ gs ∨ B ≤ b) : b ∉ bR :: g' :: gs' := by
  intro hm
  simp only [List.mem_cons, not_or] at h hm
  rcases hm with h1 | h1 | h1
  · exact h.1 h1
  · rcases hg with h2 | h2
    · exact h.2.1 (h1.trans h2)
    · omega
  · rcases hs b h1 with h2 | h2
    · exact h.2.2 h2
    · omega
theorem far2 {b bR g g' B : Nat} {gs : List Nat} (h : b ∉ bR :: g :: gs) (hb : b < B) (hg : g' = g ∨ B ≤ g') : b ∉ [bR, g'] := by
  have := far_of (gs' := []) h hb hg (fun b hb => by cases hb)
  exact this
theorem own_cap {W : World} {base n c g : Nat} {e : TypeId} {vs : List Value} (h : W.ownsRow base e 1 (.slice (some ⟨g, 0, none⟩) n c) n vs) : n ≤ c := by
  rcases h.2 with ⟨hv, hz⟩ | ⟨g', cap, cur, hv, hg, hh, h2, hr⟩
  · cases hv
  · cases hv
    omega
/-- the end of eachRow's inner function -/
def EP {σ : Type} (V : σ → List Nat → World → Prop) (B0 bR : Nat) (x : σ) (gs : List Nat) (g : Nat) (pre : List Nat) (W w' : World) : Prop :=
  ∃ gs' g' c', ES V B0 bR x gs' g' c' pre w' ∧ Kp (bR :: g :: gs) W w' ∧ (∀ b, b ∈ gs' → b ∈ gs ∨ W.heap.size ≤ b) ∧ (g' = g ∨ W.heap.size ≤ g')
set_option maxRecDepth 100000 in
set_option maxHeartbeats 3200000 in
theorem eachRow1_any {σ : Type} (V : σ → List Nat → World → Prop) (nx : σ → List Nat → σ) (B0 bR bL bV bP gl ol lc : Nat) (p1 p2 p3 : Value) (lims : List Nat) (sum : Nat) (hV : VC V nx B0 p1 p2 p3 lims sum) (hF : VF V B0) (hln : lims.length ≤ 4) (hlb : ∀ i, i < lims.length → lims[i]! ≤ 1048576) :
    ∀ (j : Nat) (pre : List Nat) (left : Nat) (x : σ) (gs : List Nat) (g c : Nat) (W : World), pre.length + j = lims.length → left ≤ 1048576 → (∀ r, r ∈ rowsOf (lims.drop pre.length) left → pre ++ r ∈ rowsOf lims sum) → B0 ≤ W.heap.size → ES V B0 bR x gs g c pre W → RO bR bL bV bP gl ol lc p1 p2 p3 lims W →
      (bL ∉ bR :: g :: gs ∧ bV ∉ bR :: g :: gs ∧ bP ∉ bR :: g :: gs ∧ gl ∉ bR :: g :: gs) →
      Calls Try.prog 38 #[.int .i64 left, .pointer (some ⟨bR, 0, none⟩), .pointer (some ⟨bL, 0, none⟩), .pointer (some ⟨bV, 0, none⟩), .pointer (some ⟨bP, 0, none⟩)] W (fun e w' => e = .returned (.tuple #[]) ∧ EP V B0 bR (goRows nx pre (rowsOf (lims.drop pre.length) left) x) gs g pre W w')
  | 0, pre, left, x, gs, g, c, W, hj, hleft, hmem, hB, hE, hR, hn => by
    have hd : lims.drop pre.length = [] := List.drop_eq_nil_of_le (by omega)
    rw [hd] at hmem ⊢
    have e1 := hE.bc
    have e2 := hR.l
    have e3 := hR.v
    have hpl : pre.length = lims.length := by omega
    have HE := Lib.hid hE
    by_cases h0 : left = 0
    · have HV9 := Lib.hid (hV x gs pre g c W hE.v hE.lt hE.d2 hE.l2 hE.o (by have := hmem [] (by rw [h0]; exact List.mem_singleton.2 rfl); rw [List.append_nil] at this; exact this))
      have HG : Hid (goRows nx pre (rowsOf [] left) x = nx x pre) := Lib.hid (by rw [h0]; show List.foldl _ x [[]] = _; simp)
      rw [hpl] at e1 HV9
      clear hE hR hmem hV hj hn hd
      subst h0
      generalize lims.length = n at *
      go_enter Try.func38, Try.ntmps38
      go_wp2_with (go_at_call 44; refine HV9.out.mono ?_; rintro e w1 ⟨rfl, gs', hv1, hk1, hs1⟩; have V1 := Lib.hid hv1; have K1 := Lib.hid hk1; have S1 := Lib.hid hs1; clear hv1 hk1 hs1)
      refine bodyPost_ret (results_none rfl _ _ _) rfl ?_
      rw [HG.out]
      exact ⟨rfl, gs', g, c, HE.out.visit V1.out K1.out S1.out, ⟨K1.out.os, K1.out.tape, K1.out.output, K1.out.size, fun b hb hn => K1.out.block b hb (by simp at hn; exact hn.2.2)⟩, fun b hb => (S1.out b hb).1, .inl rfl⟩
    · have hz : ¬ (left : Int) = 0 := by omega
      have HG : Hid (goRows nx pre (rowsOf [] left) x = x) := Lib.hid (by show List.foldl _ x (if left = 0 then _ else _) = _; rw [if_neg h0]; rfl)
      rw [hpl] at e1
      clear hE hR hmem hV hj hn hd
      generalize lims.length = n at *
      go_enter Try.func38, Try.ntmps38
      go_wp2_with fail
      refine bodyPost_ret (results_none rfl _ _ _) rfl ?_
      rw [HG.out]
      exact ⟨rfl, gs, g, c, HE.out, Kp.refl _ _, fun b hb => .inl hb, .inl rfl⟩
  | j + 1, pre, left, x, gs, g, c, W, hj, hleft, hmem, hB, hE, hR, hn => by
    have hk : pre.length < lims.length := by omega
    have hd : lims.drop pre.length = lims[pre.length]! :: lims.drop (pre.length + 1) := by
      rw [List.drop_eq_getElem_cons hk, getElem!_pos lims pre.length hk]
    rw [hd] at hmem ⊢
    obtain ⟨i0, hi0, hz0, hz1, hz2⟩ := info_parts info_i64
    have HIH := Lib.hid (eachRow1_any V nx B0 bR bL bV bP gl ol lc p1 p2 p3 lims sum hV hF hln hlb j)
    have hll := hlb _ hk
    have HNX := Lib.hid fun m x => goRows_succ nx pre (lims.drop (pre.length + 1)) left m x
    have HEN : Hid (goRows nx pre (rowsOf (lims[pre.length]! :: lims.drop (pre.length + 1)) left) x = goRows nx pre (rowsTo (lims.drop (pre.length + 1)) left (min left lims[pre.length]! + 1)) x) := Lib.hid rfl
    have HMEM : Hid (∀ m r, m ≤ left → m ≤ lims[pre.length]! → r ∈ rowsOf (lims.drop (pre.length + 1)) (left - m) → (pre ++ [m]) ++ r ∈ rowsOf lims sum) := Lib.hid fun m r h1 h2 h3 => by
      have := hmem _ (mem_rowsOf_cons h1 h2 h3)
      simpa using this
    have e1 := hE.bc
    have e2 := hR.l
    have e5 := hR.r _ hk
    have HE := Lib.hid hE
    have HR := Lib.hid hR
    have HN := Lib.hid hn
    have HF := Lib.hid hF
    have HLT := Lib.hid (And.intro (lt_of_cell hR.l) (And.intro (lt_of_cell hR.v) (And.intro (lt_of_cell hR.p) (lt_of_cell (hR.r _ hk)))))
    have hkne : ¬ ((pre.length : Int) = (lims.length : Int)) := by omega
    have hkne2 : ¬ (pre.length = lims.length) := by omega
    have hkz : (pre.length : Int) < (lims.length : Int) := by omega
    have hpl4 : pre.length ≤ 4 := by omega
    have hM9 : ∃ M : Nat, ((¬ (left : Int) ≤ (lims[pre.length]! : Nat) ∧ ((lims[pre.length]! : Nat) : Int) < left ∧ IntKind.i64.wrap (((lims[pre.length]! : Nat) : Int) + 1) = (M : Int)) ∨ ((left : Int) ≤ (lims[pre.length]! : Nat) ∧ ¬ ((lims[pre.length]! : Nat) : Int) < left ∧ IntKind.i64.wrap ((left : Int) + 1) = (M : Int))) ∧ min left lims[pre.length]! + 1 = M ∧ M ≤ left + 1 ∧ M ≤ lims[pre.length]! + 1 := by
      refine ⟨min left lims[pre.length]! + 1, ?_, rfl, by omega, by omega⟩
      rcases Nat.lt_or_ge lims[pre.length]! left with hq | hq
      · refine .inl ⟨by omega, by omega, ?_⟩
        rw [IntWalk.i64_in _ (by omega)]
        omega
      · refine .inr ⟨by omega, by omega, ?_⟩
        rw [IntWalk.i64_in _ (by omega)]
        omega
    obtain ⟨M, hMw, hM1, hM2, hM3⟩ := hM9
    rw [hM1] at HEN
    have HM := Lib.hid (And.intro hM2 hM3)
    have START : Hid (goRows nx pre (rowsTo (lims.drop (pre.length + 1)) left 0) x = x) := Lib.hid rfl
    have HPL : Hid (∀ m : Nat, (pre ++ [m]).length = pre.length + 1) := Lib.hid fun m => by simp
    have HJ : Hid (pre.length + 1 + j = lims.length) := Lib.hid (by omega)
    clear hE hR hn hmem hV hF hj hd hk hM1 hM2 hM3 hll hlb
    generalize hgl9 : lims[pre.length]! = l at *
    generalize hrest : lims.drop (pre.length + 1) = rest at *
    have HREST := Lib.hid hrest
    clear hrest hgl9
    rcases hMw with ⟨s1, s2, s3⟩ | ⟨s1, s2, s3⟩
    all_goals
      go_enter Try.func38, Try.ntmps38
      go_wp2_with fail
      go_loopw [26] (fun kv wr => ∃ (m : Nat) (gs' : List Nat) (g' c' : Nat), m ≤ M ∧ kv = .int .i64 m ∧ ES V B0 bR (goRows nx pre (rowsTo rest left m) x) gs' g' c' pre wr ∧ Kp (bR :: g :: gs) W wr ∧ (∀ b, b ∈ gs' → b ∈ gs ∨ W.heap.size ≤ b) ∧ (g' = g ∨ W.heap.size ≤ g')) (fun kv _ => M - (intOf kv).toNat)
      case atStart => exact ⟨0, gs, g, c, Nat.zero_le _, rfl, by rw [START.out]; exact HE.out, Kp.refl _ _, fun b hb => .inl hb, .inl rfl⟩
      case round =>
        obtain ⟨m, gs', g', c', hm, rfl, hE1, hK1, hS1, hG1⟩ := hrel
        rename World => wr
        have E1 := Lib.hid hE1
        have K1 := Lib.hid hK1
        have S1 := Lib.hid (And.intro hS1 hG1)
        have RO1 := Lib.hid (HR.out.keep hK1 HN.out)
        have q1 := hE1.bc
        have qf := hE1.f
        have hne3 := hE1.d3
        have hlt1 := lt_of_cell hE1.bc
        have hown1 := Lib.hid hE1.o
        have hsz1 := hK1.size
        have hgl1 := own_ltg hE1.o
        clear hE1 hK1 hS1 hG1
        by_cases hlt : m < M
        · have hmz : (m : Int) < (M : Int) := by omega
          have hMb : M ≤ 1048577 := by have := HM.out; omega
          have hwl : IntKind.i64.wrap ((left : Int) - (m : Int)) = ((left - m : Nat) : Int) := by
            have := HM.out
            rw [show (left : Int) - (m : Int) = ((left - m : Nat) : Int) by omega]
            exact IntWalk.i64_in _ (by omega)
          go_upto_region 8 with (refine wpList_append_lies _ rfl _ _ _ rfl 0 2 i0 _ 1 8 Try.underlying24 hi0 hz0 hz1 hz2 rfl (by omega) (.slice (some ⟨g', 0, none⟩) pre.length c') pre.length (nlv pre) (by rfl) (hown1.out.alloc _) ⟨wr.heap.size, 0, none⟩ 1 1 [.int .i64 (m : Nat)] (by rfl) (by rfl) (World.news_of_block (cs := #[.int .i64 (m : Nat)]) (t := 2) (fr := (0, 0)) (heap_alloc_new wr _)) (by simp [Value.oneCell']) (by omega) (by unfold maxLen; omega) (by omega) (Nat.zero_le _) (wr.heap.size + 1) (by simp) ?_; intro g9 cap9 w9 hown9 hgrow hat hlt9; have hk9 : Kp [g'] wr w9 := (Kp.of_below (below_al (Below.refl wr.heap.size wr) _)).grown hgrow (fun j e => by cases e; exact .inl (by simp)); have hc9 := hk9.cell q1 (by simp; exact hne3); have hf9 := (hk9.frozen (p := ⟨bR, 0, none⟩) hlt1 (by simp; exact hne3)).trans qf; have P9 := Lib.hid (E1.out.push HF.out (by omega) hown9 hgrow (by rcases hat with e | e; exact .inl (Option.some.inj e).symm; exact .inr e)); have A9 := Lib.hid (show g9 = g' ∨ wr.heap.size ≤ g9 by rcases hat with e | e; exact .inl (Option.some.inj e).symm; exact .inr (by omega)); clear hown9 hgrow hat hk9)
          have RO2 := Lib.hid (RO1.out.keep P9.out.2 ⟨far2 HN.out.1 HLT.out.1 S1.out.2, far2 HN.out.2.1 HLT.out.2.1 S1.out.2, far2 HN.out.2.2.1 HLT.out.2.2.1 S1.out.2, far2 HN.out.2.2.2 HLT.out.2.2.2 S1.out.2⟩)
          have G9 : Hid (g9 = g ∨ W.heap.size ≤ g9) := Lib.hid (by
            have h1 := S1.out.2
            have h2 := A9.out
            omega)
          have N2 := Lib.hid (show bL ∉ bR :: g9 :: gs' ∧ bV ∉ bR :: g9 :: gs' ∧ bP ∉ bR :: g9 :: gs' ∧ gl ∉ bR :: g9 :: gs' from ⟨far_of HN.out.1 HLT.out.1 G9.out S1.out.1, far_of HN.out.2.1 HLT.out.2.1 G9.out S1.out.1, far_of HN.out.2.2.1 HLT.out.2.2.1 G9.out S1.out.1, far_of HN.out.2.2.2 HLT.out.2.2.2 G9.out S1.out.1⟩)
          have CALL := Lib.hid (HIH.out (pre ++ [m]) (left - m) _ gs' g9 cap9 _ (by rw [HPL.out]; exact HJ.out) (by omega) (fun r hr => HMEM.out m r (by have := HM.out; omega) (by have := HM.out; omega) (by rw [HPL.out, HREST.out] at hr; exact hr)) (by have := P9.out.2.size; omega) P9.out.1 RO2.out N2.out)
          rw [HPL.out, HREST.out] at CALL
          have hp2 := RO2.out.p
          clear hc9 hf9
          generalize World.setCell w9 _ _ = wx at *
          clear HIH
          go_upto_region 9 with (go_at_call 38; refine CALL.out.mono ?_; rintro e w2 ⟨rfl, gs2, g2, c2, hE2, hK2, hS2, hG2⟩; have E2 := Lib.hid hE2; have K2 := Lib.hid hK2; have S2 := Lib.hid (And.intro hS2 hG2); clear hE2 hK2 hS2 hG2)
          have E3 := Lib.hid (E2.out.pop HF.out)
          have r1 := E2.out.bc
          rw [HPL.out] at r1
          have rf := E2.out.f
          have hcap := own_cap E2.out.o
          rw [HPL.out] at hcap
          have hcapz : (pre.length : Int) ≤ (c2 : Int) := by omega
          go_wp2_with fail
          go_roundw
          case rel =>
            refine ⟨m + 1, gs2, g2, c2, by omega, by go_num, by rw [HNX.out]; exact E3.out.1, ?_, ?_, ?_⟩
            · refine ((K1.out.trans P9.out.2 ?_).trans K2.out ?_).trans E3.out.2 ?_
              · intro b hb
                simp only [List.mem_cons, List.not_mem_nil, or_false] at hb
                rcases hb with rfl | rfl
                · exact .inl (by simp)
                · rcases S1.out.2 with h | h
                  · exact .inl (by simp [h])
                  · exact .inr h
              · intro b hb
                simp only [List.mem_cons] at hb
                rcases hb with rfl | rfl | hb
                · exact .inl (by simp)
                · rcases G9.out with h | h
                  · exact .inl (by simp [h])
                  · exact .inr h
                · rcases S1.out.1 b hb with h | h
                  · exact .inl (by simp [h])
                  · exact .inr h
              · intro b hb
                simp only [List.mem_cons, List.not_mem_nil, or_false] at hb
                exact .inl (by simp [hb])
            · intro b hb
              rcases S2.out.1 b hb with h | h
              · exact S1.out.1 b h
              · have := P9.out.2.size
                exact .inr (by omega)
            · have h1 := S2.out.2
              have h2 := G9.out
              have := P9.out.2.size
              omega
          case measure => simp [intOf]; omega
        · obtain rfl : m = M := by omega
          go_wp2_with fail
          go_end0
          rw [HEN.out]
          exact ⟨rfl, gs', g', c', E1.out, K1.out, S1.out.1, S1.out.2⟩
end Go.Proofs.Ytbpigeipjeegiaa

