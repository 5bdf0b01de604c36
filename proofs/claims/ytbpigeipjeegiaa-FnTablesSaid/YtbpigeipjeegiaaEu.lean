/-
  impl.eachTable's innermost function: a row is put behind the counts, and the tables of the rows behind it are visited.
-/
import Derived.Test.YtbpigeipjeegiaaEt
namespace Go.Proofs.Ytbpigeipjeegiaa
open Go Go.RowKit

theorem own_frozen {W : World} {base n c g : Nat} {e : TypeId} {vs : List Value} (h : W.ownsRow base e 1 (.slice (some ⟨g, 0, none⟩) n c) n vs) (i : Nat) : W.frozen? ⟨g, i, none⟩ = false := by
  rcases h.2 with ⟨hv, hz⟩ | ⟨g', cap, cur, hv, hg, hh, hr⟩
  · cases hv
  · cases hv
    simp [World.frozen?, hh]
/-- what the visits of tables only read -/
structure TRO (bc bt bvis brows bput R C : Nat) (q1 q2 q3 : Value) (grw orw lrw : Nat) (rows : List Nat) (W : World) : Prop where
  t0 : W.cell? ⟨bt, 0, none⟩ = some (.int .i64 R)
  t1 : W.cell? ⟨bt, 1, none⟩ = some (.int .i64 C)
  vis : W.cell? ⟨bvis, 0, none⟩ = some (.func (.func 34) #[] #[q1, q2, q3])
  rw : W.cell? ⟨brows, 0, none⟩ = some (.slice (some ⟨grw, orw, none⟩) rows.length lrw)
  rr : ∀ i, i < rows.length → W.cell? ⟨grw, orw + i, none⟩ = some (.int .i64 (rows[i]! : Nat))
  pt : W.cell? ⟨bput, 0, none⟩ = some (.func (.func 42) #[] #[.pointer (some ⟨bc, 0, none⟩), .pointer (some ⟨bt, 0, none⟩), .pointer (some ⟨bvis, 0, none⟩), .pointer (some ⟨brows, 0, none⟩), .pointer (some ⟨bput, 0, none⟩)])
/-- the blocks read are none of those that change -/
def NB (bt bvis brows grw bput : Nat) (bs : List Nat) : Prop := bt ∉ bs ∧ bvis ∉ bs ∧ brows ∉ bs ∧ grw ∉ bs ∧ bput ∉ bs
section
variable {bc bt bvis brows bput R C : Nat} {q1 q2 q3 : Value} {grw orw lrw : Nat} {rows : List Nat} {W W' : World}
theorem TRO.same (h : TRO bc bt bvis brows bput R C q1 q2 q3 grw orw lrw rows W) (hr : 1 ≤ rows.length) (k : ∀ b, b = bt ∨ b = bvis ∨ b = brows ∨ b = grw ∨ b = bput → b < W.heap.size → W'.heap[b]? = W.heap[b]?) : TRO bc bt bvis brows bput R C q1 q2 q3 grw orw lrw rows W' := by
  have l0 := lt_of_cell h.t0
  have l1 := lt_of_cell h.vis
  have l2 := lt_of_cell h.rw
  have l3 := lt_of_cell (h.rr 0 (by omega))
  have l4 := lt_of_cell h.pt
  exact ⟨(World.cell?_of_block (k bt (by simp) l0)).trans h.t0, (World.cell?_of_block (k bt (by simp) l0)).trans h.t1, (World.cell?_of_block (k bvis (by simp) l1)).trans h.vis, (World.cell?_of_block (k brows (by simp) l2)).trans h.rw, fun i hi => (World.cell?_of_block (k grw (by simp) l3)).trans (h.rr i hi), (World.cell?_of_block (k bput (by simp) l4)).trans h.pt⟩
theorem TRO.keep (h : TRO bc bt bvis brows bput R C q1 q2 q3 grw orw lrw rows W) (hr : 1 ≤ rows.length) {bs : List Nat} (k : Kp bs W W') (hn : NB bt bvis brows grw bput bs) : TRO bc bt bvis brows bput R C q1 q2 q3 grw orw lrw rows W' := by
  refine h.same hr fun b hb hl => k.block b hl ?_
  obtain ⟨n1, n2, n3, n4, n5⟩ := hn
  rcases hb with rfl | rfl | rfl | rfl | rfl <;> assumption
end
theorem NB.more {bt bvis brows grw bput bR g g' B : Nat} {gs : List Nat} (h : NB bt bvis brows grw bput (bR :: g :: gs)) (hl : bt < B ∧ bvis < B ∧ brows < B ∧ grw < B ∧ bput < B) (hg : g' = g ∨ B ≤ g') : NB bt bvis brows grw bput (bR :: g' :: gs) :=
  ⟨far_of h.1 hl.1 hg (fun _ h => .inl h), far_of h.2.1 hl.2.1 hg (fun _ h => .inl h), far_of h.2.2.1 hl.2.2.1 hg (fun _ h => .inl h), far_of h.2.2.2.1 hl.2.2.2.1 hg (fun _ h => .inl h), far_of h.2.2.2.2 hl.2.2.2.2 hg (fun _ h => .inl h)⟩
theorem TRO.lts {bc bt bvis brows bput R C : Nat} {q1 q2 q3 : Value} {grw orw lrw : Nat} {rows : List Nat} {W : World} (h : TRO bc bt bvis brows bput R C q1 q2 q3 grw orw lrw rows W) (hr : 1 ≤ rows.length) : bt < W.heap.size ∧ bvis < W.heap.size ∧ brows < W.heap.size ∧ grw < W.heap.size ∧ bput < W.heap.size :=
  ⟨lt_of_cell h.t0, lt_of_cell h.vis, lt_of_cell h.rw, lt_of_cell (h.rr 0 (by omega)), lt_of_cell h.pt⟩
theorem Kp.more {bs bs' : List Nat} {A B : World} (h : Kp bs A B) (hs : ∀ b, b ∈ bs → b ∈ bs') : Kp bs' A B := ⟨h.os, h.tape, h.output, h.size, fun b hb hn => h.block b hb fun hm => hn (hs b hm)⟩
/-- the tables' state, as a state that is kept in the blocks us -/
def VU {τ : Type} (U : τ → World → Prop) (us : List Nat) : τ → List Nat → World → Prop := fun y gs W => U y W ∧ gs = us
/-- impl.eachTable's inner function at so many rows to come -/
def PutOK {τ : Type} (U : τ → World → Prop) (nxT : τ → List Nat → τ) (us : List Nat) (B0 bc bt bvis brows bput R C : Nat) (q1 q2 q3 : Value) (grw orw lrw : Nat) (rows rs : List Nat) (OKT : List Nat → Prop) : Prop :=
  ∀ (lim cnt : List Nat) (y : τ) (gc cc gl ol lc : Nat) (W : World), lim.length = C → (∀ i, i < C → lim[i]! ≤ 100000) → cnt.length + rs.length * C = R * C → (∀ t, t ∈ tabs rs lim → OKT (cnt ++ t)) → B0 ≤ W.heap.size → ES (VU U us) B0 bc y us gc cc cnt W → TRO bc bt bvis brows bput R C q1 q2 q3 grw orw lrw rows W →
    NB bt bvis brows grw bput (bc :: gc :: us) → gl ∉ bc :: gc :: us → (∀ i, i < C → W.cell? ⟨gl, ol + i, none⟩ = some (.int .i64 (lim[i]! : Nat))) →
    Calls Try.prog 42 #[.slice (some ⟨gl, ol, none⟩) C lc, .pointer (some ⟨bc, 0, none⟩), .pointer (some ⟨bt, 0, none⟩), .pointer (some ⟨bvis, 0, none⟩), .pointer (some ⟨brows, 0, none⟩), .pointer (some ⟨bput, 0, none⟩)] W (fun e w' => e = .returned (.tuple #[]) ∧ ∃ gc' cc', ES (VU U us) B0 bc (goRows nxT cnt (tabs rs lim) y) us gc' cc' cnt w' ∧ Kp (bc :: gc :: us) W w' ∧ (gc' = gc ∨ W.heap.size ≤ gc'))
/-- what eachRow's visitor keeps at one level -/
def VL {τ : Type} (U : τ → World → Prop) (us : List Nat) (B0 bc bt bvis brows bput R C : Nat) (q1 q2 q3 : Value) (grw orw lrw : Nat) (rows : List Nat) (bLim gl ol lc : Nat) (lim cnt : List Nat) : τ → List Nat → World → Prop := fun y gs W =>
  ∃ gc cc, gs = bc :: gc :: us ∧ ES (VU U us) B0 bc y us gc cc cnt W ∧ TRO bc bt bvis brows bput R C q1 q2 q3 grw orw lrw rows W ∧ NB bt bvis brows grw bput (bc :: gc :: us) ∧ W.cell? ⟨bLim, 0, none⟩ = some (.slice (some ⟨gl, ol, none⟩) C lc) ∧ (∀ i, i < C → W.cell? ⟨gl, ol + i, none⟩ = some (.int .i64 (lim[i]! : Nat))) ∧ bLim ∉ bc :: gc :: us ∧ gl ∉ bc :: gc :: us
theorem VL.frame {τ : Type} {U : τ → World → Prop} {us : List Nat} {B0 bc bt bvis brows bput R C : Nat} {q1 q2 q3 : Value} {grw orw lrw : Nat} {rows : List Nat} {bLim gl ol lc : Nat} {lim cnt : List Nat} {Bk : Nat} (hU : VF (VU U us) B0) (h0 : B0 ≤ Bk) (hr : 1 ≤ rows.length)
    (hb : bt < Bk ∧ bvis < Bk ∧ brows < Bk ∧ grw < Bk ∧ bput < Bk ∧ bLim < Bk ∧ gl < Bk) : VF (VL U us B0 bc bt bvis brows bput R C q1 q2 q3 grw orw lrw rows bLim gl ol lc lim cnt) Bk := by
  rintro y gs W W' ⟨gc, cc, rfl, hE, hT, hN, hL, hl, hn1, hn2⟩ hz hk
  have hbc := lt_of_cell hE.bc
  have hgc := own_ltg hE.o
  refine ⟨gc, cc, rfl, ⟨hU _ _ _ _ hE.v hz (fun b hbl hor => hk b hbl ?_), (World.cell?_of_block (hk bc hbc (.inl (by simp)))).trans hE.bc, (World.frozen?_of_block (hk bc hbc (.inl (by simp)))).trans hE.f, own_block hE.o (hk gc hgc (.inl (by simp))), fun b hm => Nat.lt_of_lt_of_le (hE.lt b hm) hz, hE.d1, hE.d2, hE.d3, hE.l1, hE.l2⟩, hT.same hr (fun b hbb hbl => hk b hbl (.inr ?_)), hN, (World.cell?_of_block (hk bLim (lt_of_cell hL) (.inr (by omega)))).trans hL, fun i hi => (World.cell?_of_block (hk gl (lt_of_cell (hl i hi)) (.inr (by omega)))).trans (hl i hi), hn1, hn2⟩
  · rcases hor with h1 | h1
    · exact .inl (by simp [h1])
    · exact .inr (by omega)
  · rcases hbb with rfl | rfl | rfl | rfl | rfl <;> omega
set_option maxRecDepth 100000 in
set_option maxHeartbeats 3200000 in
theorem visit_any {τ : Type} (U : τ → World → Prop) (nxT : τ → List Nat → τ) (us : List Nat) (B0 bc bt bvis brows bput R C : Nat) (q1 q2 q3 : Value) (grw orw lrw : Nat) (rows rs : List Nat) (bLim gl ol lc : Nat) (lim cnt : List Nat) (r Bk : Nat) (hU : VF (VU U us) B0) (OKT : List Nat → Prop) (hput : PutOK U nxT us B0 bc bt bvis brows bput R C q1 q2 q3 grw orw lrw rows rs OKT) (hok : ∀ row, row ∈ rowsOf lim r → ∀ t, t ∈ tabs rs (subL lim row) → OKT ((cnt ++ row) ++ t))
    (hC : 1 ≤ C ∧ C ≤ 4) (hcl : lim.length = C) (hlb : ∀ i, i < C → lim[i]! ≤ 100000) (hcn : cnt.length + (rs.length + 1) * C = R * C) (hRC : R * C ≤ 16) (hrw : 1 ≤ rows.length) (h0 : B0 ≤ Bk) :
    VC (VL U us B0 bc bt bvis brows bput R C q1 q2 q3 grw orw lrw rows bLim gl ol lc lim cnt) (fun y row => goRows nxT (cnt ++ row) (tabs rs (subL lim row)) y) Bk (.pointer (some ⟨bLim, 0, none⟩)) (.pointer (some ⟨bc, 0, none⟩)) (.pointer (some ⟨bput, 0, none⟩)) lim r := by
  rintro y gs row g c W ⟨gc, cc, rfl, hE, hT, hN, hL, hl, hn1, hn2⟩ hgs hg hgB hrow hmem
  obtain ⟨m1, m2, m3⟩ := mem_rowsOf lim r row hmem
  obtain ⟨i0, hi0, hz0, hz1, hz2⟩ := info_parts info_i64
  have hrl : row.length = C := by omega
  have hBW : B0 ≤ W.heap.size := by
    have := hE.l1
    have := lt_of_cell hE.bc
    have h9 : bc < W.heap.size := this
    omega
  have hglt := lt_of_cell (hl 0 (by omega))
  have hcc : (rs.length + 1) * C = rs.length * C + C := by rw [Nat.add_mul, Nat.one_mul]
  have hc16 : cnt.length + C ≤ 16 := by omega
  have HCL := Lib.hid fun W h1 h2 => cloneN_any gl ol lim lc W (by omega) (by omega) h1 h2
  rw [hcl] at HCL
  have HCL9 := Lib.hid (HCL.out W hglt hl)
  have HLC := Lib.hid hl
  have HE := Lib.hid hE
  have HT := Lib.hid hT
  have HN := Lib.hid hN
  have HROW := Lib.hid hrow
  have HU := Lib.hid hU
  have HLM := Lib.hid fun (i : Nat) (hi : i < C) => And.intro (hlb i hi) (m2 i)
  have HP := Lib.hid hput
  have HOK := Lib.hid (hok row hmem)
  have HNL := Lib.hid (And.intro hn1 hn2)
  have HG := Lib.hid (And.intro hg (And.intro hgB (own_ltg hrow)))
  have HCN := Lib.hid (And.intro hcn hcc)
  have HSL : Hid ((subL lim row).length = C) := Lib.hid (by rw [subL_len, hcl])
  have HSA : Hid (∀ i : Nat, i < C → (subL lim row)[i]! ≤ 100000) := Lib.hid fun i hi => by
    rw [subL_at lim row (by omega)]
    have := hlb i hi
    omega
  have HST : Hid (∀ k : Nat, k < C → (subTo lim row k).set k (lim[k]! - row[k]!) = subTo lim row (k + 1)) := Lib.hid fun k hk => subTo_set lim row (by omega)
  have HS0 : Hid (subTo lim row 0 = lim) := Lib.hid (subTo_zero lim row)
  have HSE : Hid (subTo lim row C = subL lim row) := Lib.hid (by rw [← hcl]; exact subTo_end lim row)
  have HSAT : Hid (∀ (W' : World) (gn cn k : Nat), k < C → W'.ownsRow 0 2 1 (.slice (some ⟨gn, 0, none⟩) C cn) C (nlv (subTo lim row k)) → W'.cell? ⟨gn, k, none⟩ = some (.int .i64 (lim[k]! : Nat))) := Lib.hid fun W' gn cn k hk h => by
    have := own_cellN h (i := k) (by rw [subTo_len]; omega)
    rw [subTo_at lim row (by omega)] at this
    exact this
  have HSL9 : Hid (∀ (W' : World) (gn cn : Nat), W'.ownsRow 0 2 1 (.slice (some ⟨gn, 0, none⟩) C cn) C (nlv (subL lim row)) → ∀ i, i < C → W'.cell? ⟨gn, 0 + i, none⟩ = some (.int .i64 ((subL lim row)[i]! : Nat))) := Lib.hid fun W' gn cn h i hi => by
    have := own_cellN h (i := i) (by rw [subL_len]; omega)
    rw [Nat.zero_add, getElem!_pos _ i (by rw [subL_len]; omega)]
    exact this
  have HNW : Hid (∀ (j : Nat) (u : Value), (nlv row)[j]? = some u → W.cell? ((⟨g, 0, none⟩ : Addr).add j) = some u) := Lib.hid fun j u hj => by
    have := hrow.cells (g := g) rfl j u hj
    exact this
  have HRC : Hid (∀ i : Nat, i < C → W.cell? ⟨g, i, none⟩ = some (.int .i64 (row[i]! : Nat))) := Lib.hid fun i hi => by
    have := own_cellN hrow (i := i) (by omega)
    rw [this, getElem!_pos row i (by omega)]
  have HNLEN : Hid ((nlv row).length = C * 1 ∧ ∀ u ∈ nlv row, u.oneCell' = true) := Lib.hid ⟨by rw [nlv_len]; omega, fun u hu => by
    unfold nlv at hu
    rw [List.mem_map] at hu
    obtain ⟨x, -, rfl⟩ := hu
    rfl⟩
  have HAP : Hid (∀ (w9 : World) (g9 cap9 : Nat), w9.ownsRow 0 2 1 (.slice (some ⟨g9, 0, none⟩) (cnt.length + C) cap9) (cnt.length + C) (nlv cnt ++ nlv row) → w9.ownsRow 0 2 1 (.slice (some ⟨g9, 0, none⟩) (cnt.length + row.length) cap9) (cnt.length + row.length) (nlv cnt ++ nlv row)) := Lib.hid fun w9 g9 cap9 h => by rw [hrl]; exact h
  have HLEN : Hid (cnt.length + row.length = cnt.length + C ∧ (cnt ++ row).length = cnt.length + C) := Lib.hid ⟨by omega, by simp; omega⟩
  rw [hrl] at HROW ⊢
  clear hE hT hN hl hrow hU hlb m2 hput hok hmem hn1 hn2 hg hgB hcn hcc hgs m1 m3 HCL
  go_enter Try.func44, Try.ntmps44
  go_upto_region 2 with (go_at_call 43; refine HCL9.out.mono ?_; rintro e w1 ⟨gn, cn, rfl, hgn, hon, hb1⟩; have GN := Lib.hid hgn; have ON := Lib.hid hon; have B1 := Lib.hid hb1; clear hgn hon hb1)
  go_loopw [13] (fun kv wr => ∃ i : Nat, i ≤ C ∧ kv = .int .i64 i ∧ wr.ownsRow 0 2 1 (.slice (some ⟨gn, 0, none⟩) C cn) C (nlv (subTo lim row i)) ∧ Below W.heap.size W wr) (fun kv _ => C - (intOf kv).toNat)
  case atStart => exact ⟨0, Nat.zero_le _, rfl, by rw [HS0.out]; exact ON.out, B1.out⟩
  case round =>
    obtain ⟨i, hi, rfl, hon, hb⟩ := hrel
    rename World => wr
    by_cases hlt : i < C
    · have c1 := (hb.cell (p := ⟨g, i, none⟩) HG.out.2.2).trans (HRC.out i hlt)
      have c2 := HSAT.out wr gn cn i hlt hon
      have f2 := own_frozen hon i
      have O9 := Lib.hid (own_setN hon i (lim[i]! - row[i]!))
      rw [HST.out i hlt] at O9
      have B9 := Lib.hid (hb.setCell (p := ⟨gn, i, none⟩) GN.out (.int .i64 ((lim[i]! - row[i]! : Nat) : Int)))
      have hsub : IntKind.i64.wrap (((lim[i]! : Nat) : Int) - ((row[i]! : Nat) : Int)) = ((lim[i]! - row[i]! : Nat) : Int) := by
        have := HLM.out i hlt
        rw [show ((lim[i]! : Nat) : Int) - ((row[i]! : Nat) : Int) = ((lim[i]! - row[i]! : Nat) : Int) by omega]
        exact IntWalk.i64_in _ (by omega)
      have hiz : (i : Int) < (C : Int) := by omega
      clear hon hb
      generalize lim[i]! - row[i]! = df at *
      generalize lim[i]! = li at *
      generalize row[i]! = ri at *
      go_wp2_with fail
      go_roundw
      case rel => exact ⟨i + 1, by omega, by go_num, O9.out, B9.out⟩
      case measure => simp [intOf]; omega
    · obtain rfl : i = C := by omega
      rw [HSE.out] at hon
      have HU' := HU.out
      have hE1 := HE.out.keep HU.out hb
      have E1 := Lib.hid hE1
      have q1c := hE1.bc
      have q1f := hE1.f
      have hne3 := hE1.d3
      have hlt1 : bc < wr.heap.size := lt_of_cell hE1.bc
      have HOW := Lib.hid hE1.o
      have HON := Lib.hid hon
      have HB := Lib.hid hb
      have NEWS : Hid (∀ (j : Nat) (u : Value), (nlv row)[j]? = some u → wr.cell? ((⟨g, 0, none⟩ : Addr).add j) = some u) := Lib.hid fun j u hj => keepC hb (HNW.out j u hj)
      have hbz := hb.size
      clear hon hb hE1 HRC HSAT HST
      go_upto_region 8 with (refine wpList_append_lies _ rfl _ _ _ rfl 0 2 i0 _ 1 8 Try.underlying24 hi0 hz0 hz1 hz2 rfl (by omega) (.slice (some ⟨gc, 0, none⟩) cnt.length cc) cnt.length (nlv cnt) (by rfl) HOW.out ⟨g, 0, none⟩ i c (nlv row) (by rfl) HNLEN.out.1 NEWS.out HNLEN.out.2 (by omega) (by unfold maxLen; omega) (by omega) (Nat.zero_le _) wr.heap.size rfl ?_; intro g9 cap9 w9 hown9 hgrow hat hlt9; have hk9 : Kp [gc] wr w9 := (Kp.refl [gc] wr).grown hgrow (fun j e => by cases e; exact .inl (by simp)); have hc9 := hk9.cell q1c (by simp; exact hne3); have hf9 := (hk9.frozen (p := ⟨bc, 0, none⟩) hlt1 (by simp; exact hne3)).trans q1f; have P9 := Lib.hid (E1.out.pushL HU.out (by omega) (HAP.out _ _ _ hown9) hgrow (by rcases hat with e | e; exact .inl (Option.some.inj e).symm; exact .inr e)); have A9 := Lib.hid (show g9 = gc ∨ wr.heap.size ≤ g9 by rcases hat with e | e; exact .inl (Option.some.inj e).symm; exact .inr (by omega)); clear hown9 hgrow hat hk9)
      rw [HLEN.out.1] at P9
      have KWX : Hid (Kp (bc :: gc :: us) W (w9.setCell ⟨bc, 0, none⟩ (.slice (some ⟨g9, 0, none⟩) (cnt.length + i) cap9))) := Lib.hid ((Kp.of_below HB.out).trans P9.out.2 fun b hb => by
        simp only [List.mem_cons, List.not_mem_nil, or_false] at hb
        rcases hb with rfl | rfl
        · exact .inl (by simp)
        · exact .inl (by simp))
      have HLTS := Lib.hid (HT.out.lts hrw)
      have TX := Lib.hid (HT.out.keep hrw KWX.out HN.out)
      have A8 : Hid (g9 = gc ∨ W.heap.size ≤ g9) := Lib.hid (by have := A9.out; omega)
      have NX := Lib.hid (HN.out.more HLTS.out A8.out)
      have hgnl := own_ltg HON.out
      have hbcl : bc < W.heap.size := lt_of_cell HE.out.bc
      have hgcl := own_ltg HE.out.o
      have hgnW := GN.out
      have hgn1 : gn ∉ [bc, gc] := by simp; omega
      have OX := Lib.hid (own_block HON.out (P9.out.2.block gn hgnl hgn1))
      have hgn2 : gn ∉ bc :: g9 :: us := by
        intro hm
        simp only [List.mem_cons] at hm
        rcases hm with h | h | h
        · omega
        · have := A9.out
          omega
        · have := HE.out.lt gn h
          omega
      have hcn' : (cnt ++ row).length + rs.length * i = R * i := by
        have h1 := HCN.out
        rw [HLEN.out.2]
        omega
      have CALL := Lib.hid (HP.out (subL lim row) (cnt ++ row) y g9 cap9 gn 0 cn _ HSL.out HSA.out hcn' HOK.out (by have := P9.out.2.size; omega) P9.out.1 TX.out NX.out hgn2 (HSL9.out _ gn cn OX.out))
      have hpx := TX.out.pt
      have hzx := P9.out.2.size
      clear hc9 hf9 HP hgn2 hcn'
      generalize World.setCell w9 _ _ = wx at *
      go_upto_region 9 with (go_at_call 42; refine CALL.out.mono ?_; rintro e w2 ⟨rfl, gc2, cc2, hE2, hK2, hG2⟩; have E2 := Lib.hid hE2; have K2 := Lib.hid hK2; have G2 := Lib.hid hG2; clear hE2 hK2 hG2)
      have E3 := Lib.hid (E2.out.popL HU.out)
      have r1 := E2.out.bc
      rw [HLEN.out.2] at r1
      have rf := E2.out.f
      have hcap := own_cap E2.out.o
      rw [HLEN.out.2] at hcap
      have hcapz : (cnt.length : Int) ≤ (cc2 : Int) := by omega
      have A7 : Hid (gc2 = gc ∨ W.heap.size ≤ gc2) := Lib.hid (by
        have h1 := G2.out
        have h2 := A8.out
        omega)
      have KF : Hid (Kp (bc :: gc :: us) W (w2.setCell ⟨bc, 0, none⟩ (.slice (some ⟨gc2, 0, none⟩) cnt.length cc2))) := Lib.hid ((KWX.out.trans K2.out (fun b hb => by
        simp only [List.mem_cons] at hb
        rcases hb with rfl | rfl | hb
        · exact .inl (by simp)
        · rcases A8.out with h | h
          · exact .inl (by simp [h])
          · exact .inr h
        · exact .inl (by simp [hb]))).trans E3.out.2 (fun b hb => by
        simp only [List.mem_cons, List.not_mem_nil, or_false] at hb
        exact .inl (by simp [hb])))
      have EF := E3.out.1
      go_wp2_with fail
      go_end0
      refine ⟨rfl, bc :: gc2 :: us, ⟨gc2, cc2, rfl, EF, HT.out.keep hrw KF.out HN.out, HN.out.more HLTS.out A7.out, KF.out.cell hL HNL.out.1, fun j hj => KF.out.cell (HLC.out j hj) HNL.out.2, far_of HNL.out.1 (lt_of_cell hL) A7.out (fun _ h => .inl h), far_of HNL.out.2 hglt A7.out (fun _ h => .inl h)⟩, KF.out, fun b hb => ?_⟩
      simp only [List.mem_cons] at hb
      have hz9 := KF.out.size
      rcases hb with rfl | rfl | hb
      · exact ⟨.inl (by simp), lt_of_cell EF.bc⟩
      · refine ⟨?_, own_ltg EF.o⟩
        rcases A7.out with h | h
        · exact .inl (by simp [h])
        · exact .inr h
      · exact ⟨.inl (by simp [hb]), EF.lt b hb⟩
end Go.Proofs.Ytbpigeipjeegiaa

