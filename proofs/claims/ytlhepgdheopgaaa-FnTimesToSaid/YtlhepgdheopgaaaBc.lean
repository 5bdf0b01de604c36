/-
  The weights that the laws draw (spec.B10Picks).
  The chains that the laws draw (spec.B10Chain).
-/
import Derived.Test.YtlhepgdheopgaaaBa
import Derived.Test.YtlhepgdheopgaaaSr
import Derived.Test.YtlhepgdheopgaaaBy
import Derived.Deep.AppendLies
import Derived.Deep.RegionLaw
import Derived.Deep.DeepCutAuto
namespace Go.Proofs.Ytlhepgdheopgaaa
open Go Go.RowKit Ieee

/-- a row of the call's own that grows while a source is asked -/
def PK (w : World) (g base : Nat) (S : Option Addr) (sn sc m k : Nat) (vs : List Value) (v : Value) (wr : World) : Prop :=
  Mv base g w wr ∧ base ≤ wr.heap.size ∧ g < base ∧ Sc wr g S sn sc m ∧ ∃ A c, v = .slice A k c ∧ wr.ownsRow base 31 1 (.slice A k c) k vs
theorem PK.step {w wr w2 w3 : World} {g base sn sc m m' k b3 cap c : Nat} {S A : Option Addr} {vs : List Value} {x : Value} {o : Obj}
    (h1 : Mv base g w wr) (h2 : base ≤ wr.heap.size) (h3 : g < base) (hs : ScTo g S sn sc m' wr w2)
    (hown : wr.ownsRow base 31 1 (.slice A k c) k vs) (hgrow : (w2.alloc o).grownBy w3 (Value.slice A k c).ownBlock)
    (hown3 : w3.ownsRow base 31 1 (.slice (some ⟨b3, 0, none⟩) (k + 1) cap) (k + 1) (vs ++ [x])) (hm : m' ≤ m) :
    PK w g base S sn sc m (k + 1) (vs ++ [x]) (.slice (some ⟨b3, 0, none⟩) (k + 1) cap) w3 := by
  have hs2 := hs.1.size
  have e1 : Mv base g w (w2.alloc o) := ((h1.next h2 (Mv.of_grown hs.1)).al (by omega) o)
  refine ⟨e1.grown hgrow (by simp; omega) (fun j hj => .inl (hown.lt _ hj).1), ?_, h3, hs.2.app hgrow (fun j hj => by have := (hown.lt _ hj).1; omega) hm, _, _, rfl, hown3⟩
  have := hgrow.size
  simp at this
  omega
set_option maxRecDepth 100000 in
set_option maxHeartbeats 3200000 in
theorem B10Picks_any (S : Option Addr) (sn sc n : Nat) (w : World) (hsn : sn ≤ 1048576) (hn : n ≤ 12) (h : ∀ a, a < sn → ∃ b off v, S = some ⟨b, off, none⟩ ∧ b < w.heap.size ∧ (v : Nat) ≤ 255 ∧ w.cell? ⟨b, off + a, none⟩ = some (.int .u8 (v : Nat))) :
    Calls Try.prog 8 #[.slice S sn sc, .int .i64 n] w (fun e w' => ∃ A c ws, e = .returned (.slice A n c) ∧ Rw 4 4 n ws ∧ w'.ownsRow w.heap.size 31 1 (.slice A n c) n (fl ws) ∧ Below w.heap.size w w') := by
  have HF := Lib.hid (l00From_any S sn sc w h)
  have HP := Lib.hid fun m N w hm hN h => pick_any w.heap.size S sn sc m N w hsn hm hN h
  have HP := Lib.hid fun g m w hm h => pick_any g S sn sc m 16 w hsn hm (by omega) h
  have HQ := Lib.hid qtr_all
  obtain ⟨i0, hi0, hz0, hz1, hz2⟩ := info_parts info_f32
  unfold PickOut at HP
  clear h
  go_enter Try.func8, Try.ntmps8
  go_wp2_with fail
  refine HF.out.mono ?_
  rintro e w1 ⟨rfl, hb1, hz1', hs1⟩
  go_wp2_with fail
  generalize hW2 : World.alloc w1 _ = W2
  have START : Hid (PK W2 w.heap.size (w.heap.size + 1) S sn sc 0 0 (fl ([].map qtrF)) (.slice (some ⟨w.heap.size + 1, 0, none⟩) 0 0) W2) := by
    rw [← hW2]
    have := Grow.empty w1 31
    obtain ⟨g1, A, c, g2, g3⟩ := this
    refine ⟨Mv.refl _ _ _, by simp; omega, by omega, hs1.al _, _, _, rfl, ?_⟩
    rw [hz1'] at g3 g2
    injection g2 with g2 g4 g5
    subst g2 g5
    exact g3
  have B2 : Hid (Below w.heap.size w W2) := by rw [← hW2]; exact below_al hb1 _
  clear hW2 hb1 hs1 HF
  go_loopw [1, 6] (fun i v wr => ∃ vs : List Nat, vs.length ≤ n ∧ i = .int .i64 ((n - vs.length : Nat) : Int) ∧ (∀ v ∈ vs, v < 16) ∧ PK W2 w.heap.size (w.heap.size + 1) S sn sc (2 * vs.length) vs.length (fl (vs.map qtrF)) v wr) (fun i _ _ => (intOf i).toNat)
  case atStart => exact ⟨[], Nat.zero_le _, by simp, by simp, START.out⟩
  case round =>
    obtain ⟨vs, hk, rfl, hv, h1, h2, h3, hsc, A, c, rfl, hown⟩ := hrel
    rename World => wr
    have HV := Lib.hid hv
    have H1 := Lib.hid h1
    have HO := Lib.hid hown
    clear hv h1 hown
    by_cases hlt : vs.length < n
    · have hI : (0 : Int) < ((n - vs.length : Nat) : Int) := by omega
      have HPq := Lib.hid (HP.out w.heap.size _ wr (by omega) hsc)
      clear hsc
      have HC : Hid (∀ w2 : World, wr.grownBy w2 (some w.heap.size) → w2.ownsRow (w.heap.size + 1) 31 1 (.slice A vs.length c) vs.length (fl (vs.map qtrF)) ∧ w.heap.size + 1 ≤ w2.heap.size) := Lib.hid fun w2 hg => ⟨(Mv.of_grown hg).own HO.out (by omega), by have := hg.size; omega⟩
      go_wp2_with fail
      refine HPq.out.mono ?_
      rintro e w2 ⟨v, hv, _, rfl, hs⟩
      obtain ⟨q1, -, -, -⟩ := HQ.out v hv
      have e1 := fun w => run_float_arith (P := Try.prog) w .quo 31 .f32 _ _ _ q1
      obtain ⟨o2, z2⟩ := HC.out w2 hs.1
      have HS := Lib.hid hs
      have HVV := Lib.hid hv
      clear hs q1
      go_wp2_with (refine wpList_append_lies _ rfl _ _ _ rfl (w.heap.size + 1) 31 i0 _ 1 4 Try.underlying24 hi0 hz0 hz1 hz2 rfl (by omega) (.slice A vs.length c) vs.length (fl (vs.map qtrF)) (by rfl) (o2.alloc _) ⟨w2.heap.size, 0, none⟩ 1 1 [.float .f32 (qtrF v)] (by rfl) (by rfl) (World.news_of_block (cs := #[.float .f32 (qtrF v)]) (t := 31) (fr := (0, 0)) (heap_alloc_new w2 _)) (by simp [Value.oneCell']) (by omega) (by unfold maxLen; omega) (by omega) (by simp; omega) (w2.heap.size + 1) (by simp) ?_; intro g cap w3 hown3 hgrow hat hlt3; have HX := Lib.hid (PK.step (m := 2 * (vs ++ [v]).length) H1.out h2 h3 HS.out HO.out hgrow hown3 (by simp; omega)); clear hown3 hgrow hat hlt3)
      go_roundw
      case rel => exact ⟨vs ++ [v], by simp; omega, by first | (go_num; done) | (congr 1; simp; omega), fun x hx => by rcases List.mem_append.1 hx with hx | hx; exact HV.out x hx; rw [List.mem_singleton] at hx; rw [hx]; exact HVV.out, by simpa [fl] using HX.out⟩
      case measure => simp [intOf]; omega
    · have hke : vs.length = n := by omega
      subst hke
      have hI : ((vs.length - vs.length : Nat) : Int) = 0 := by omega
      rw [hI]
      go_wp2_with fail
      go_ret
      exact ⟨_, _, _, rfl, qtr_row HV.out, own_base HO.out (by omega), B2.out.trans ((H1.out.mono (B' := w.heap.size) (by omega)).below (Nat.le_refl _))⟩
end Go.Proofs.Ytlhepgdheopgaaa

namespace Go.Proofs.Ytlhepgdheopgaaa
open Go Go.RowKit Ieee

theorem grown_un {a w : World} {row : Option Nat} (h : a.drew.grownBy w row) : a.grownBy w row := ⟨h.os, h.tape, h.output, h.size, h.block⟩
theorem fs_congr {X Y : Nat → Nat} : ∀ k, (∀ j, j < k → X j = Y j) → fsF X k = fsF Y k := by
  intro k
  induction k with
  | zero => intro _; rfl
  | succ k ih => intro h; show fadd (fsF X k) (X k) = fadd (fsF Y k) (Y k); rw [ih fun j hj => h j (by omega), h k (by omega)]
theorem fs_ext {X Y : Nat → Nat} {n : Nat} (h : ∀ j, j < n → X j = Y j) : fsF X n = fsF Y n := fs_congr n h
/-- a row of counts -/
def cntL (r : Nat → Nat) (k : Nat) : List Nat := (List.range k).map fun j => cntF (r j)
theorem cntL_succ (r : Nat → Nat) (k v : Nat) : cntL (fun j => if j = k then v else r j) (k + 1) = cntL r k ++ [cntF v] := by
  unfold cntL
  rw [List.range_succ, List.map_append]
  congr 1
  · refine List.map_congr_left fun j hj => ?_
    have := List.mem_range.1 hj
    show cntF (if j = k then v else r j) = cntF (r j)
    rw [if_neg (by omega)]
  · simp
theorem fs_succ (r : Nat → Nat) (k v : Nat) : fsF (fun j => cntF (if j = k then v else r j)) (k + 1) = fadd (fsF (fun j => cntF (r j)) k) (cntF v) := by
  show fadd (fsF _ k) (cntF (if k = k then v else r k)) = _
  rw [if_pos rfl, fs_congr k fun j hj => by rw [if_neg (by omega)]]
theorem cntL_len (r : Nat → Nat) (k : Nat) : (cntL r k).length = k := by simp [cntL]
theorem tabTo_row {n i : Nat} (q : Nat → Nat → Nat) (r : Nat → Nat) : tabTo n (srcF (fun a b => if a = i then r b else q a b) n) (i * n) = tabTo n (srcF q n) (i * n) := by
  unfold tabTo
  refine List.map_congr_left fun p hp => ?_
  have hp := List.mem_range.1 hp
  have hn : 0 < n := by
    rcases Nat.eq_zero_or_pos n with h | h
    · subst h; omega
    · exact h
  have hi : p / n < i := (Nat.div_lt_iff_lt_mul hn).2 hp
  show fdiv (cntF (if p / n = i then r (p % n) else q (p / n) (p % n))) (fsF (fun j => cntF (if p / n = i then r j else q (p / n) j)) n) = fdiv (cntF (q (p / n) (p % n))) (fsF (fun j => cntF (q (p / n) j)) n)
  rw [if_neg (by omega)]
  congr 1
  exact fs_congr n fun j _ => by rw [if_neg (by omega)]
theorem tabTo_step {n i j : Nat} (f : Nat → Nat → Nat) (hj : j < n) : tabTo n f (i * n + (j + 1)) = tabTo n f (i * n + j) ++ [f i j] := tab_succ n f hj
/-- a chain that is being made lies in block p, its steps behind it; the source in g -/
structure BCat (W1 : World) (p g n : Nat) (S : Option Addr) (sn sc m : Nat) (st : List Nat) (k : Nat) (A : Option Addr) (c : Nat) (wr : World) : Prop where
  mv : Mv p g W1 wr
  gp : g < p
  sz : p + 1 ≤ wr.heap.size
  c0 : wr.cell? ⟨p, 0, none⟩ = some (.int .i64 n)
  c1 : wr.cell? ⟨p, 1, none⟩ = some (.slice A k c)
  fr : ∀ o, wr.frozen? ⟨p, o, none⟩ = false
  own : wr.ownsRow (p + 1) 31 1 (.slice A k c) k (fl st)
  sc : Sc wr g S sn sc m
theorem BCat.go {W1 wr W : World} {p g n sn sc m m' k c base : Nat} {S A : Option Addr} {st : List Nat} (h : BCat W1 p g n S sn sc m st k A c wr) (hm : Mv base g wr W) (hb : base = wr.heap.size) (hs : Sc W g S sn sc m') : BCat W1 p g n S sn sc m' st k A c W := by
  subst hb
  have hp : p < wr.heap.size := h.sz
  have hg : p ≠ g := by have := h.gp; omega
  refine ⟨h.mv.trans (hm.mono (by omega)), h.gp, Nat.le_trans h.sz hm.size, hm.keepC h.c0 hg, hm.keepC h.c1 hg, fun o => (hm.frozen (p := ⟨p, o, none⟩) hp hg).trans (h.fr o), hm.own h.own (by have := h.gp; omega), hs⟩
theorem BCat.app {W1 wr w3 : World} {p g n sn sc m k c b3 cap x : Nat} {S A : Option Addr} {st : List Nat} {o : Obj} (h : BCat W1 p g n S sn sc m st k A c wr)
    (hgrow : (wr.alloc o).grownBy w3 (Value.slice A k c).ownBlock) (hown3 : w3.ownsRow (p + 1) 31 1 (.slice (some ⟨b3, 0, none⟩) (k + 1) cap) (k + 1) (fl st ++ [.float .f32 x])) :
    w3.cell? ⟨p, 1, none⟩ = some (.slice A k c) ∧ (∀ o, w3.frozen? ⟨p, o, none⟩ = false) ∧ BCat W1 p g n S sn sc m (st ++ [x]) (k + 1) (some ⟨b3, 0, none⟩) cap (w3.setCell ⟨p, 1, none⟩ (.slice (some ⟨b3, 0, none⟩) (k + 1) cap)) := by
  have hgp := h.gp
  have hsz := h.sz
  have hb2 : Mv wr.heap.size g wr (wr.alloc o) := (Mv.refl _ _ _).al (Nat.le_refl _) o
  have hb3 : Mv (p + 1) g wr w3 := (hb2.mono hsz).grown hgrow (by simp; omega) (fun j hj => .inl (h.own.lt _ hj).1)
  have hcl : ∀ i, w3.cell? ⟨p, i, none⟩ = wr.cell? ⟨p, i, none⟩ := fun i => hb3.cell (show p < p + 1 by omega) (show p ≠ g by omega)
  have hf : ∀ i, w3.frozen? ⟨p, i, none⟩ = false := fun i => (hb3.frozen (show p < p + 1 by omega) (show p ≠ g by omega)).trans (h.fr i)
  have h1 := (hcl 1).trans h.c1
  have hsc : Sc w3 g S sn sc m := h.sc.app hgrow (fun j hj => by have := (h.own.lt _ hj).1; omega) (Nat.le_refl _)
  refine ⟨h1, hf, (h.mv.trans (hb3.mono (by omega))).set _ _ (.inl (Nat.le_refl _)), hgp, ?_, ?_, ?_, ?_, ?_, ?_⟩
  · have := hb3.size
    simp [World.setCell]
    omega
  · exact ((World.cell?_setCell_other _ _ _ _ (by simp)).trans (hcl 0)).trans h.c0
  · exact World.cell?_setCell_same _ _ _ h1
  · intro o; rw [World.frozen?_setCell]; exact hf o
  · have := ownsRow_setCell_below hown3 (a := ⟨p, 1, none⟩) (show p < p + 1 by omega) (.slice (some ⟨b3, 0, none⟩) (k + 1) cap)
    simpa [fl] using this
  · exact hsc.far (k := p) (grown_set (grown_refl _ _) 1 _) hgp
/-- .. and a row of counts lies in block b -/
def BRw (W1 : World) (p g n : Nat) (S : Option Addr) (sn sc m : Nat) (st : List Nat) (k : Nat) (b off : Nat) (row : Nat → Nat) (wr : World) : Prop :=
  ∃ A c, BCat W1 p g n S sn sc m st k A c wr ∧ (Value.slice A k c).ownBlock ≠ some b ∧ b ≠ p ∧ b < wr.heap.size ∧ ∀ j, j < n → wr.cell? ⟨b, off + j, none⟩ = some (.float .f32 (row j))
theorem BRw.app {W1 wr w3 : World} {p g n sn sc m k c b3 cap x b off : Nat} {S A : Option Addr} {st : List Nat} {row : Nat → Nat} {o : Obj} (h : BCat W1 p g n S sn sc m st k A c wr)
    (ha : (Value.slice A k c).ownBlock ≠ some b) (hp : b ≠ p) (hb : b < wr.heap.size) (hc : ∀ j, j < n → wr.cell? ⟨b, off + j, none⟩ = some (.float .f32 (row j)))
    (hgrow : (wr.alloc o).grownBy w3 (Value.slice A k c).ownBlock) (hown3 : w3.ownsRow (p + 1) 31 1 (.slice (some ⟨b3, 0, none⟩) (k + 1) cap) (k + 1) (fl st ++ [.float .f32 x]))
    (hat : (Value.slice A k c).ownBlock = some b3 ∨ b3 = (wr.alloc o).heap.size) :
    w3.cell? ⟨p, 1, none⟩ = some (.slice A k c) ∧ (∀ o, w3.frozen? ⟨p, o, none⟩ = false) ∧ BRw W1 p g n S sn sc m (st ++ [x]) (k + 1) b off row (w3.setCell ⟨p, 1, none⟩ (.slice (some ⟨b3, 0, none⟩) (k + 1) cap)) := by
  obtain ⟨h1, h2, h3⟩ := h.app hgrow hown3
  have hsz := hgrow.size
  simp at hsz
  refine ⟨h1, h2, _, _, h3, ?_, hp, by simp [World.setCell]; omega, fun j hj => ?_⟩
  · show some b3 ≠ some b
    intro e
    have e : b3 = b := Option.some.inj e
    rcases hat with hat | hat
    · exact ha (by rw [hat, e])
    · simp at hat; omega
  · refine (World.cell?_setCell_other _ _ _ _ (by intro e; injection e with e; exact hp e.symm)).trans ?_
    refine (hgrow.cell_far ⟨b, off + j, none⟩ (by simp; omega) (fun e => ha e.symm)).trans ?_
    exact (keepC (below_al (Below.refl _ _) o) (hc j hj))
set_option maxRecDepth 100000 in
set_option maxHeartbeats 6400000 in
theorem B10Chain_any (S : Option Addr) (sn sc : Nat) (w : World) (hsn : sn ≤ 1048576) (h : ∀ a, a < sn → ∃ b off v, S = some ⟨b, off, none⟩ ∧ b < w.heap.size ∧ (v : Nat) ≤ 255 ∧ w.cell? ⟨b, off + a, none⟩ = some (.int .u8 (v : Nat))) :
    Calls Try.prog 7 #[.slice S sn sc] w (fun e w' => ∃ (n : Nat) (q : Nat → Nat → Nat) (A : Option Addr) (c : Nat), 2 ≤ n ∧ n ≤ 5 ∧ (∀ i k, i < n → k < n → q i k < 5) ∧ e = .returned (.agg #[.int .i64 n, .slice A (n * n : Nat) c]) ∧ w'.ownsRow w.heap.size 31 1 (.slice A (n * n : Nat) c) (n * n) (fl (tab n (srcF q n))) ∧ Below w.heap.size w w') := by
  have hR0 := below_al (Below.refl w.heap.size w) (.cells #[.int .i64 0, .slice none 0 0] 26)
  have HF := Lib.hid (l00From_any S sn sc (w.alloc (.cells #[.int .i64 0, .slice none 0 0] 26)) (fun a ha => by
    obtain ⟨b, off, v, e, hb, hv, hc⟩ := h a ha
    exact ⟨b, off, v, e, by simp; omega, hv, keepC hR0 hc⟩))
  have HP := Lib.hid fun g m N w hm hN h => pick_any g S sn sc m N w hsn hm hN h
  obtain ⟨i0, hi0, hz0, hz1, hz2⟩ := info_parts info_f32
  unfold PickOut at HP
  have HR0 := Lib.hid hR0
  have k0 : (w.alloc (.cells #[.int .i64 0, .slice none 0 0] 26)).cell? ⟨w.heap.size, 0, none⟩ = some (.int .i64 0) := by simp [go_sem]
  have k1 : (w.alloc (.cells #[.int .i64 0, .slice none 0 0] 26)).cell? ⟨w.heap.size, 1, none⟩ = some (.slice none 0 0) := by simp [go_sem]
  have kf : ∀ o, (w.alloc (.cells #[.int .i64 0, .slice none 0 0] 26)).frozen? ⟨w.heap.size, o, none⟩ = false := fun o => by simp [go_sem]
  have hz : (w.alloc (.cells #[.int .i64 0, .slice none 0 0] 26)).heap.size = w.heap.size + 1 := by simp
  clear h hR0
  go_enter Try.func7, Try.ntmps7
  go_wp2_with fail
  generalize hWA : World.alloc w _ = WA at *
  rw [hz] at HF
  refine HF.out.mono ?_
  rintro e w1 ⟨rfl, hb1, hz1', hs1⟩
  have hb1 : Below WA.heap.size WA w1 := by rw [hz]; exact hb1
  have K0 := Lib.hid (keepC hb1 k0)
  have K1 := Lib.hid (keepC hb1 k1)
  have KF : Hid (∀ o, w1.frozen? ⟨w.heap.size, o, none⟩ = false) := Lib.hid fun o => (hb1.frozen (p := ⟨w.heap.size, o, none⟩) (by show w.heap.size < _; omega)).trans (kf o)
  have B1 := Lib.hid (below_next HR0.out hb1)
  have S1 := Lib.hid hs1
  clear hb1 hs1 k0 k1 kf HR0 HF hWA
  go_wp2_with fail
  refine (HP.out _ 0 4 _ (by omega) (by omega) S1.out).mono ?_
  rintro e w2 ⟨v, hv, _, rfl, hs⟩
  have hz2' := hs.1.size
  have M2 := Lib.hid (Mv.of_grown hs.1)
  have S2 := Lib.hid hs.2
  clear hs
  go_wp2_with fail
  have hn : ((2 : Int) + (v : Int)) = ((2 + v : Nat) : Int) := by omega
  rw [hn]
  obtain ⟨n, hnv⟩ : ∃ n, n = 2 + v := ⟨_, rfl⟩
  rw [← hnv]
  have hn2 : 2 ≤ n := by omega
  have hn5 : n ≤ 5 := by omega
  clear hnv hn hv
  generalize hW3 : World.alloc w2 _ = W3
  have hz3 : W3.heap.size = w2.heap.size + 1 := by rw [← hW3]; simp
  have START : Hid (BCat W3 w2.heap.size (w.heap.size + 1) n S sn sc 2 [] 0 none 0 W3) := by
    rw [← hW3]
    refine ⟨Mv.refl _ _ _, by omega, by simp, by simp [go_sem], by simp [go_sem], fun o => by simp [go_sem], World.ownsRow_nil _ _ _ _, S2.out.al _⟩
  have B3 : Hid (Mv w2.heap.size (w.heap.size + 1) w2 W3) := by rw [← hW3]; exact (Mv.refl _ _ _).al (Nat.le_refl _) _
  clear hW3
  have hp2 : w.heap.size + 2 ≤ w2.heap.size := by omega
  generalize hpp : w2.heap.size = p at *
  go_loopw [5] (fun i wr => ∃ (i' : Nat) (q : Nat → Nat → Nat) (A : Option Addr) (c : Nat), i' ≤ n ∧ i = .int .i64 i' ∧ (∀ a b, a < i' → b < n → q a b < 5) ∧ BCat W3 p (w.heap.size + 1) n S sn sc (2 + 2 * (i' * n)) (tabTo n (srcF q n) (i' * n)) (i' * n) A c wr) (fun i _ => n - (intOf i).toNat)
  case atStart => exact ⟨0, fun _ _ => 0, none, 0, Nat.zero_le _, rfl, by omega, by simpa [tabTo] using START.out⟩
  case round =>
    obtain ⟨i, q, A, c, hi, rfl, hq, hbc⟩ := hrel
    rename World => wr
    have HQ := Lib.hid hq
    have c0 := hbc.c0
    have c1 := hbc.c1
    have HB := Lib.hid hbc
    clear hq hbc
    by_cases hlt : i < n
    · have hin : i * n ≤ 25 := Nat.mul_le_mul (show i ≤ 5 by omega) hn5
      go_wp2_with fail
      generalize hWB : World.alloc wr _ = WB
      have hzB : WB.heap.size = wr.heap.size + 1 := by rw [← hWB]; simp
      have SB : Hid (PK wr (w.heap.size + 1) wr.heap.size S sn sc (2 + 2 * (i * n) + 2 * 0) 0 (fl (cntL (fun _ => 0) 0)) (.slice (some ⟨wr.heap.size, 0, none⟩) 0 0) WB) := by
        rw [← hWB]
        have g := Grow.empty wr 31
        obtain ⟨g1, A', c', g2, g3⟩ := g
        injection g2 with g2 g4 g5
        subst g2 g5
        exact ⟨(Mv.refl _ _ _).al (Nat.le_refl _) _, by simp, by have := HB.out.sz; have := HB.out.gp; omega, HB.out.sc.al _, _, _, rfl, g3⟩
      clear hWB
      go_loopw [6, 7, 8] (fun v s t W => ∃ (k : Nat) (r : Nat → Nat), k ≤ n ∧ t = .int .i64 k ∧ (∀ j, j < k → r j < 5) ∧ s = .float .f32 (fsF (fun j => cntF (r j)) k) ∧ PK wr (w.heap.size + 1) wr.heap.size S sn sc (2 + 2 * (i * n) + 2 * k) k (fl (cntL r k)) v W) (fun _ _ t _ => n - (intOf t).toNat)
      case atStart => exact ⟨0, fun _ => 0, Nat.zero_le _, rfl, by omega, rfl, SB.out⟩
      case round =>
        obtain ⟨k, r, hk, rfl, hr, rfl, h1, h2, h3, hsc, A', c', rfl, hown⟩ := hrel
        rename World => W
        have HRR := Lib.hid hr
        have H1 := Lib.hid h1
        have HO := Lib.hid hown
        have d0 := h1.keepC c0 (show p ≠ w.heap.size + 1 by omega)
        have d1 := h1.keepC c1 (show p ≠ w.heap.size + 1 by omega)
        clear hr h1 hown
        by_cases hkt : k < n
        · have HPq := Lib.hid (HP.out (w.heap.size + 1) _ 5 W (by omega) (by omega) hsc)
          have HC : Hid (∀ w2 : World, W.grownBy w2 (some (w.heap.size + 1)) → w2.ownsRow wr.heap.size 31 1 (.slice A' k c') k (fl (cntL r k)) ∧ wr.heap.size ≤ w2.heap.size) := Lib.hid fun w2 hg => ⟨(Mv.of_grown hg).own HO.out (by omega), by have := hg.size; omega⟩
          clear hsc
          go_wp2_with fail
          refine HPq.out.mono ?_
          rintro e w4 ⟨x, hx, _, rfl, hs⟩
          have hfn := (fs_near (X := fun j => cntF (r j)) (n := k) (by omega) (fun j hj => cnt_nn (HRR.out j hj)) k (Nat.le_refl _)).1
          have ha := (fadd_run (fin_not_nan hfn.1) (cnt_nn hx).1.1).1
          have e1 := fun w => run_float_arith (P := Try.prog) w .add 31 .f32 _ _ _ ha
          have hce : floatOfInt .f32 (1 + (x : Int)) = cntF x := rfl
          obtain ⟨o2, z2⟩ := HC.out w4 hs.1
          have HS := Lib.hid hs
          have HX5 := Lib.hid hx
          have HFS := Lib.hid (fs_succ r k x)
          have HCL := Lib.hid (cntL_succ r k x)
          clear hs hfn ha hx
          go_wp2_with ((refine wpList_append_lies _ rfl _ _ _ rfl wr.heap.size 31 i0 _ 1 4 Try.underlying24 hi0 hz0 hz1 hz2 rfl (by omega) (.slice A' k c') k (fl (cntL r k)) (by rfl) (o2.alloc _) ⟨w4.heap.size, 0, none⟩ 1 1 [.float .f32 (cntF x)] (by rfl) (by rfl) (World.news_of_block (cs := #[.float .f32 (cntF x)]) (t := 31) (fr := (0, 0)) (heap_alloc_new w4 _)) (by simp [Value.oneCell']) (by omega) (by unfold maxLen; omega) (by omega) (by simp; omega) (w4.heap.size + 1) (by simp) ?_; intro g cap w3 hown3 hgrow hat hlt3; have HX := Lib.hid (PK.step (m := 2 + 2 * (i * n) + 2 * (k + 1)) H1.out h2 h3 HS.out HO.out hgrow hown3 (by omega)); clear hown3 hgrow hat hlt3))
          go_roundw
          case rel => exact ⟨k + 1, fun j => if j = k then x else r j, by omega, by go_num, fun j hj => by show (if j = k then x else r j) < 5; by_cases hjk : j = k; rw [if_pos hjk]; exact HX5.out; rw [if_neg hjk]; exact HRR.out j (by omega), by rw [HFS.out], by rw [HCL.out]; simpa [fl] using HX.out⟩
          case measure => simp [intOf]; omega
        · obtain rfl : k = n := by omega
          have hfn := fs_near (X := fun j => cntF (r j)) (n := k) (by omega) (fun j hj => cnt_nn (HRR.out j hj)) k (Nat.le_refl _)
          have hfp := fs_pos (X := fun j => cntF (r j)) (n := k) (by omega) (by omega) (fun j hj => cnt_nn (HRR.out j hj))
          have HDIV : Hid (∀ j, j < k → floatBits .quo .f32 (cntF (r j)) (fsF (fun j => cntF (r j)) k) = some (fdiv (cntF (r j)) (fsF (fun j => cntF (r j)) k))) := Lib.hid fun j hj => (fdiv_run (cnt_nn (HRR.out j hj)).1.1 hfn.1.1 (by omega)).1
          obtain ⟨b, off, rfl, hb, hcs⟩ := Rd.of_own HO.out (by rw [fl_len, cntL_len]; omega)
          have hbl := HO.out.lt b rfl
          have hst : ∀ j, (Value.slice A (i * k) c).ownBlock = some j → j < wr.heap.size := fun j hj => (HB.out.own.lt j hj).2
          have SR : Hid (BRw W3 p (w.heap.size + 1) k S sn sc (2 + 2 * (i * k) + 2 * k) (tabTo k (srcF (fun a b => if a = i then r b else q a b) k) (i * k + 0)) (i * k + 0) b off (fun j => cntF (r j)) W) := Lib.hid (by
            refine ⟨A, c, ?_, fun e => ?_, ?_, hbl.2, fun j hj => ?_⟩
            · rw [Nat.add_zero (i * k), tabTo_row q r]
              exact HB.out.go H1.out rfl hsc
            · have := hst b e
              omega
            · have := HB.out.sz
              omega
            · rw [hcs j (by rw [fl_len, cntL_len]; exact hj)]
              simp [fl, cntL])
          have HROW : Hid (∀ j, j < k → srcF (fun a b => if a = i then r b else q a b) k i j = fdiv (cntF (r j)) (fsF (fun j => cntF (r j)) k)) := Lib.hid fun j hj => by
            show fdiv (cntF (if i = i then r j else q i j)) (fsF (fun j => cntF (if i = i then r j else q i j)) k) = _
            rw [if_pos rfl]
            congr 1
            exact fs_congr k fun j _ => by rw [if_pos rfl]
          clear hfn hfp hcs hsc HO
          generalize fsF (fun j => cntF (r j)) k = sm at *
          go_wp2_with fail
          go_loopw [43] (fun t W => ∃ j : Nat, j ≤ k ∧ t = .int .i64 j ∧ BRw W3 p (w.heap.size + 1) k S sn sc (2 + 2 * (i * k) + 2 * k) (tabTo k (srcF (fun a b => if a = i then r b else q a b) k) (i * k + j)) (i * k + j) b off (fun j => cntF (r j)) W) (fun t _ => k - (intOf t).toNat)
          case atStart => exact ⟨0, Nat.zero_le _, rfl, SR.out⟩
          case round =>
            obtain ⟨j, hj, rfl, A2, c2, hbc, ha, hbp, hbW, hcs⟩ := hrel
            rename World => Wq
            by_cases hjt : j < k
            · have dv := HDIV.out j hjt
              have e1 := fun w => run_float_arith (P := Try.prog) w .quo 31 .f32 _ _ _ dv
              have xc := hcs j hjt
              have f0 := hbc.c0
              have f1 := hbc.c1
              have HBC := Lib.hid hbc
              have HA := Lib.hid ha
              have HCS := Lib.hid hcs
              have HST := Lib.hid (tabTo_step (n := k) (i := i) (srcF (fun a b => if a = i then r b else q a b) k) hjt)
              have hrw := HROW.out j hjt
              rw [hrw] at HST
              clear hbc ha hcs dv hrw
              generalize hm : i * k + j = mm at *
              have HM := Lib.hid hm
              have hmb : mm ≤ 30 := by omega
              clear hm
              generalize fdiv (cntF (r j)) sm = y at *
              generalize tabTo k (srcF (fun a b => if a = i then r b else q a b) k) mm = st at *
              have hsz := HBC.out.sz
              have cc2 : (Wq.alloc (.cells #[.float .f32 y] 31)).cell? ⟨p, 1, none⟩ = some (.slice A2 mm c2) := keepC (below_al (Below.refl _ _) _) f1
              go_wp2_with fail
              go_region_law (
                (refine step_append_lies _ (by rfl) _ _ _ (by rfl) (p + 1) 31 i0 _ 1 4 Try.underlying24 hi0 hz0 hz1 hz2 rfl (by omega) (.slice A2 mm c2) mm (fl st) (by rfl) (HBC.out.own.alloc _) ⟨Wq.heap.size, 0, none⟩ 1 1 [.float .f32 y] (by rfl) (by rfl) (World.news_of_block (cs := #[.float .f32 y]) (t := 31) (fr := (0, 0)) (heap_alloc_new Wq _)) (by simp [Value.oneCell']) (by omega) (by unfold maxLen; omega) (by omega) (by simp; omega) (Wq.heap.size + 1) (by simp) ?_
                 intro g cap w3 hown3 hgrow hat hlt
                 obtain ⟨c3, f3, hbr3⟩ := BRw.app HBC.out HA.out hbp hbW HCS.out (by first | exact hgrow | exact grown_un hgrow) hown3 (by first | exact hat | simpa using hat)
                 have HX := Lib.hid hbr3
                 clear hbr3))
              all_goals
                go_wp2_with fail
                go_roundw
                case rel => exact ⟨j + 1, by omega, by go_num, by rw [HST.out, ← Nat.add_assoc, HM.out]; exact HX.out⟩
                case measure => simp [intOf]; omega
            · obtain rfl : j = k := by omega
              have HBC := Lib.hid hbc
              clear hbc ha hcs
              go_wp2_with fail
              go_roundw
              case rel => exact ⟨i + 1, fun a b => if a = i then r b else q a b, A2, c2, by omega, by go_num, fun a b ha hb => by show (if a = i then r b else q a b) < 5; by_cases hai : a = i; rw [if_pos hai]; exact HRR.out b hb; rw [if_neg hai]; exact HQ.out a b (by omega) hb, by rw [Nat.add_mul, Nat.one_mul, Nat.mul_add 2, ← Nat.add_assoc]; exact HBC.out⟩
              case measure => simp [intOf]; omega
    · obtain rfl : n = i := by omega
      have HO := Lib.hid HB.out.own
      have hsz := HB.out.sz
      have hb : Below (w.heap.size + 1) w1 wr := Lib.hid (((M2.out.mono (B' := w.heap.size + 1) (by omega)).trans ((B3.out.mono (by omega)).trans (HB.out.mv.mono (by omega)))).below (Nat.le_refl _))
      have g0 : wr.cell? ⟨w.heap.size, 0, none⟩ = some (.int .i64 0) := (hb.cell (show w.heap.size < w.heap.size + 1 by omega)).trans K0.out
      have g1 : wr.cell? ⟨w.heap.size, 1, none⟩ = some (.slice none 0 0) := (hb.cell (show w.heap.size < w.heap.size + 1 by omega)).trans K1.out
      have gf : ∀ o, wr.frozen? ⟨w.heap.size, o, none⟩ = false := fun o => (hb.frozen (p := ⟨w.heap.size, o, none⟩) (show w.heap.size < w.heap.size + 1 by omega)).trans (KF.out o)
      have HBL := Lib.hid (B1.out.trans (hb.mono (by omega)))
      clear hb
      go_wp2_with fail
      refine bodyPost_ret (v := .agg #[.int .i64 n, .slice A (n * n : Nat) c]) (by simp [results, Try.results7, go_sem, g0, g1]) rfl ⟨n, q, A, c, hn2, hn5, HQ.out, rfl, ?_, (HBL.out.setCell (by simp) _).setCell (by simp) _⟩
      exact own_base (ownsRow_setCell_below (ownsRow_setCell_below HO.out (show w.heap.size < p + 1 by omega) _) (show w.heap.size < p + 1 by omega) _) (by omega)
end Go.Proofs.Ytlhepgdheopgaaa
