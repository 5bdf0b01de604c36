/-
  impl.belowAll: numbers below n, one after another, n the same each time.
  slices.Repeat of one number.
  impl.areFinite, spec.l02Finite, l06List.
-/
import Derived.Test.YtfkjnaaplhcheaaMe4
import Derived.Test.YtfkjnaaplhcheaaQr
import Derived.Test.YtfkjnaaplhcheaaMono
import Derived.Deep.RegionLaw
import Derived.BigRegion
import Derived.Laws.CopyOwn
namespace Go.Proofs.Ytfkjnaaplhcheaa
open Go Go.RowKit Ieee SeedFact

def AllOut (k : Int) (n : Nat) (s : Int × Int) (m : Nat) (w : World) (e : Ending) (w' : World) : Prop :=
  ∃ A c, e = .returned (.tuple #[.agg #[.int .i64 k, .int .u64 (dS k n m s).1, .int .u64 (dS k n m s).2], .slice A m c, .bool true]) ∧ w'.ownsRow w.heap.size 2 1 (.slice A m c) m (il (pL k n s m)) ∧ Below w.heap.size w w'
theorem SdAt.grownR {w w' : World} {b : Nat} {r : Option Nat} {k a c : Int} (h : SdAt w b k a c) (hg : w.grownBy w' r) (hne : some b ≠ r) : SdAt w' b k a c := by
  obtain ⟨c0, c1, c2, c3⟩ := h
  have hb := hg.block b (lt_of_cell (a := ⟨b, 0, none⟩) c0) hne
  exact ⟨(World.cell?_of_block (a := ⟨b, 0, none⟩) hb).trans c0, (World.cell?_of_block (a := ⟨b, 1, none⟩) hb).trans c1, (World.cell?_of_block (a := ⟨b, 2, none⟩) hb).trans c2, fun o => (World.frozen?_of_block (a := ⟨b, o, none⟩) hb).trans (c3 o)⟩
theorem Dx.grownR {g : Nat} {r : Option Nat} {k a b : Int} {W W' : World} (h : Dx g k a b W) (hg : W.grownBy W' r) (hne : ∀ j, r = some j → g + 2 ≤ j) : Dx g k a b W' :=
  ⟨h.1.grownR hg (fun e => by have := hne g e.symm; omega), h.2.grownR hg (fun e => by have := hne (g + 1) e.symm; omega)⟩
/-- the row of numbers drawn, behind one more, and the seed stored -/
structure AllSt (g : Nat) (k : Int) (s : Int × Int) (i : Nat) (xs : List Int) (A : Option Addr) (c : Nat) (w W : World) : Prop where
  x : Dx g k s.1 s.2 W
  b : Below g w W
  o : W.ownsRow (g + 2) 2 1 (.slice A i c) i (il xs)
theorem AllSt.step {w W7 W9 : World} {g cap i c' : Nat} {k aT bT a' b' x : Int} {A' : Option Addr} {xs : List Int} (hg : g = w.heap.size) (h : AllSt g k (aT, bT) i xs A' c' w W7) {o : Obj} {g9 : Nat} (hgrow : (W7.drew.alloc o).grownBy W9 (Value.slice A' i c').ownBlock) (hown : W9.ownsRow (g + 2) 2 1 (.slice (some ⟨g9, 0, none⟩) (i + 1) cap) (i + 1) (il xs ++ [.int .i64 x])) :
    AllSt g k (a', b') (i + 1) (xs ++ [x]) (some ⟨g9, 0, none⟩) cap w (((W9.setCell ⟨g, 0, none⟩ (.int .i64 k)).setCell ⟨g, 1, none⟩ (.int .u64 a')).setCell ⟨g, 2, none⟩ (.int .u64 b')) := by
  subst hg
  have h1 : Dx w.heap.size k aT bT W9 := (h.x.keep (below_al (below_dr (Below.refl _ _)) o)).grownR hgrow (fun j hj => (h.o.lt j hj).1)
  have h2 : Below w.heap.size w W9 := (below_al (below_dr h.b) o).grown hgrow (by have := h.b.size; simp; omega) (fun j hj => by have := (h.o.lt j hj).1; omega)
  refine ⟨h1.set k a' b', below_set (below_set (below_set h2 _ _ (Nat.le_refl _)) _ _ (Nat.le_refl _)) _ _ (Nat.le_refl _), ?_⟩
  have h3 := ownsRow_setCell_below (ownsRow_setCell_below (ownsRow_setCell_below hown (a := ⟨w.heap.size, 0, none⟩) (show w.heap.size < w.heap.size + 2 by omega) (.int .i64 k)) (a := ⟨w.heap.size, 1, none⟩) (show w.heap.size < w.heap.size + 2 by omega) (.int .u64 a')) (a := ⟨w.heap.size, 2, none⟩) (show w.heap.size < w.heap.size + 2 by omega) (.int .u64 b')
  simpa [il] using h3
theorem same_at {w : World} {B : Nat} {A : Option Addr} {n m i : Nat} (h : Rd w B A (il (List.replicate m (n : Int)))) (hi : i < m) : ∃ b off, A = some ⟨b, off, none⟩ ∧ b < B ∧ w.cell? ⟨b, off + i, none⟩ = some (.int .i64 (n : Nat)) := by
  obtain ⟨b, off, h1, h2, h3⟩ := h.ilAt (k := i) (by simpa using hi)
  exact ⟨b, off, h1, h2, by simpa using h3⟩
set_option maxRecDepth 100000 in
set_option maxHeartbeats 6400000 in
theorem belowAll_any (k : Int) (s : Int × Int) (n m : Nat) (A : Option Addr) (c : Nat) (w : World) (h : sdOk k s.1 s.2) (h1 : 1 ≤ n) (h2 : n < 11) (hm : m ≤ 1048576) (hA : Rd w w.heap.size A (il (List.replicate m (n : Int)))) :
    Calls Try.prog 69 #[.agg #[.int .i64 k, .int .u64 s.1, .int .u64 s.2], .slice A m c] w (AllOut k n s m w) := by
  have HV : Hid (∀ w, Calls Try.prog 18 #[.agg #[.int .i64 k, .int .u64 s.1, .int .u64 s.2]] w (fun e w' => e = .returned (.bool true) ∧ Below w.heap.size w w')) := Lib.hid fun w => by
    have h3 := ValidSeed_any k s.1 s.2 h.2.2 w
    rw [h.1] at h3
    exact h3
  have HB : Hid (∀ i W, Calls Try.prog 96 #[.agg #[.int .i64 k, .int .u64 (dS k n i s).1, .int .u64 (dS k n i s).2], .int .i64 (n : Nat)] W (fun e w' => e = .returned (.tuple #[.agg #[.int .i64 k, .int .u64 (dS k n (i+1) s).1, .int .u64 (dS k n (i+1) s).2], .int .i64 (pN k n s i : Nat), .bool true]) ∧ Below W.heap.size W w')) := Lib.hid fun i W => BelowSeed_any k _ _ n W (dS_ok h i) h1 h2
  have HCELL := Lib.hid fun (W : World) (hW : Below w.heap.size w W) (i : Nat) (hi : i < m) => same_at (hA.at_ hW) hi
  have HSUC := Lib.hid fun i => pL_succ k n s i
  have H0 : Hid (dS k n 0 s = s) := Lib.hid rfl
  have HP0 : Hid (pL k n s 0 = []) := Lib.hid rfl
  unfold AllOut
  clear h hA
  obtain ⟨i0, hi0, hz0, hz1, hz2⟩ := info_parts info_i64
  go_enter Try.func69, Try.ntmps69
  go_wp2_with fail
  generalize hW1 : World.alloc (World.alloc w _) _ = W1
  have hx1 : Dx w.heap.size k s.1 s.2 W1 := by rw [← hW1]; simp [Dx, SdAt, go_sem]
  have HB1 : Hid (Below w.heap.size w W1) := by rw [← hW1]; exact Lib.hid (below_al (below_al (Below.refl _ _) _) _)
  clear hW1
  have HX1 := Lib.hid hx1
  clear hx1
  refine (HV.out _).mono ?_
  rintro e w2 ⟨rfl, hb2⟩
  have HX2 := Lib.hid (HX1.out.keep hb2)
  have HB2 := Lib.hid (below_next HB1.out hb2)
  clear hb2 HX1 HB1
  have hx3 := HX2.out.keep (below_al (Below.refl _ _) (.cells #[] 2))
  have HX3 := Lib.hid hx3
  have HB3 := Lib.hid (below_al HB2.out (.cells #[] 2))
  have hl2 := HX2.out.lt
  have HO3 : Hid ((w2.alloc (.cells #[] 2)).ownsRow (w.heap.size + 2) 2 1 (.slice (some ⟨w2.heap.size, 0, none⟩) 0 0) 0 []) := Lib.hid (World.ownsRow_made w2 #[] 0 (base := w.heap.size + 2) (e := 2) (size := 1) (by omega) (by unfold maxLen; omega) rfl)
  clear hx3
  go_wp2_with fail
  generalize World.alloc w2 _ = W3 at *
  go_loopw [7, 9, 10, 11, 12, 20] (fun ov _ _ _ _ iv wr => ∃ i : Nat, i ≤ m ∧ iv = .int .i64 i ∧ Dx w.heap.size k (dS k n i s).1 (dS k n i s).2 wr ∧ Below w.heap.size w wr ∧ ∃ A' c', ov = .slice A' i c' ∧ wr.ownsRow (w.heap.size + 2) 2 1 (.slice A' i c') i (il (pL k n s i))) (fun _ _ _ _ _ iv _ => m - (intOf iv).toNat)
  case atStart => exact ⟨0, by omega, rfl, by rw [H0.out]; exact HX3.out, HB3.out, _, _, rfl, by rw [HP0.out]; exact HO3.out⟩
  case round =>
    obtain ⟨i, hi, rfl, hx, hbw, A', c', rfl, how⟩ := hrel
    rename World => wr
    have HX := Lib.hid hx
    have HB' := Lib.hid hbw
    have HO := Lib.hid how
    have hlt := HX.out.lt
    clear hbw how HX3 HB3 HO3 HX2 HB2
    obtain ⟨⟨s0, s1, s2, sf⟩, ⟨z0, z1, z2, zf⟩⟩ := hx
    by_cases hcase : i < m
    · obtain ⟨b, off, rfl, hb, hc⟩ := HCELL.out wr HB'.out i hcase
      have HBi := Lib.hid (HB.out i)
      have hpl := HSUC.out i
      generalize hst' : dS k n (i + 1) s = st' at *
      have HST := Lib.hid hst'
      generalize hpn : pN k n s i = x at *
      have HPL := Lib.hid hpl
      clear hst' hpn hpl
      generalize dS k n i s = st at *
      obtain ⟨aT, bT⟩ := st
      obtain ⟨a', b'⟩ := st'
      go_wp2_with (go_at_call 96; refine (HBi.out _).mono ?_; rintro e w6 ⟨rfl, hb6⟩; have HX6 := Lib.hid (HX.out.keep hb6); have HO6 := Lib.hid (own_below HO.out hb6); have HB6 := Lib.hid (below_next HB'.out hb6); clear hb6 s0 s1 s2 sf z0 z1 z2 zf)
      have hs7 : AllSt w.heap.size k (aT, bT) i (pL k n s i) A' c' w (w6.alloc (.cells #[.int .i64 k, .int .u64 a', .int .u64 b'] 37)) := ⟨HX6.out.keep (below_al (Below.refl _ _) _), below_al HB6.out _, HO6.out.alloc _⟩
      have hy7 : (w6.alloc (.cells #[.int .i64 k, .int .u64 a', .int .u64 b'] 37)).cell? ⟨w6.heap.size, 0, none⟩ = some (.int .i64 k) ∧ (w6.alloc (.cells #[.int .i64 k, .int .u64 a', .int .u64 b'] 37)).cell? ⟨w6.heap.size, 1, none⟩ = some (.int .u64 a') ∧ (w6.alloc (.cells #[.int .i64 k, .int .u64 a', .int .u64 b'] 37)).cell? ⟨w6.heap.size, 2, none⟩ = some (.int .u64 b') := by simp [go_sem]
      have hl7 : w6.heap.size < (w6.alloc (.cells #[.int .i64 k, .int .u64 a', .int .u64 b'] 37)).heap.size := by simp
      have HS7 := Lib.hid hs7
      have hl6 := HX6.out.lt
      have HNE : Hid (some w6.heap.size ≠ (Value.slice A' i c').ownBlock) := Lib.hid fun e => by have := (HO6.out.lt _ e.symm).2; omega
      clear hs7 HX6 HB6 HO6
      generalize World.alloc w6 _ = W7 at *
      obtain ⟨y0, y1, y2⟩ := hy7
      obtain ⟨⟨s0, s1, s2, sf⟩, ⟨z0, z1, z2, zf⟩⟩ := HS7.out.x
      have hlt7 := HS7.out.x.lt
      have hi2 : i ≤ 1048576 := by omega
      go_region_law (first
        | (refine step_append_lies _ (by rfl) _ _ _ (by rfl) (w.heap.size + 2) 2 i0 _ 1 8 Try.underlying25 hi0 hz0 hz1 hz2 rfl (by omega) (.slice A' i c') i (il (pL k n s i)) (by rfl) ((own_below HS7.out.o (below_dr (Below.refl _ _))).alloc _) ⟨W7.heap.size, 0, none⟩ 1 1 [.int .i64 (x : Nat)] (by rfl) (by rfl) (World.news_of_block (cs := #[.int .i64 (x : Nat)]) (t := 2) (fr := (0, 0)) (heap_alloc_new W7.drew _)) (by simp [Value.oneCell']) (by omega) (by unfold maxLen; omega) (by omega) (by simp; omega) (W7.heap.size + 1) (by simp) ?_
           intro g cap w9 hown9 hgrow hat hlt9
           have HS9 := Lib.hid (AllSt.step (k := k) (a' := a') (b' := b') rfl HS7.out hgrow hown9)
           obtain ⟨⟨q0, q1, q2, qf⟩, -⟩ := (HS7.out.x.keep (below_al (below_dr (Below.refl _ _)) _)).grownR hgrow (fun j hj => (HS7.out.o.lt j hj).1)
           have r0 := hgrow.cell (keepC (below_al (below_dr (Below.refl _ _)) _) y0) HNE.out
           have r1 := hgrow.cell (keepC (below_al (below_dr (Below.refl _ _)) _) y1) HNE.out
           have r2 := hgrow.cell (keepC (below_al (below_dr (Below.refl _ _)) _) y2) HNE.out
           clear hgrow hat hown9))
      all_goals
        generalize World.setCell (World.setCell (World.setCell w9 _ _) _ _) _ _ = W10 at *
        go_wp2_with fail
        go_roundw
        case rel => exact ⟨i + 1, hcase, by go_num, by rw [HST.out]; exact HS9.out.x, HS9.out.b, _, _, rfl, by rw [HPL.out]; exact HS9.out.o⟩
        case measure => simp [intOf]; omega
    · obtain rfl : i = m := by omega
      go_wp2_with fail
      have hX7 := HX.out.2.set k (dS k n i s).1 (dS k n i s).2
      have hB7 := below_set (below_set (below_set HB'.out ⟨w.heap.size + 1, 0, none⟩ (.int .i64 k) (by simp)) ⟨w.heap.size + 1, 1, none⟩ (.int .u64 (dS k n i s).1) (by simp)) ⟨w.heap.size + 1, 2, none⟩ (.int .u64 (dS k n i s).2) (by simp)
      have hO7 := ownsRow_setCell_below (ownsRow_setCell_below (ownsRow_setCell_below HO.out (a := ⟨w.heap.size + 1, 0, none⟩) (show w.heap.size + 1 < w.heap.size + 2 by omega) (.int .i64 k)) (a := ⟨w.heap.size + 1, 1, none⟩) (show w.heap.size + 1 < w.heap.size + 2 by omega) (.int .u64 (dS k n i s).1)) (a := ⟨w.heap.size + 1, 2, none⟩) (show w.heap.size + 1 < w.heap.size + 2 by omega) (.int .u64 (dS k n i s).2)
      generalize World.setCell (World.setCell (World.setCell _ _ _) _ _) _ _ = W7 at hX7 hB7 hO7 ⊢
      obtain ⟨y0, y1, y2, -⟩ := hX7
      refine bodyPost_ret (v := .tuple #[.agg #[.int .i64 k, .int .u64 (dS k n i s).1, .int .u64 (dS k n i s).2], .slice A' i c', .bool true]) (by simp [results, Try.results69, go_sem, y0, y1, y2]) rfl ⟨A', c', rfl, own_base hO7 (by omega), hB7⟩
end Go.Proofs.Ytfkjnaaplhcheaa

namespace Go.Proofs.Ytfkjnaaplhcheaa
open Go Go.RowKit Ieee

set_option maxRecDepth 100000 in
set_option maxHeartbeats 3200000 in
theorem Mul64_small (n : Nat) (w : World) (hn1 : 1 ≤ n) (hn2 : n ≤ 40) : Calls Try.prog 122 #[.int .u64 1, .int .u64 n] w (fun e w' => e = .returned (.tuple #[.int .u64 0, .int .u64 n]) ∧ w' = w) := by
  have h : n = 1 ∨ n = 2 ∨ n = 3 ∨ n = 4 ∨ n = 5 ∨ n = 6 ∨ n = 7 ∨ n = 8 ∨ n = 9 ∨ n = 10 ∨ n = 11 ∨ n = 12 ∨ n = 13 ∨ n = 14 ∨ n = 15 ∨ n = 16 ∨ n = 17 ∨ n = 18 ∨ n = 19 ∨ n = 20 ∨ n = 21 ∨ n = 22 ∨ n = 23 ∨ n = 24 ∨ n = 25 ∨ n = 26 ∨ n = 27 ∨ n = 28 ∨ n = 29 ∨ n = 30 ∨ n = 31 ∨ n = 32 ∨ n = 33 ∨ n = 34 ∨ n = 35 ∨ n = 36 ∨ n = 37 ∨ n = 38 ∨ n = 39 ∨ n = 40 := by omega
  clear hn1 hn2
  rcases h with rfl | rfl | rfl | rfl | rfl | rfl | rfl | rfl | rfl | rfl | rfl | rfl | rfl | rfl | rfl | rfl | rfl | rfl | rfl | rfl | rfl | rfl | rfl | rfl | rfl | rfl | rfl | rfl | rfl | rfl | rfl | rfl | rfl | rfl | rfl | rfl | rfl | rfl | rfl | rfl
  all_goals
    go_enter Try.func122, Try.ntmps122
    go_wp2
    go_ret2
    exact ⟨rfl, rfl⟩
theorem Mul_small (n : Nat) (w : World) (hn1 : 1 ≤ n) (hn2 : n ≤ 40) : Calls Try.prog 105 #[.int .u64 1, .int .u64 n] w (fun e w' => e = .returned (.tuple #[.int .u64 0, .int .u64 n]) ∧ w' = w) := by
  have HM := Lib.hid fun w => Mul64_small n w hn1 hn2
  have hw : IntKind.u64.wrap (n : Int) = (n : Int) := IntWalk.u64_in _ (by omega)
  go_enter Try.func105, Try.ntmps105
  go_wp2_with (go_at_call 122; refine (HM.out _).mono ?_; rintro e w1 ⟨rfl, rfl⟩)
  go_ret2
  exact ⟨rfl, rfl⟩
/-- a row of n numbers of which the first m are there -/
def repC (x : Int) (n m : Nat) : List Value := List.replicate m (Value.int .i64 x) ++ List.replicate (n - m) (Value.int .i64 0)
theorem repC_len {x : Int} {n m : Nat} (h : m ≤ n) : (repC x n m).length = n := by unfold repC; simp; omega
theorem repC_zero (x : Int) (n : Nat) : repC x n 0 = List.replicate n (Value.int .i64 0) := rfl
theorem repC_step {x : Int} {n m q : Nat} (h : m + q ≤ n) : splice (repC x n m) m (List.replicate q (Value.int .i64 x)) = repC x n (m + q) := by
  unfold splice repC
  rw [List.take_append_of_le_length (by simp), List.take_of_length_le (by simp), List.drop_append, List.drop_of_length_le (by simp), List.nil_append, ← List.append_assoc, List.replicate_append_replicate, List.length_replicate, List.length_replicate, List.drop_replicate]
  congr 2
  omega
theorem repC_all (x : Int) (n : Nat) : repC x n n = il (List.replicate n x) := by
  unfold repC il
  rw [Nat.sub_self, List.replicate_zero, List.append_nil, List.map_replicate]
theorem repC_cell {w : World} {x : Int} {g n m j : Nat} {t : TypeId} (hg : w.heap[g]? = some (.cells (repC x n m).toArray t (0, 0))) (hj : j < m) : w.cell? ⟨g, j, none⟩ = some (.int .i64 x) := by
  have hl : j < (repC x n m).toArray.size := by unfold repC; simp; omega
  unfold World.cell?
  rw [hg]
  simp only []
  unfold repC
  rw [List.getElem?_toArray, List.getElem?_append_left (by simpa using hj), List.getElem?_replicate, if_pos hj]
  rfl

theorem madeCells_rep (x : Int) (n : Nat) : madeCells #[Value.int .i64 0] n = (repC x n 0).toArray := by
  rw [repC_zero, ← toList_madeCells_one, Array.toArray_toList]
set_option maxRecDepth 100000 in
set_option maxHeartbeats 3200000 in
/-- some of the row go over into it -/
theorem repC_copy {W w0 : World} {x : Int} {g B n m q o : Nat} {ty : TypeId} {ad : Addr} {dLen dCap sLen sCap : Nat} (hg : W.heap[g]? = some (.cells (repC x n m).toArray 2 (0, 0))) (hq : q = Nat.min sLen dLen) (hsrc : ∀ j, j < q → W.cell? (ad.add j) = some (.int .i64 x)) (hmq : m + q ≤ n) (ho : o = m) (hb : Below B w0 W) (hB : B ≤ g) :
    ∃ W', (Builtin.copy_ #[25, 25] ty #[.slice (some ⟨g, o, none⟩) dLen dCap, .slice (some ad) sLen sCap]).run Try.prog W = .ok (.int .i64 q) W' ∧ W'.heap[g]? = some (.cells (repC x n (m + q)).toArray 2 (0, 0)) ∧ Below B w0 W' := by
  subst ho
  obtain ⟨i0, hi0, hz0, hz1, hz2⟩ := info_parts info_i64
  have h := run_copy_row (P := Try.prog) W 25 25 ty 2 g o dLen dCap ad sLen sCap _ 2 (List.replicate q (.int .i64 x)) Try.underlying25 (by rw [hi0]; simp [hz1]) hg (by rw [List.length_replicate, hq]) (fun j v hv => by
    rw [List.getElem?_replicate] at hv
    split at hv
    · injection hv with hv
      rw [← hv]
      exact hsrc j (by assumption)
    · cases hv) (by rw [List.length_replicate]; simp [repC]; omega) (fun v hv => by rw [(List.mem_replicate.1 hv).2]; rfl)
  refine ⟨W.setRow g (repC x n (o + q)).toArray, ?_, setRow_heap W g _ _ _ _ hg, below_setRow hb hB _⟩
  have e : (repC x n o).toArray.toList.take o ++ List.replicate q (Value.int .i64 x) ++ (repC x n o).toArray.toList.drop (o + (List.replicate q (Value.int .i64 x)).length) = repC x n (o + q) := by
    rw [← repC_step hmq]
    unfold splice
    rw [List.append_assoc]
  rw [h, e, List.length_replicate]
  rfl

set_option maxRecDepth 100000 in
set_option maxHeartbeats 3200000 in
theorem Repeat_any (x : Int) (b c n : Nat) (w : World) (hn1 : 1 ≤ n) (hn2 : n ≤ 40) (hx : w.cell? ⟨b, 0, none⟩ = some (.int .i64 x)) :
    Calls Try.prog 70 #[.slice (some ⟨b, 0, none⟩) 1 c, .int .i64 n] w (fun e w' => ∃ A' c', e = .returned (.slice A' n c') ∧ w'.ownsRow w.heap.size 2 1 (.slice A' n c') n (il (List.replicate n x)) ∧ Below w.heap.size w w') := by
  have HM := Lib.hid fun w => Mul_small n w hn1 hn2
  have hb := lt_of_cell hx
  obtain ⟨i0, hi0, hz0, hz1, hz2⟩ := info_parts info_i64
  have hw1 : IntKind.u64.wrap (n : Int) = (n : Int) := IntWalk.u64_in _ (by omega)
  have hw2 : IntKind.i64.wrap (n : Int) = (n : Int) := IntWalk.i64_in _ (by omega)
  have HSU : Hid (∀ m q, m + q ≤ n → splice (repC x n m) m (List.replicate q (Value.int .i64 x)) = repC x n (m + q)) := Lib.hid fun m q h => repC_step h
  have HALL := Lib.hid (repC_all x n)
  have HCE : Hid (∀ (W : World) g m j, W.heap[g]? = some (.cells (repC x n m).toArray 2 (0, 0)) → j < m → W.cell? ⟨g, j, none⟩ = some (.int .i64 x)) := Lib.hid fun W g m j h hj => repC_cell h hj
  have HLE : Hid (∀ m, m ≤ n → (repC x n m).length = n) := Lib.hid fun m h => repC_len h
  have hmk := run_make_row (P := Try.prog) 25 2 i0 (.int .i64 0) Try.underlying25 hi0 hz0 hz1 rfl .i64 .i64 n (by rw [hz2]; omega) (by omega)
  have HSZ : (Try.prog.info? 2).map (·.size) = some 1 := by rw [hi0]; simp [hz1]
  have HS0 : ∀ j, j < 1 → (World.alloc w (.cells (madeCells #[Value.int .i64 0] n) 2)).cell? ((⟨b, 0, none⟩ : Addr).add j) = some (.int .i64 x) := by
    intro j hj
    have : j = 0 := by omega
    subst this
    exact keepC (below_al (Below.refl _ _) _) hx
  obtain ⟨W3, hcp, hg3, hb3⟩ := repC_copy (W := World.alloc w (.cells (madeCells #[Value.int .i64 0] n) 2)) (w0 := w) (g := w.heap.size) (B := w.heap.size) (x := x) (n := n) (m := 0) (q := 1) (o := 0) (ty := 3) (ad := ⟨b, 0, none⟩) (dLen := n) (dCap := n) (sLen := 1) (sCap := c) (by rw [heap_alloc_new, madeCells_rep]) (Nat.min_eq_left hn1).symm HS0 (by omega) rfl (below_al (Below.refl _ _) _) (Nat.le_refl _)
  clear HS0
  go_enter Try.func70, Try.ntmps70
  go_wp2_with (go_at_call 105; refine (HM.out _).mono ?_; rintro e w1 ⟨rfl, rfl⟩)
  have HG3 := Lib.hid hg3
  have HB3 := Lib.hid hb3
  clear hg3 hb3 hcp hmk
  rename World => w1
  go_loopw [8] (fun v wr => ∃ m : Nat, 1 ≤ m ∧ m ≤ n ∧ v = .int .i64 m ∧ wr.heap[w1.heap.size]? = some (.cells (repC x n m).toArray 2 (0, 0)) ∧ Below w1.heap.size w1 wr) (fun v _ => n - (intOf v).toNat)
  case atStart => exact ⟨1, Nat.le_refl _, hn1, rfl, by simpa using HG3.out, HB3.out⟩
  case round =>
    obtain ⟨m, hm1, hm, rfl, hg, hbw⟩ := hrel
    rename World => wr
    by_cases hlt : m < n
    · obtain ⟨q, hq⟩ : ∃ q, q = Nat.min m (n - m) := ⟨_, rfl⟩
      have hq1 : 1 ≤ q ∧ m + q ≤ n := by
        rw [hq]
        have h1 := Nat.min_le_left m (n - m)
        have h2 := Nat.min_le_right m (n - m)
        have h3 : 1 ≤ Nat.min m (n - m) := Nat.le_min.2 ⟨hm1, by omega⟩
        change Nat.min m (n - m) ≤ _ at h1 h2
        generalize Nat.min m (n - m) = r at *
        omega
      have hmn : q ≤ m := by rw [hq]; exact Nat.min_le_left _ _
      obtain ⟨W4, hc4, hg4, hb4⟩ := repC_copy (W := wr.drew) (w0 := w1) (g := w1.heap.size) (B := w1.heap.size) (x := x) (n := n) (m := m) (q := q) (o := m) (ty := 3) (ad := ⟨w1.heap.size, 0, none⟩) (dLen := n - m) (dCap := n - m) (sLen := m) (sCap := n) hg hq (fun j hj => by
        have := HCE.out wr.drew _ m j hg (by omega)
        rw [show ((⟨w1.heap.size, 0, none⟩ : Addr).add j) = ⟨w1.heap.size, j, none⟩ by unfold Addr.add; split <;> simp_all]
        exact this) hq1.2 rfl (below_drewN hbw 1) (Nat.le_refl _)
      have HG4 := Lib.hid hg4
      have HB4 := Lib.hid hb4
      clear hg4 hb4 hq
      go_wp2_with fail
      go_region
      go_wp2_with fail
      go_roundw
      case rel => exact ⟨m + q, by omega, by omega, by go_num, HG4.out, HB4.out⟩
      case measure => simp [intOf]; omega
    · obtain rfl : m = n := by omega
      have HG := Lib.hid hg
      have HBW := Lib.hid hbw
      clear hg hbw
      go_wp2_with fail
      go_ret
      refine ⟨_, _, rfl, ?_, HBW.out⟩
      have h := HG.out
      rw [HALL.out] at h
      refine ⟨by simp [il], .inr ⟨w1.heap.size, m, _, rfl, Nat.le_refl _, h, Nat.le_refl _, by unfold maxLen; omega, by simp [il], ?_⟩⟩
      simp [il]
end Go.Proofs.Ytfkjnaaplhcheaa

namespace Go.Proofs.Ytfkjnaaplhcheaa
open Go Go.RowKit Ieee

/-- the tests that are handed to the search: functions without captured variables -/
def testFin (g : Nat) : Prop := g = 103

set_option maxHeartbeats 1600000 in
theorem IndexFunc_ff (g : Nat) (hgs : testFin g) (p : Nat → Bool) (hg : ∀ (x : Nat) (w : World), Calls Try.prog g #[.float .f32 x] w (Quiet (.bool (p x)) w))
    (A : Option Addr) (xs : List Nat) (c : Nat) (w : World) (hx : xs.length ≤ 9223372036854775807) (h : Rd w w.heap.size A (fl xs)) :
    Calls Try.prog 120 #[.slice A xs.length c, .func (.func g) #[] #[]] w (Quiet (.int .i64 (idxOf p xs)) w) := by
  have HG := Lib.hid hg
  clear hg
  obtain rfl : g = 103 := hgs
  all_goals
    go_enter Try.func120, Try.ntmps120
    go_wp2
    go_loopw [5, 8] (fun _ i wr => ∃ k m : Nat, k ≤ xs.length ∧ i = .int .i64 k ∧ (xs.take k).any p = false ∧ wr = w.drewN m) (fun _ i _ => xs.length - (intOf i).toNat)
    case atStart => exact ⟨0, 0, Nat.zero_le _, rfl, by simp, rfl⟩
    case round =>
      obtain ⟨k, m, hk, rfl, hall, rfl⟩ := hrel
      have HALL := Lib.hid hall
      clear hall
      by_cases hlt : k < xs.length
      · obtain ⟨b, off, rfl, hb, hc⟩ := h.flAt hlt
        clear h
        cases hle : p xs[k] with
        | false =>
          have HLE := Lib.hid hle
          clear hle
          go_wp2_with ((with_reducible refine (HG.out _ _).mono ?_); rw [HLE.out]; rintro e w' ⟨rfl, n, rfl⟩)
          go_roundw
          case rel => exact ⟨k + 1, m + n, by omega, by go_num, by rw [List.take_succ_eq_append_getElem hlt, List.any_append, HALL.out]; simp [HLE.out], by simp⟩
          case measure => simp [intOf]; omega
        | true =>
          have HLE := Lib.hid hle
          clear hle
          go_wp2_with ((with_reducible refine (HG.out _ _).mono ?_); rw [HLE.out]; rintro e w' ⟨rfl, n, rfl⟩)
          go_ret
          rw [idxOf_hit hlt HALL.out HLE.out]
          exact ⟨rfl, m + n, rfl⟩
      · have hr : idxOf p xs = -1 := by
          have h1 := HALL.out
          rw [List.take_of_length_le (by omega)] at h1
          exact idxOf_none h1
        have HR := Lib.hid hr
        clear hr
        go_wp2
        go_ret
        rw [HR.out]
        exact ⟨rfl, m, rfl⟩

set_option maxHeartbeats 400000 in
theorem ContainsFunc_ff (g : Nat) (hgs : testFin g) (p : Nat → Bool) (hg : ∀ (x : Nat) (w : World), Calls Try.prog g #[.float .f32 x] w (Quiet (.bool (p x)) w))
    (A : Option Addr) (xs : List Nat) (c : Nat) (w : World) (hx : xs.length ≤ 9223372036854775807) (h : Rd w w.heap.size A (fl xs)) :
    Calls Try.prog 102 #[.slice A xs.length c, .func (.func g) #[] #[]] w (Quiet (.bool (xs.any p)) w) := by
  have HG := Lib.hid (IndexFunc_ff g hgs p hg A xs c w hx h)
  have HA := Lib.hid (idxOf_any p xs)
  clear hg
  go_enter Try.func102, Try.ntmps102
  go_wp2_with (go_at_call 120; refine (HG.out).mono ?_; rintro e w' ⟨rfl, n, rfl⟩)
  go_ret
  exact ⟨retB HA.out, n, rfl⟩

set_option maxHeartbeats 800000 in
theorem areFinite1_any (x : Nat) (w : World) : Calls Try.prog 103 #[.float .f32 x] w (Quiet (.bool (!isFin single x)) w) := by
  have HC := Lib.hid fun W => IsFinite_any x W
  generalize isFin single x = b at *
  go_enter Try.func103, Try.ntmps103
  go_wp2_with (go_at_call 104; refine (HC.out _).mono ?_; rintro e w' ⟨rfl, n, rfl⟩)
  go_ret
  exact .mk _
set_option maxHeartbeats 400000 in
theorem areFinite_any (A : Option Addr) (xs : List Nat) (c : Nat) (w : World) (hx : xs.length ≤ 9223372036854775807) (h : Rd w w.heap.size A (fl xs)) :
    Calls Try.prog 68 #[.slice A xs.length c] w (Quiet (.bool (xs.all (isFin single))) w) := by
  have HC := Lib.hid fun w h => ContainsFunc_ff 103 rfl (fun x => !isFin single x) areFinite1_any A xs c w hx h
  have HA : Hid ((!xs.any fun x => !isFin single x) = xs.all (isFin single)) := Lib.hid (by
    rw [List.any_eq_not_all_not, Bool.not_not]
    congr 1
    funext x
    rw [Bool.not_not])
  go_enter Try.func68, Try.ntmps68
  go_wp2_with (go_at_call 102; refine (HC.out _ h).mono ?_; rintro e w' ⟨rfl, n, rfl⟩)
  go_ret
  exact ⟨retB HA.out, n, rfl⟩
set_option maxHeartbeats 800000 in
theorem l02Finite_any (A : Option Addr) (xs : List Nat) (c : Nat) (w : World) (hx : xs.length ≤ 9223372036854775807) (h : Rd w w.heap.size A (fl xs)) :
    Calls Try.prog 88 #[.slice A xs.length c] w (Quiet (.bool (xs.all (isFin single))) w) := by
  go_enter Try.func88, Try.ntmps88
  go_wp2
  go_loopw [3] (fun i wr => ∃ k m : Nat, k ≤ xs.length ∧ i = .int .i64 k ∧ (xs.take k).all (isFin single) = true ∧ wr = w.drewN m) (fun i _ => xs.length - (intOf i).toNat)
  case atStart => exact ⟨0, 0, Nat.zero_le _, rfl, by simp, rfl⟩
  case round =>
    obtain ⟨k, m, hk, rfl, hall, rfl⟩ := hrel
    have HALL := Lib.hid hall
    clear hall
    by_cases hlt : k < xs.length
    · obtain ⟨b, off, rfl, hb, hc⟩ := h.flAt hlt
      have HT := Lib.hid (List.take_succ_eq_append_getElem hlt)
      have HM := Lib.hid (List.getElem_mem hlt)
      have HC := Lib.hid fun W => l01Finite_any xs[k] W
      clear h
      generalize xs[k] = x at *
      cases hs : isFin single x with
      | true =>
        have HS := Lib.hid hs
        rw [hs] at HC
        clear hs
        go_wp2_with (go_at_call 117; refine (HC.out _).mono ?_; rintro e w2 ⟨rfl, m2, rfl⟩)
        go_roundw
        case rel => exact ⟨k + 1, _, by omega, by go_num, by rw [HT.out, List.all_append, HALL.out]; simp [HS.out], rfl⟩
        case measure => simp [intOf]; omega
      | false =>
        have HS := Lib.hid hs
        rw [hs] at HC
        clear hs
        go_wp2_with (go_at_call 117; refine (HC.out _).mono ?_; rintro e w2 ⟨rfl, m2, rfl⟩)
        go_ret
        refine ⟨retB ?_, _, rfl⟩
        symm
        rw [Bool.eq_false_iff]
        intro ha
        have := List.all_eq_true.1 ha x HM.out
        rw [HS.out] at this
        cases this
    · have hr : xs.all (isFin single) = true := by
        have h1 := HALL.out
        rwa [List.take_of_length_le (by omega)] at h1
      have HR := Lib.hid hr
      clear hr
      go_wp2
      go_ret
      exact ⟨retB HR.out.symm, m, rfl⟩

/-- one number or more, 40 at most, all finite -/
def listB (xs : List Nat) : Bool := decide (1 ≤ xs.length) && (decide (xs.length ≤ 40) && xs.all (isFin single))
set_option maxHeartbeats 800000 in
theorem l06List_any (A : Option Addr) (xs : List Nat) (c : Nat) (w : World) (hx : xs.length ≤ 1048576) (h : Rd w w.heap.size A (fl xs)) :
    Calls Try.prog 86 #[.slice A xs.length c, .int .i64 40] w (Quiet (.bool (listB xs)) w) := by
  have HC := Lib.hid (l02Finite_any A xs c w (by omega) h)
  clear h
  have HL : Hid (listB xs = (decide (1 ≤ xs.length) && (decide (xs.length ≤ 40) && xs.all (isFin single)))) := Lib.hid rfl
  generalize xs.all (isFin single) = f at *
  generalize listB xs = r at *
  generalize xs.length = n at *
  by_cases h1 : 1 ≤ n
  · by_cases h2 : n ≤ 40
    · have e := HL.out
      rw [decide_eq_true h1, decide_eq_true h2, Bool.true_and, Bool.true_and] at e
      have E := Lib.hid e
      clear e HL
      cases f
      all_goals
        go_enter Try.func86, Try.ntmps86
        go_wp2_with (go_at_call 88; refine HC.out.mono ?_; rintro e w' ⟨rfl, m, rfl⟩)
        go_ret
        rw [E.out]
        exact .mk _
    · have e := HL.out
      rw [decide_eq_true h1, decide_eq_false h2, Bool.true_and, Bool.false_and] at e
      have E := Lib.hid e
      clear e HL
      go_enter Try.func86, Try.ntmps86
      go_wp2_with (go_at_call 88; refine HC.out.mono ?_; rintro e w' ⟨rfl, m, rfl⟩)
      go_ret
      rw [E.out]
      exact .mk0
  · have e := HL.out
    rw [decide_eq_false h1, Bool.false_and] at e
    have E := Lib.hid e
    clear e HL
    go_enter Try.func86, Try.ntmps86
    go_wp2_with (go_at_call 88; refine HC.out.mono ?_; rintro e w' ⟨rfl, m, rfl⟩)
    go_ret
    rw [E.out]
    exact .mk0
end Go.Proofs.Ytfkjnaaplhcheaa
