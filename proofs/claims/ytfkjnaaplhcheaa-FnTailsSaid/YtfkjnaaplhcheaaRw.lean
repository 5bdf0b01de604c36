/-
  A row of integers that is written in place; an order that is drawn (plain); impl.drawnList.
-/
import Derived.Test.YtfkjnaaplhcheaaBt
import Derived.Test.YtfkjnaaplhcheaaCl
import Derived.Deep.OwnRows
import Derived.RegionTactic
import Derived.BigRegion
namespace Go.Proofs.Ytfkjnaaplhcheaa
open Go Go.RowKit Ieee SeedFact

structure Rw (W : World) (g cap : Nat) (xs : List Int) : Prop where
  ex : ∃ f, W.rowIs g 2 cap f ∧ ∀ i, i < xs.length → f i = .int .i64 (xs.getD i 0)
  le : xs.length ≤ cap
section
variable {W W' : World} {g cap : Nat} {xs : List Int}
theorem Rw.cell (h : Rw W g cap xs) {i : Nat} (hi : i < xs.length) : W.cell? ⟨g, i, none⟩ = some (.int .i64 (xs.getD i 0)) := by
  obtain ⟨f, hf, he⟩ := h.ex
  rw [hf.cell (by have := h.le; omega), he i hi]
theorem Rw.frozen (h : Rw W g cap xs) (i : Nat) : W.frozen? ⟨g, i, none⟩ = false := by
  obtain ⟨f, hf, -⟩ := h.ex
  exact hf.frozen i
theorem Rw.lt (h : Rw W g cap xs) : g < W.heap.size := by
  obtain ⟨f, hf, -⟩ := h.ex
  exact hf.lt
theorem Rw.put (h : Rw W g cap xs) (i : Nat) (v : Int) : Rw (W.setCell ⟨g, i, none⟩ (.int .i64 v)) g cap (xs.set i v) := by
  obtain ⟨f, hf, he⟩ := h.ex
  refine ⟨⟨_, hf.set i _, fun j hj => ?_⟩, by rw [List.length_set]; exact h.le⟩
  rw [List.length_set] at hj
  show (if j = i then _ else f j) = _
  by_cases e : j = i
  · subst e
    rw [if_pos rfl, List.getD_eq_getElem?_getD, List.getElem?_set_self hj]
    rfl
  · rw [if_neg e, he j hj, List.getD_eq_getElem?_getD, List.getD_eq_getElem?_getD, List.getElem?_set_ne (fun e2 => e e2.symm)]
theorem Rw.block (h : Rw W g cap xs) (e : W'.heap[g]? = W.heap[g]?) : Rw W' g cap xs := by
  obtain ⟨f, hf, he⟩ := h.ex
  exact ⟨⟨f, hf.of_block e, he⟩, h.le⟩
theorem Rw.keep (h : Rw W g cap xs) (hb : Below W.heap.size W W') : Rw W' g cap xs := h.block (hb.block g h.lt)
theorem Rw.other (h : Rw W g cap xs) {a : Addr} (ha : g ≠ a.block) (v : Value) : Rw (W.setCell a v) g cap xs := h.block (Below.heap_setCell _ _ _ _ ha)
theorem Rw.dn (h : Rw W g cap xs) (n : Nat) : Rw (W.drewN n) g cap xs := h.block rfl
theorem Rw.dr (h : Rw W g cap xs) : Rw W.drew g cap xs := h.block rfl
theorem own_rw {base n : Nat} {A : Option Addr} {c : Nat} (h : W.ownsRow base 2 1 (.slice A n c) n (il xs)) (hn : 1 ≤ n) (hx : xs.length = n) : ∃ g, A = some ⟨g, 0, none⟩ ∧ base ≤ g ∧ Rw W g c xs ∧ c ≤ maxLen := by
  rcases h.2 with ⟨hv, hz⟩ | ⟨g, cap, cur, hv, hb, hg, h1, h2, h3, h4⟩
  · omega
  · cases hv
    refine ⟨g, rfl, hb, ⟨⟨fun i => cur[i]?.getD (.int .i64 0), ⟨cur, hg, by omega, fun i hi => ?_⟩, fun i hi => ?_⟩, by omega⟩, h2⟩
    · show cur[i]? = some (cur[i]?.getD (.int .i64 0))
      rw [Array.getElem?_eq_getElem (by omega)]
      rfl
    · show cur[i]?.getD (.int .i64 0) = _
      have h5 : (cur.toList.take (n * 1))[i]? = (il xs)[i]? := by rw [h4]
      rw [List.getElem?_take_of_lt (by omega), il, List.getElem?_map, Array.getElem?_toList] at h5
      rw [h5, List.getD_eq_getElem?_getD, List.getElem?_eq_getElem hi]
      rfl
theorem rw_own (h : Rw W g cap xs) {base : Nat} (hb : base ≤ g) (hc : cap ≤ maxLen) : W.ownsRow base 2 1 (.slice (some ⟨g, 0, none⟩) xs.length cap) xs.length (il xs) := by
  obtain ⟨f, ⟨c, h1, h2, h3⟩, he⟩ := h.ex
  have hle := h.le
  refine ⟨by rw [il_len, Nat.mul_one], .inr ⟨g, cap, c, rfl, hb, h1, hle, hc, by omega, ?_⟩⟩
  refine List.ext_getElem? fun i => ?_
  by_cases hi : i < xs.length
  · rw [List.getElem?_take_of_lt (by omega), Array.getElem?_toList, h3 i (by omega), he i hi, il, List.getElem?_map, List.getElem?_eq_getElem hi, List.getD_eq_getElem?_getD, List.getElem?_eq_getElem hi]
    rfl
  · rw [List.getElem?_eq_none (by rw [List.length_take]; omega), List.getElem?_eq_none (by rw [il_len]; omega)]
end
/-- two numbers change places -/
def swapL (xs : List Int) (i j : Nat) : List Int := (xs.set i (xs.getD j 0)).set j (xs.getD i 0)
theorem swapL_len (xs : List Int) (i j : Nat) : (swapL xs i j).length = xs.length := by simp [swapL]
/-- numbers brought to an order, from an index down to 1 -/
def shufI (k : Int) : Nat → Int × Int → List Int → (Int × Int) × List Int
  | 0, s, xs => (s, xs)
  | i+1, s, xs => shufI k i (sW k s.1 s.2 (i+2)) (swapL xs (i+1) (xW k s.1 s.2 (i+2)))
theorem shufI_zero (k : Int) (s : Int × Int) (xs : List Int) : shufI k 0 s xs = (s, xs) := rfl
theorem shufI_succ (k : Int) (i : Nat) (s : Int × Int) (xs : List Int) : shufI k (i+1) s xs = shufI k i (sW k s.1 s.2 (i+2)) (swapL xs (i+1) (xW k s.1 s.2 (i+2))) := rfl
theorem shufI_ok {k : Int} : ∀ (i : Nat) (s : Int × Int) (xs : List Int), sdOk k s.1 s.2 → sdOk k (shufI k i s xs).1.1 (shufI k i s xs).1.2
  | 0, _, _, h => h
  | i+1, s, xs, h => by
    rw [shufI_succ]
    exact shufI_ok i _ _ (sW_ok _ h)
theorem shufI_len {k : Int} : ∀ (i : Nat) (s : Int × Int) (xs : List Int), (shufI k i s xs).2.length = xs.length
  | 0, _, _ => rfl
  | i+1, s, xs => by
    rw [shufI_succ, shufI_len i _ _, swapL_len]
/-- what is given: a seed, and a row of one's own -/
def DrawnOut (k : Int) (s : Int × Int) (xs : List Int) (w : World) (e : Ending) (w' : World) : Prop :=
  ∃ g c, e = .returned (.tuple #[.agg #[.int .i64 k, .int .u64 s.1, .int .u64 s.2], .slice (some ⟨g, 0, none⟩) xs.length c, .bool true]) ∧ w.heap.size ≤ g ∧ c ≤ maxLen ∧ Rw w' g c xs ∧ Below w.heap.size w w'
set_option maxRecDepth 100000 in
set_option maxHeartbeats 6400000 in
theorem drawnList_any (k : Int) (s : Int × Int) (A : Option Addr) (xs : List Int) (c : Nat) (w : World) (h : sdOk k s.1 s.2) (h1 : 1 ≤ xs.length) (h2 : xs.length < 41) (hA : Rd w w.heap.size A (il xs)) :
    Calls Try.prog 58 #[.agg #[.int .i64 k, .int .u64 s.1, .int .u64 s.2], .slice A xs.length c, .int .i64 1] w (DrawnOut k (shufI k (xs.length - 1) s xs).1 (shufI k (xs.length - 1) s xs).2 w) := by
  have HV : Hid (∀ w, Calls Try.prog 18 #[.agg #[.int .i64 k, .int .u64 s.1, .int .u64 s.2]] w (fun e w' => e = .returned (.bool true) ∧ Below w.heap.size w w')) := Lib.hid fun w => by
    have h3 := ValidSeed_any k s.1 s.2 h.2.2 w
    rw [h.1] at h3
    exact h3
  have HC : Hid (∀ W, Below w.heap.size w W → Calls Try.prog 60 #[.slice A xs.length c] W (fun e w' => ∃ A' c', e = .returned (.slice A' xs.length c') ∧ w'.ownsRow W.heap.size 2 1 (.slice A' xs.length c') xs.length (il xs) ∧ Below W.heap.size W w')) := Lib.hid fun W hW => cloneI_any A xs c W (by omega) h1 (hA.at_ hW)
  have HB : Hid (∀ (i : Nat) (s : Int × Int) w, i + 2 < 41 → sdOk k s.1 s.2 → Calls Try.prog 96 #[.agg #[.int .i64 k, .int .u64 s.1, .int .u64 s.2], .int .i64 ((i + 2 : Nat) : Int)] w (BelowOut k s.1 s.2 (i+2) w)) := Lib.hid fun i s w hi hs => BelowSeed_any k s.1 s.2 (i+2) w hs (by omega) hi
  have HS := Lib.hid h
  clear h hA
  go_enter Try.func58, Try.ntmps58
  go_wp2_with fail
  generalize hW1 : World.alloc (World.alloc w _) _ = W1
  have hx1 : Dx w.heap.size k s.1 s.2 W1 := by rw [← hW1]; simp [Dx, SdAt, go_sem]
  have HB1 : Hid (Below w.heap.size w W1) := by rw [← hW1]; exact Lib.hid (below_al (below_al (Below.refl _ _) _) _)
  clear hW1
  have HX1 := Lib.hid hx1
  clear hx1
  refine (HV.out _).mono ?_
  rintro e w2 ⟨rfl, hb2⟩
  have HX2 := Lib.hid (HX1.out.keep hb2)
  have hB2 := below_next HB1.out hb2
  have HB2 := Lib.hid hB2
  have HC2 := Lib.hid (HC.out w2 hB2)
  clear hb2 HX1 HB1 HC hB2
  go_wp2_with (go_at_call 60; refine HC2.out.mono ?_; rintro e w3 ⟨A', c', rfl, hown, hb3⟩; obtain ⟨g, rfl, hg, hrw, hcm⟩ := own_rw hown h1 rfl; have HRW := Lib.hid hrw; have HX3 := Lib.hid (HX2.out.keep hb3); have HB3 := Lib.hid (below_next HB2.out hb3); have hlt2 := HX2.out.lt; clear hown hb3 hrw)
  have hgl : w.heap.size + 1 < g := by omega
  have HCM := Lib.hid hcm
  clear hg hlt2 HX2 HB2 HC2 hcm
  go_loopw [10, 11, 12, 13] (fun ct _ _ _ wr => ∃ (i : Nat) (t : Int × Int) (L : List Int), ct = .int .i64 i ∧ i + 1 ≤ xs.length ∧ L.length = xs.length ∧ sdOk k t.1 t.2 ∧ shufI k i t L = shufI k (xs.length - 1) s xs ∧ Dx w.heap.size k t.1 t.2 wr ∧ Rw wr g c' L ∧ Below w.heap.size w wr) (fun ct _ _ _ _ => (intOf ct).toNat)
  case atStart =>
    refine ⟨xs.length - 1, s, xs, ?_, by omega, rfl, HS.out, rfl, HX3.out, HRW.out, HB3.out⟩
    first | rfl | (congr 1; omega)
  case round =>
    obtain ⟨i, t, L, rfl, hi, hL, hok, hsh, hx, hrw, hbw⟩ := hrel
    rename World => wr
    have HX := Lib.hid hx
    have HR := Lib.hid hrw
    have HB' := Lib.hid hbw
    have HSH := Lib.hid hsh
    have HOK := Lib.hid hok
    have HL := Lib.hid hL
    have hlt := HX.out.lt
    have hrl := HR.out.lt
    obtain ⟨⟨s0, s1, s2, sf⟩, ⟨z0, z1, z2, zf⟩⟩ := hx
    clear hbw hsh hrw hok hL
    obtain ⟨ta, tb⟩ := t
    by_cases hi0 : i = 0
    · subst hi0
      go_wp2_with fail
      have e0 := HSH.out
      rw [shufI_zero] at e0
      have hX7 := HX.out.2.set k ta tb
      have hR7 := ((HR.out.other (a := ⟨w.heap.size + 1, 0, none⟩) (by simp; omega) (.int .i64 k)).other (a := ⟨w.heap.size + 1, 1, none⟩) (by simp; omega) (.int .u64 ta)).other (a := ⟨w.heap.size + 1, 2, none⟩) (by simp; omega) (.int .u64 tb)
      have hB7 := below_set (below_set (below_set HB'.out ⟨w.heap.size + 1, 0, none⟩ (.int .i64 k) (by simp)) ⟨w.heap.size + 1, 1, none⟩ (.int .u64 ta) (by simp)) ⟨w.heap.size + 1, 2, none⟩ (.int .u64 tb) (by simp)
      generalize World.setCell (World.setCell (World.setCell _ _ _) _ _) _ _ = W7 at hX7 hR7 hB7 ⊢
      obtain ⟨y0, y1, y2, -⟩ := hX7
      rw [← e0]
      refine bodyPost_ret (v := .tuple #[.agg #[.int .i64 k, .int .u64 ta, .int .u64 tb], .slice (some ⟨g, 0, none⟩) xs.length c', .bool true]) (by simp [results, Try.results58, go_sem, y0, y1, y2]) rfl ⟨g, c', by rw [HL.out], by omega, HCM.out, hR7, hB7⟩
    · have HBi : Hid (∀ w, Calls Try.prog 96 #[.agg #[.int .i64 k, .int .u64 ta, .int .u64 tb], .int .i64 ((i : Int) + 1)] w (BelowOut k ta tb (i+1) w)) := Lib.hid fun W => by
        have h5 := HB.out (i-1) (ta, tb) W (by omega) HOK.out
        rw [show ((i - 1 + 2 : Nat) : Int) = (i : Int) + 1 by omega, show i - 1 + 2 = i + 1 by omega] at h5
        exact h5
      have hstep : shufI k i (ta, tb) L = shufI k (i-1) (sW k ta tb (i+1)) (swapL L i (xW k ta tb (i+1))) := by
        obtain ⟨q, rfl⟩ := Nat.exists_eq_succ_of_ne_zero hi0
        exact shufI_succ k q (ta, tb) L
      have hok' : sdOk k (sW k ta tb (i+1)).1 (sW k ta tb (i+1)).2 := sW_ok (i+1) HOK.out
      have hxl : xW k ta tb (i+1) < i + 1 := xW_lt k ta tb (by omega)
      have HSTEP := Lib.hid hstep
      have HOK' := Lib.hid hok'
      clear hstep hok'
      unfold BelowOut at HBi
      generalize xW k ta tb (i+1) = x at *
      generalize sW k ta tb (i+1) = t' at *
      obtain ⟨a', b'⟩ := t'
      go_wp2_with (go_at_call 96; refine (HBi.out _).mono ?_; rintro e w6 ⟨rfl, hb6⟩; have HX6 := Lib.hid (HX.out.keep hb6); have HR6 := Lib.hid (HR.out.keep hb6); have HB6 := Lib.hid (below_next HB'.out hb6); clear hb6 s0 s1 s2 sf z0 z1 z2 zf; obtain ⟨⟨s0, s1, s2, sf⟩, ⟨z0, z1, z2, zf⟩⟩ := HX6.out; have hlt6 := HX6.out.lt; have hlt7 : w.heap.size < w6.heap.size := by omega)
      have hX7 := (HX6.out.set k a' b').keep (below_al (Below.refl _ _) (.cells #[.int .i64 k, .int .u64 a', .int .u64 b'] 37))
      have hR7 := (((HR6.out.other (a := ⟨w.heap.size, 0, none⟩) (by simp; omega) (.int .i64 k)).other (a := ⟨w.heap.size, 1, none⟩) (by simp; omega) (.int .u64 a')).other (a := ⟨w.heap.size, 2, none⟩) (by simp; omega) (.int .u64 b')).keep (below_al (Below.refl _ _) (.cells #[.int .i64 k, .int .u64 a', .int .u64 b'] 37))
      have hB7 := below_al (below_set (below_set (below_set HB6.out ⟨w.heap.size, 0, none⟩ (.int .i64 k) (by simp)) ⟨w.heap.size, 1, none⟩ (.int .u64 a') (by simp)) ⟨w.heap.size, 2, none⟩ (.int .u64 b') (by simp)) (.cells #[.int .i64 k, .int .u64 a', .int .u64 b'] 37)
      generalize World.alloc (World.setCell (World.setCell (World.setCell _ _ _) _ _) _ _) _ = W7 at hX7 hR7 hB7 ⊢
      have HX7 := Lib.hid hX7
      have HR7 := Lib.hid hR7
      have HB7 := Lib.hid hB7
      have hiL : i < L.length := by rw [HL.out]; omega
      have hxL : x < L.length := by omega
      have ci := hR7.cell hiL
      have cx := hR7.cell hxL
      have cf := hR7.frozen
      have hrl7 := hR7.lt
      have hLc : L.length ≤ c' := hR7.le
      have hLn := HL.out
      clear hX7 hR7 hB7 s0 s1 s2 sf z0 z1 z2 zf
      have hR8 := ((HR7.out.put i (L.getD x 0)).put x (L.getD i 0)).dr
      have hg8 := grown_set (grown_set (grown_refl W7 (some g)) i (.int .i64 (L.getD x 0))) x (.int .i64 (L.getD i 0))
      have hX8 : Dx w.heap.size k a' b' (World.drew (World.setCell (World.setCell W7 ⟨g, i, none⟩ (.int .i64 (L.getD x 0))) ⟨g, x, none⟩ (.int .i64 (L.getD i 0)))) := ⟨(HX7.out.1.far hg8 (by omega)).dr, (HX7.out.2.far hg8 (by omega)).dr⟩
      have hB8 : Below w.heap.size w (World.drew (World.setCell (World.setCell W7 ⟨g, i, none⟩ (.int .i64 (L.getD x 0))) ⟨g, x, none⟩ (.int .i64 (L.getD i 0)))) := below_dn (below_set (below_set HB7.out ⟨g, i, none⟩ _ (by simp; omega)) ⟨g, x, none⟩ _ (by simp; omega)) 1
      have hsw : swapL L i x = (L.set i (L.getD x 0)).set x (L.getD i 0) := rfl
      rw [← hsw] at hR8
      clear hg8 hsw
      simp only [List.getD_eq_getElem?_getD] at hR8 hX8 hB8
      have hfin : ∀ W8, Rw W8 g c' (swapL L i x) → Dx w.heap.size k a' b' W8 → Below w.heap.size w W8 → ∃ (q : Nat) (t : Int × Int) (M : List Int), Value.int .i64 ((i : Int) - 1) = .int .i64 q ∧ q + 1 ≤ xs.length ∧ M.length = xs.length ∧ sdOk k t.1 t.2 ∧ shufI k q t M = shufI k (xs.length - 1) s xs ∧ Dx w.heap.size k t.1 t.2 W8 ∧ Rw W8 g c' M ∧ Below w.heap.size w W8 := fun W8 q1 q2 q3 =>
        ⟨i - 1, (a', b'), swapL L i x, by rw [show ((i - 1 : Nat) : Int) = (i : Int) - 1 by omega], by omega, by rw [swapL_len]; exact HL.out, HOK'.out, by rw [← HSTEP.out]; exact HSH.out, q2, q1, q3⟩
      have HFIN := Lib.hid hfin
      clear hfin
      by_cases hxi : x = i
      · subst hxi
        go_region
        generalize World.drew (World.setCell (World.setCell W7 _ _) _ _) = W8 at hR8 hX8 hB8 ⊢
        have HF := Lib.hid (HFIN.out W8 hR8 hX8 hB8)
        clear hR8 hX8 hB8 ci cx cf HFIN
        go_wp2_with fail
        exact ⟨HF.out, by simp [intOf]; omega⟩
      · have hix : i ≠ x := fun e => hxi e.symm
        go_region
        generalize World.drew (World.setCell (World.setCell W7 _ _) _ _) = W8 at hR8 hX8 hB8 ⊢
        have HF := Lib.hid (HFIN.out W8 hR8 hX8 hB8)
        clear hR8 hX8 hB8 ci cx cf HFIN
        go_wp2_with fail
        exact ⟨HF.out, by simp [intOf]; omega⟩
end Go.Proofs.Ytfkjnaaplhcheaa
