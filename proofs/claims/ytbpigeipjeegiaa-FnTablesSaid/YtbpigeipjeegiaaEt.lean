/-
  impl.eachTable: rows behind rows, plain; what its inner functions keep; slices.Clone of a row.
-/
import Derived.Test.YtbpigeipjeegiaaEs
namespace Go.Proofs.Ytbpigeipjeegiaa
open Go Go.RowKit

theorem mem_rowsOf : ∀ (ls : List Nat) (s : Nat) (r : List Nat), r ∈ rowsOf ls s → r.length = ls.length ∧ (∀ i : Nat, r[i]! ≤ ls[i]!) ∧ r.sum = s
  | [], s, r, h => by
    unfold rowsOf at h
    split at h
    · next h0 =>
      rw [List.mem_singleton] at h
      subst h
      exact ⟨rfl, fun i => Nat.le_refl _, h0.symm⟩
    · cases h
  | l :: ls, s, r, h => by
    have h' : r ∈ List.flatMap (fun n => (rowsOf ls (s - n)).map (n :: ·)) (List.range (min s l + 1)) := h
    rw [List.mem_flatMap] at h'
    obtain ⟨n, hn, hr⟩ := h'
    rw [List.mem_range] at hn
    rw [List.mem_map] at hr
    obtain ⟨q, hq, rfl⟩ := hr
    obtain ⟨h1, h2, h3⟩ := mem_rowsOf ls _ q hq
    refine ⟨by simp [h1], fun i => ?_, by simp [h3]; omega⟩
    cases i with
    | zero => simp; omega
    | succ i => simpa using h2 i
/-- what is left of limits behind a row -/
def subTo (lim row : List Nat) (k : Nat) : List Nat := (List.range lim.length).map fun q => if q < k then lim[q]! - row[q]! else lim[q]!
def subL (lim row : List Nat) : List Nat := (List.range lim.length).map fun q => lim[q]! - row[q]!
theorem subTo_zero (lim row : List Nat) : subTo lim row 0 = lim := by
  refine List.ext_getElem (by simp [subTo]) fun i h1 h2 => ?_
  simp [subTo, h2]
theorem subTo_end (lim row : List Nat) : subTo lim row lim.length = subL lim row := by
  unfold subTo subL
  refine List.map_congr_left fun q hq => ?_
  rw [if_pos (List.mem_range.1 hq)]
theorem subTo_len (lim row : List Nat) (k : Nat) : (subTo lim row k).length = lim.length := by simp [subTo]
theorem subTo_set (lim row : List Nat) {k : Nat} (h : k < lim.length) : (subTo lim row k).set k (lim[k]! - row[k]!) = subTo lim row (k + 1) := by
  refine List.ext_getElem (by simp [subTo]) fun i h1 h2 => ?_
  rw [List.getElem_set]
  simp only [subTo, List.getElem_map, List.getElem_range]
  by_cases e : k = i
  · subst e
    rw [if_pos rfl, if_pos (by omega)]
  · rw [if_neg e]
    by_cases e2 : i < k
    · rw [if_pos e2, if_pos (by omega)]
    · rw [if_neg e2, if_neg (by omega)]
theorem subTo_at (lim row : List Nat) {k : Nat} (h : k < lim.length) : (subTo lim row k)[k]'(by rw [subTo_len]; exact h) = lim[k]! := by simp [subTo]
theorem subL_len (lim row : List Nat) : (subL lim row).length = lim.length := by simp [subL]
theorem subL_at (lim row : List Nat) {i : Nat} (h : i < lim.length) : (subL lim row)[i]! = lim[i]! - row[i]! := by
  rw [getElem!_pos _ i (by rw [subL_len]; exact h)]
  simp [subL]
/-- all tables with these rows' sums, under limits -/
def tabs : List Nat → List Nat → List (List Nat)
  | [], lim => if lim.sum = 0 then [[]] else []
  | r :: rs, lim => (rowsOf lim r).flatMap fun row => (tabs rs (subL lim row)).map (row ++ ·)
theorem goTabs {τ : Type} (nx : τ → List Nat → τ) (cnt : List Nat) (r : Nat) (rs lim : List Nat) (y : τ) : goRows nx cnt (tabs (r :: rs) lim) y = goRows (fun y row => goRows nx (cnt ++ row) (tabs rs (subL lim row)) y) [] (rowsOf lim r) y := by
  unfold goRows
  show List.foldl _ y (List.flatMap _ (rowsOf lim r)) = _
  generalize rowsOf lim r = rows
  induction rows generalizing y with
  | nil => rfl
  | cons row rows ih =>
    rw [List.flatMap_cons, List.foldl_append, List.foldl_cons, ih, List.foldl_map]
    simp
theorem own_setN {W : World} {g n c : Nat} {e : TypeId} {l : List Nat} (h : W.ownsRow 0 e 1 (.slice (some ⟨g, 0, none⟩) n c) n (nlv l)) (i x : Nat) : (W.setCell ⟨g, i, none⟩ (.int .i64 (x : Nat))).ownsRow 0 e 1 (.slice (some ⟨g, 0, none⟩) n c) n (nlv (l.set i x)) := by
  refine ⟨by have := h.1; simpa [nlv] using this, ?_⟩
  rcases h.2 with ⟨hv, hz⟩ | ⟨g', cap, cur, hv, hg, hh, h2, h3, h4, h5⟩
  · cases hv
  · cases hv
    refine .inr ⟨g, c, cur.setIfInBounds i (.int .i64 (x : Nat)), rfl, hg, ?_, h2, h3, by simpa using h4, ?_⟩
    · unfold World.setCell
      dsimp only
      rw [Array.getElem?_modify, if_pos rfl, hh]
      rfl
    · rw [Array.toList_setIfInBounds, List.take_set, h5]
      unfold nlv
      rw [List.map_set]
set_option maxRecDepth 100000 in
set_option maxHeartbeats 1600000 in
theorem cloneN_any (b o : Nat) (l : List Nat) (c : Nat) (w : World) (hx : l.length ≤ 1048576) (h1 : 1 ≤ l.length) (hb : b < w.heap.size) (hc : ∀ i, i < l.length → w.cell? ⟨b, o + i, none⟩ = some (.int .i64 (l[i]! : Nat))) :
    Calls Try.prog 43 #[.slice (some ⟨b, o, none⟩) l.length c] w (fun e w' => ∃ g c', e = .returned (.slice (some ⟨g, 0, none⟩) l.length c') ∧ w.heap.size ≤ g ∧ w'.ownsRow 0 2 1 (.slice (some ⟨g, 0, none⟩) l.length c') l.length (nlv l) ∧ Below w.heap.size w w') := by
  obtain ⟨i0, hi0, hz0, hz1, hz2⟩ := info_parts info_i64
  have HC : Hid (∀ j u, (nlv l)[j]? = some u → (w.alloc (.cells #[] 2)).cell? ((⟨b, o, none⟩ : Addr).add j) = some u) := Lib.hid fun j u hj => by
    obtain ⟨hlt, rfl⟩ := List.getElem?_eq_some_iff.1 hj
    rw [nlv_len] at hlt
    rw [show ((⟨b, o, none⟩ : Addr).add j) = ⟨b, o + j, none⟩ by unfold Addr.add; split <;> simp_all]
    refine (World.cell?_alloc_lt w _ ⟨b, o + j, none⟩ hb).trans ((hc j hlt).trans ?_)
    rw [getElem!_pos l j hlt]
    simp [nlv]
  have HL : Hid ((nlv l).length = l.length * 1) := Lib.hid (by rw [nlv_len, Nat.mul_one])
  have H1 : Hid (∀ u ∈ nlv l, u.oneCell' = true) := Lib.hid fun u hu => by
    unfold nlv at hu
    rw [List.mem_map] at hu
    obtain ⟨x, -, rfl⟩ := hu
    rfl
  have HO : Hid ((w.alloc (.cells #[] 2)).ownsRow w.heap.size 2 1 (.slice (some ⟨w.heap.size, 0, none⟩) 0 0) 0 []) := Lib.hid (World.ownsRow_made w #[] 0 (base := w.heap.size) (e := 2) (size := 1) (Nat.le_refl _) (by unfold maxLen; omega) rfl)
  have HNI := fun w => Lib.run_eql_slice_nil (P := Try.prog) w 24 2 (some ⟨b, o, none⟩) l.length c 0 0 Try.underlying24
  clear hc
  go_enter Try.func43, Try.ntmps43
  go_wp2_with (refine wpList_append_lies _ rfl _ _ _ rfl w.heap.size 2 i0 _ 1 8 Try.underlying24 hi0 hz0 hz1 hz2 rfl (by omega) (.slice (some ⟨w.heap.size, 0, none⟩) 0 0) 0 [] (by rfl) HO.out ⟨b, o, none⟩ l.length c (nlv l) (by rfl) HL.out HC.out H1.out (by omega) (by unfold maxLen; omega) (by omega) (by simp) (w.heap.size + 1) (by simp) ?_; intro g cap w3 hown3 hgrow hat hlt3; have HX : Hid (Below w.heap.size w w3) := Lib.hid ((below_al (Below.refl _ _) _).grown hgrow (by simp) (fun j hj => by (have hj' : some w.heap.size = some j := hj); injection hj' with hj'; omega)); clear hgrow hat hlt3)
  go_ret
  rw [Nat.zero_add, List.nil_append] at hown3
  refine ⟨g, cap, rfl, ?_, own_base hown3 (Nat.zero_le _), HX.out⟩
  rcases hown3.2 with ⟨hv, -⟩ | ⟨g', cap', cur, hv, hg, -⟩
  · cases hv
  · cases hv
    exact hg
/-- a row is put behind what is counted -/
theorem ES.pushL {σ : Type} {V : σ → List Nat → World → Prop} {B0 bR : Nat} {x : σ} {gs : List Nat} {g c : Nat} {pre row : List Nat} {W w9 : World} {g9 cap : Nat} (h : ES V B0 bR x gs g c pre W) (hF : VF V B0) (hB : B0 ≤ W.heap.size)
    (hown : w9.ownsRow 0 2 1 (.slice (some ⟨g9, 0, none⟩) (pre.length + row.length) cap) (pre.length + row.length) (nlv pre ++ nlv row)) (hg : W.grownBy w9 (some g)) (hat : g9 = g ∨ g9 = W.heap.size) :
    ES V B0 bR x gs g9 cap (pre ++ row) (w9.setCell ⟨bR, 0, none⟩ (.slice (some ⟨g9, 0, none⟩) (pre.length + row.length) cap)) ∧ Kp [bR, g] W (w9.setCell ⟨bR, 0, none⟩ (.slice (some ⟨g9, 0, none⟩) (pre.length + row.length) cap)) := by
  have hb := lt_of_cell h.bc
  have hgl := own_ltg h.o
  have hbR : bR < W.heap.size := hb
  have hk9 : Kp [g] W w9 := (Kp.refl [g] W).grown hg (fun j e => by cases e; exact .inl (by simp))
  have hlen : (pre ++ row).length = pre.length + row.length := by simp
  have hk8 : Kp [bR, g] W (w9.setCell ⟨bR, 0, none⟩ (.slice (some ⟨g9, 0, none⟩) (pre.length + row.length) cap)) := (⟨hk9.os, hk9.tape, hk9.output, hk9.size, fun b hb hn => hk9.block b hb (by simp at hn ⊢; exact hn.2)⟩ : Kp [bR, g] W w9).set bR 0 _ (.inl (by simp))
  have hc9 : w9.cell? ⟨bR, 0, none⟩ = some (.slice (some ⟨g, 0, none⟩) pre.length c) := hk9.cell h.bc (by simp; exact h.d3)
  have hne : bR ≠ g9 := by
    rcases hat with e | e
    · rw [e]; exact h.d3
    · omega
  refine ⟨⟨hF _ _ _ _ h.v hk8.size (fun b hl hor => hk8.block b hl ?_), ?_, ?_, ?_, fun b hm => Nat.lt_of_lt_of_le (h.lt b hm) hk8.size, h.d1, ?_, hne, h.l1, ?_⟩, hk8⟩
  · intro hm
    simp at hm
    rcases hor with h1 | h1
    · rcases hm with rfl | rfl
      · exact h.d1 h1
      · exact h.d2 h1
    · have := h.l1
      have := h.l2
      omega
  · rw [hlen]
    exact World.cell?_setCell_same' _ _ _ (by rw [hc9]; rfl)
  · rw [World.frozen?_setCell]
    exact (hk9.frozen hb (by simp; exact h.d3)).trans h.f
  · rw [hlen, show nlv (pre ++ row) = nlv pre ++ nlv row by simp [nlv]]
    exact own_block hown (Below.heap_setCell _ _ _ _ (fun e => hne e.symm))
  · rcases hat with e | e
    · rw [e]; exact h.d2
    · intro hm
      have := h.lt _ hm
      omega
  · have := h.l2
    rcases hat with e | e <;> omega
theorem ES.popL {σ : Type} {V : σ → List Nat → World → Prop} {B0 bR : Nat} {x : σ} {gs : List Nat} {g c : Nat} {pre row : List Nat} {W : World} (h : ES V B0 bR x gs g c (pre ++ row) W) (hF : VF V B0) :
    ES V B0 bR x gs g c pre (W.setCell ⟨bR, 0, none⟩ (.slice (some ⟨g, 0, none⟩) pre.length c)) ∧ Kp [bR] W (W.setCell ⟨bR, 0, none⟩ (.slice (some ⟨g, 0, none⟩) pre.length c)) := by
  have hb : bR < W.heap.size := lt_of_cell h.bc
  have hk : Kp [bR] W (W.setCell ⟨bR, 0, none⟩ (.slice (some ⟨g, 0, none⟩) pre.length c)) := (Kp.refl _ W).set bR 0 _ (.inl (by simp))
  have ho := own_cut h.o (k := pre.length) (by simp)
  have htk : (nlv (pre ++ row)).take pre.length = nlv pre := by
    rw [show nlv (pre ++ row) = nlv pre ++ nlv row by simp [nlv], List.take_append_of_le_length (by rw [nlv_len]; omega), List.take_of_length_le (by rw [nlv_len]; omega)]
  rw [htk] at ho
  refine ⟨⟨hF _ _ _ _ h.v hk.size (fun b hl hor => hk.block b hl ?_), World.cell?_setCell_same' _ _ _ (by rw [h.bc]; rfl), by rw [World.frozen?_setCell]; exact h.f, own_block ho (Below.heap_setCell _ _ _ _ (fun e => h.d3 e.symm)), fun b hm => Nat.lt_of_lt_of_le (h.lt b hm) hk.size, h.d1, h.d2, h.d3, h.l1, h.l2⟩, hk⟩
  intro hm
  simp at hm
  subst hm
  rcases hor with h1 | h1
  · exact h.d1 h1
  · have := h.l1
    omega
end Go.Proofs.Ytbpigeipjeegiaa

