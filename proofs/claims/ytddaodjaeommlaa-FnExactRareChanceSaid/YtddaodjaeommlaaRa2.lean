/-
  impl.rareChance.
-/
import Derived.Test.YtddaodjaeommlaaRa1
import Derived.Test.YtddaodjaeommlaaWk1
import Derived.Test.YtddaodjaeommlaaPd3
import Derived.Deep.RegionLaw
import Derived.Deep.DeepCutAuto
namespace Go.Proofs.Ytddaodjaeommlaa
open Go Go.RowKit Ieee

/-- one more walk: the number of shares that are taken, and the states that are come to -/
def stepC (xs : List Nat) (n : Nat) (k a b : Int) (lv i : Nat) (s : Nat × List Nat) : Nat × List Nat :=
  (s.1 + reachM xs n k a b lv s.1 i, if lv ≤ pR xs n k a b s.1 i (reachM xs n k a b lv s.1 i) then s.2 ++ [pR xs n k a b s.1 i (reachM xs n k a b lv s.1 i)] else s.2)
theorem stepC_ok {xs : List Nat} {n : Nat} {k a b : Int} {lv i : Nat} {s : Nat × List Nat} (hl : xs.length = n * n) (hi : i < n) (h : ∀ q ∈ s.2, q < n) : (∀ q ∈ (stepC xs n k a b lv i s).2, q < n) ∧ (stepC xs n k a b lv i s).2.length ≤ s.2.length + 1 := by
  have e : (stepC xs n k a b lv i s).2 = if lv ≤ pR xs n k a b s.1 i (reachM xs n k a b lv s.1 i) then s.2 ++ [pR xs n k a b s.1 i (reachM xs n k a b lv s.1 i)] else s.2 := rfl
  rw [e]
  split
  · refine ⟨fun q hq => ?_, by simp⟩
    rcases List.mem_append.1 hq with h' | h'
    · exact h q h'
    · rw [List.mem_singleton] at h'
      rw [h']
      exact pR_lt hl hi _
  · exact ⟨h, by omega⟩
/-- walks of one level -/
def cwT (xs : List Nat) (n : Nat) (k a b : Int) (lv : Nat) (st : List Nat) (T0 : Nat) : Nat → Nat × List Nat
  | 0 => (T0, [])
  | t + 1 => stepC xs n k a b lv (st.getD (t % st.length) 0) (cwT xs n k a b lv st T0 t)
theorem start_lt {st : List Nat} {n t : Nat} (hst : ∀ q ∈ st, q < n) (h0 : st ≠ []) : st.getD (t % st.length) 0 < n ∧ t % st.length < st.length := by
  have hm := Nat.mod_lt t (List.length_pos_iff.2 h0)
  rw [List.getD_eq_getElem?_getD, List.getElem?_eq_getElem hm]
  exact ⟨hst _ (List.getElem_mem hm), hm⟩
theorem cwT_ok {xs : List Nat} {n : Nat} {k a b : Int} {lv : Nat} {st : List Nat} {T0 : Nat} (hl : xs.length = n * n) (hst : ∀ q ∈ st, q < n) (h0 : st ≠ []) : ∀ t, (∀ q ∈ (cwT xs n k a b lv st T0 t).2, q < n) ∧ (cwT xs n k a b lv st T0 t).2.length ≤ t := by
  intro t
  induction t with
  | zero => exact ⟨(fun q hq => by cases hq), Nat.le_refl _⟩
  | succ t ih =>
    obtain ⟨h1, h2⟩ := stepC_ok (k := k) (a := a) (b := b) (lv := lv) hl (start_lt (t := t) hst h0).1 ih.1
    exact ⟨h1, Nat.le_trans h2 (by have := ih.2; omega)⟩
/-- levels: the number of shares, the states to begin with, the chance so far -/
def rareT (xs : List Nat) (n : Nat) (k a b : Int) (i : Nat) (lvs : List Nat) (W : Nat) : Nat → Nat × (List Nat × Nat)
  | 0 => (0, [i], 1065353216)
  | j + 1 => ((cwT xs n k a b (lvs.getD j 0) (rareT xs n k a b i lvs W j).2.1 (rareT xs n k a b i lvs W j).1 W).1, (cwT xs n k a b (lvs.getD j 0) (rareT xs n k a b i lvs W j).2.1 (rareT xs n k a b i lvs W j).1 W).2,
      chanceN (rareT xs n k a b i lvs W j).2.2 (cwT xs n k a b (lvs.getD j 0) (rareT xs n k a b i lvs W j).2.1 (rareT xs n k a b i lvs W j).1 W).2.length W)
theorem rareT_ok {xs : List Nat} {n : Nat} {k a b : Int} {i : Nat} {lvs : List Nat} {W : Nat} (hl : xs.length = n * n) (hi : i < n) (h1 : 1 ≤ W) (hW : W ≤ 64) : ∀ j, (∀ q, q < j → (rareT xs n k a b i lvs W (q + 1)).2.1 ≠ []) →
    (∀ q ∈ (rareT xs n k a b i lvs W j).2.1, q < n) ∧ (rareT xs n k a b i lvs W j).2.1 ≠ [] ∧ (rareT xs n k a b i lvs W j).2.1.length ≤ 64 ∧ unitP (rareT xs n k a b i lvs W j).2.2 := by
  intro j
  induction j with
  | zero => exact fun _ => ⟨fun q hq => by rw [List.mem_singleton.1 hq]; exact hi, by simp [rareT], by simp [rareT], unit_one⟩
  | succ j ih =>
    intro hne
    obtain ⟨i1, i2, i3, i4⟩ := ih fun q hq => hne q (by omega)
    obtain ⟨c1, c2⟩ := cwT_ok (k := k) (a := a) (b := b) (lv := lvs.getD j 0) (T0 := (rareT xs n k a b i lvs W j).1) hl i1 i2 W
    exact ⟨c1, hne j (by omega), Nat.le_trans c2 hW, (chance_runs i4 c2 h1 (by omega)).2.2.1⟩
def rareE (xs : List Nat) (n : Nat) (k a b : Int) (i : Nat) (lvs : List Nat) (W : Nat) : Nat := match (List.range lvs.length).find? fun j => (rareT xs n k a b i lvs W (j + 1)).2.1.isEmpty with | some j => j + 1 | none => lvs.length
theorem rareE_some {xs : List Nat} {n : Nat} {k a b : Int} {i : Nat} {lvs : List Nat} {W j : Nat} (hj : j < lvs.length) (h0 : ∀ q, q < j → (rareT xs n k a b i lvs W (q + 1)).2.1 ≠ []) (h1 : (rareT xs n k a b i lvs W (j + 1)).2.1 = []) : rareE xs n k a b i lvs W = j + 1 := by
  have : (List.range lvs.length).find? (fun j => (rareT xs n k a b i lvs W (j + 1)).2.1.isEmpty) = some j := by
    rw [List.find?_range_eq_some]
    refine ⟨by rw [h1]; rfl, List.mem_range.2 hj, fun q hq => ?_⟩
    cases hr : (rareT xs n k a b i lvs W (q + 1)).2.1 with
    | nil => exact absurd hr (h0 q hq)
    | cons x l => rfl
  unfold rareE
  rw [this]
theorem rareE_none {xs : List Nat} {n : Nat} {k a b : Int} {i : Nat} {lvs : List Nat} {W : Nat} (h0 : ∀ q, q < lvs.length → (rareT xs n k a b i lvs W (q + 1)).2.1 ≠ []) : rareE xs n k a b i lvs W = lvs.length := by
  have : (List.range lvs.length).find? (fun j => (rareT xs n k a b i lvs W (j + 1)).2.1.isEmpty) = none := by
    rw [List.find?_eq_none]
    intro q hq
    cases hr : (rareT xs n k a b i lvs W (q + 1)).2.1 with
    | nil => exact absurd hr (h0 q (List.mem_range.1 hq))
    | cons x l => exact Bool.false_ne_true
  unfold rareE
  rw [this]
def raT (xs : List Nat) (n : Nat) (k a b : Int) (i : Nat) (lvs : List Nat) (W : Nat) : Nat := (rareT xs n k a b i lvs W (rareE xs n k a b i lvs W)).1
def raP (xs : List Nat) (n : Nat) (k a b : Int) (i : Nat) (lvs : List Nat) (W : Nat) : Nat := (rareT xs n k a b i lvs W (rareE xs n k a b i lvs W)).2.2
def raOut (xs : List Nat) (n : Nat) (k a b : Int) (i : Nat) (lvs : List Nat) (W : Nat) (w : World) (e : Ending) (w' : World) : Prop :=
  e = .returned (.tuple #[.agg #[.int .i64 k, .int .u64 (sdT k a b (raT xs n k a b i lvs W)).1, .int .u64 (sdT k a b (raT xs n k a b i lvs W)).2], .float .f32 (raP xs n k a b i lvs W)]) ∧ Below w.heap.size w w'
theorem ra_out {xs : List Nat} {n : Nat} {k a b a' b' : Int} {i : Nat} {lvs : List Nat} {W E T p : Nat} {w w' : World} (hE : rareE xs n k a b i lvs W = E) (hT : (rareT xs n k a b i lvs W E).1 = T) (hp : (rareT xs n k a b i lvs W E).2.2 = p) (hs : sdT k a b T = (a', b')) (hb : Below w.heap.size w w') : raOut xs n k a b i lvs W w (.returned (.tuple #[.agg #[.int .i64 k, .int .u64 a', .int .u64 b'], .float .f32 p])) w' := by
  unfold raOut raT raP
  rw [hE, hT, hp, hs]
  exact ⟨rfl, hb⟩
/-- naturals as integers as cells -/
def nl (ys : List Nat) : List Value := il (ys.map (fun y : Nat => (y : Int)))
theorem nl_at {w : World} {base g c : Nat} {ys : List Nat} {q : Nat} (h : w.ownsRow base 2 1 (.slice (some ⟨g, 0, none⟩) ys.length c) ys.length (nl ys)) (hq : q < ys.length) : w.cell? ⟨g, q, none⟩ = some (.int .i64 ((ys.getD q 0 : Nat) : Int)) := by
  rw [h.cellAt q (by omega)]
  unfold nl il
  rw [List.getElem?_map, List.getElem?_map, List.getElem?_eq_getElem hq, List.getD_eq_getElem?_getD, List.getElem?_eq_getElem hq]
  rfl
theorem nl_snoc (ys : List Nat) (y : Nat) : nl (ys ++ [y]) = nl ys ++ [.int .i64 (y : Int)] := by simp [nl, il]
theorem Rd.nlAt {w : World} {B : Nat} {A : Option Addr} {ys : List Nat} (h : Rd w B A (nl ys)) {q : Nat} (hq : q < ys.length) : ∃ b off, A = some ⟨b, off, none⟩ ∧ b < B ∧ w.cell? ⟨b, off + q, none⟩ = some (.int .i64 ((ys.getD q 0 : Nat) : Int)) := by
  unfold nl at h
  obtain ⟨b, off, e, hb, hc⟩ := h.ilAt (k := q) (by simpa using hq)
  refine ⟨b, off, e, hb, ?_⟩
  rw [hc, List.getElem_map, List.getD_eq_getElem?_getD, List.getElem?_eq_getElem hq]
  rfl

/-- walks of a level: H the heap's size when it began -/
def RC (w : World) (k a b : Int) (n : Nat) (A : Option Addr) (m c : Nat) (H : Nat) (S : Option Addr) (sc : Nat) (st : List Nat) (s : Nat × List Nat) (v : Value) (wr : World) : Prop :=
  Bx w.heap.size k (sdT k a b s.1).1 (sdT k a b s.1).2 n A m c wr ∧ Below w.heap.size w wr ∧ H ≤ wr.heap.size ∧ wr.ownsRow (w.heap.size + 3) 2 1 (.slice S st.length sc) st.length (nl st) ∧
    ∃ C cc, v = .slice C s.2.length cc ∧ wr.ownsRow H 2 1 (.slice C s.2.length cc) s.2.length (nl s.2)

set_option maxRecDepth 100000 in
set_option maxHeartbeats 6400000 in
theorem rareChance_any (k a b : Int) (n i W : Nat) (lvs : List Nat) (A : Option Addr) (xs : List Nat) (c : Nat) (B : Option Addr) (d : Nat) (w : World) (hk : kindB k) (hx : xs.length ≤ c) (hc : c ≤ 9223372036854775807) (hv : validB n xs = true) (hi : i < n) (hW1 : 1 ≤ W) (hW2 : W ≤ 64) (hL : lvs.length ≤ 8) (hlv : ∀ l ∈ lvs, l ≤ 64)
    (h : Rd w w.heap.size A (fl xs)) (h' : Rd w w.heap.size B (nl lvs)) :
    Calls Try.prog 142 #[.agg #[.int .i64 k, .int .u64 a, .int .u64 b], .agg #[.int .i64 n, .slice A xs.length c], .int .i64 i, .slice B lvs.length d, .int .i64 W] w (raOut xs n k a b i lvs W w) := by
  obtain ⟨n', hn', n1, n2, hl, hp, hrw⟩ := validB_facts hv
  obtain rfl : n = n' := by omega
  have HRC : Hid (∀ lv T j W', lv ≤ 64 → j < n → Below w.heap.size w W' → Calls Try.prog 163 #[.agg #[.int .i64 n, .slice A xs.length c], .agg #[.int .i64 k, .int .u64 (sdT k a b T).1, .int .u64 (sdT k a b T).2], .int .i64 (j : Nat), .int .i64 (lv : Nat)] W' (reachOut xs n k a b lv T j W')) := Lib.hid fun lv T j W' h1 h2 hW => reach_any k a b n j lv T A xs c W' hk hx hc hv h2 h1 (h.at_ hW)
  have HOK : Hid (∀ j, (∀ q, q < j → (rareT xs n k a b i lvs W (q + 1)).2.1 ≠ []) → (∀ q ∈ (rareT xs n k a b i lvs W j).2.1, q < n) ∧ (rareT xs n k a b i lvs W j).2.1 ≠ [] ∧ (rareT xs n k a b i lvs W j).2.1.length ≤ 64 ∧ unitP (rareT xs n k a b i lvs W j).2.2) := Lib.hid fun j hj => rareT_ok hl hi hW1 hW2 j hj
  have HCW : Hid (∀ lv st T0, (∀ q ∈ st, q < n) → st ≠ [] → ∀ t, (∀ q ∈ (cwT xs n k a b lv st T0 t).2, q < n) ∧ (cwT xs n k a b lv st T0 t).2.length ≤ t) := Lib.hid fun lv st T0 h1 h2 t => cwT_ok hl h1 h2 t
  have HLV : Hid (∀ j, j < lvs.length → lvs.getD j 0 ≤ 64) := Lib.hid fun j hj => by
    rw [List.getD_eq_getElem?_getD, List.getElem?_eq_getElem hj]
    exact hlv _ (List.getElem_mem hj)
  have H0 : Hid ((sdT k a b 0) = (a, b) ∧ rareT xs n k a b i lvs W 0 = (0, [i], 1065353216)) := Lib.hid ⟨rfl, rfl⟩
  have HES : Hid (∀ j, j < lvs.length → (∀ q, q < j → (rareT xs n k a b i lvs W (q + 1)).2.1 ≠ []) → (rareT xs n k a b i lvs W (j + 1)).2.1 = [] → rareE xs n k a b i lvs W = j + 1) := Lib.hid fun j h1 h2 h3 => rareE_some h1 h2 h3
  have HEN : Hid ((∀ q, q < lvs.length → (rareT xs n k a b i lvs W (q + 1)).2.1 ≠ []) → rareE xs n k a b i lvs W = lvs.length) := Lib.hid fun h1 => rareE_none h1
  have HRT : Hid (∀ j, rareT xs n k a b i lvs W (j + 1) = ((cwT xs n k a b (lvs.getD j 0) (rareT xs n k a b i lvs W j).2.1 (rareT xs n k a b i lvs W j).1 W).1, (cwT xs n k a b (lvs.getD j 0) (rareT xs n k a b i lvs W j).2.1 (rareT xs n k a b i lvs W j).1 W).2, chanceN (rareT xs n k a b i lvs W j).2.2 (cwT xs n k a b (lvs.getD j 0) (rareT xs n k a b i lvs W j).2.1 (rareT xs n k a b i lvs W j).1 W).2.length W)) := Lib.hid fun j => rfl
  obtain ⟨i0, hi0, hz0, hz1, hz2⟩ := info_parts info_i64
  have HRD := Lib.hid h'
  clear hn' hl hp hrw hx hc hv h h' hk hlv
  go_enter Try.func142, Try.ntmps142
  go_wp2_with fail
  generalize hW1 : World.alloc (World.alloc (World.alloc (World.alloc w _) _) _) _ = W1
  have hx1 : Bx w.heap.size k a b n A xs.length c W1 := by rw [← hW1]; simp [Bx, SdAt, go_sem]
  have hb1 : Below w.heap.size w W1 := by rw [← hW1]; exact below_al (below_al (below_al (below_al (Below.refl _ _) _) _) _) _
  have ho1 : W1.ownsRow (w.heap.size + 3) 2 1 (.slice (some ⟨w.heap.size + 1 + 1 + 1, 0, none⟩) 1 1) 1 (nl [i]) := by
    rw [← hW1]
    have := own_one (w := ((w.alloc (.cells #[.int .i64 k, .int .u64 a, .int .u64 b] 67)).alloc (.cells #[.int .i64 n, .slice A xs.length c] 30)).alloc (.cells #[.int .i64 0, .int .u64 0, .int .u64 0] 67)) (base := w.heap.size + 3) (e := 2) (x := .int .i64 i) (by simp)
    simpa [nl, il] using this
  have HX1 := Lib.hid hx1
  have HB1 := Lib.hid hb1
  have HO1 := Lib.hid ho1
  clear hW1 hx1 hb1 ho1
  go_loopw [12, 13, 23] (fun sv pv jv wr => ∃ j S sc, j ≤ lvs.length ∧ jv = .int .i64 (j : Nat) ∧ pv = .float .f32 (rareT xs n k a b i lvs W j).2.2 ∧ sv = .slice S (rareT xs n k a b i lvs W j).2.1.length sc ∧ wr.ownsRow (w.heap.size + 3) 2 1 (.slice S (rareT xs n k a b i lvs W j).2.1.length sc) (rareT xs n k a b i lvs W j).2.1.length (nl (rareT xs n k a b i lvs W j).2.1) ∧
      Bx w.heap.size k (sdT k a b (rareT xs n k a b i lvs W j).1).1 (sdT k a b (rareT xs n k a b i lvs W j).1).2 n A xs.length c wr ∧ Below w.heap.size w wr ∧ (∀ q, q < j → (rareT xs n k a b i lvs W (q + 1)).2.1 ≠ [])) (fun _ _ jv _ => lvs.length - (intOf jv).toNat)
  case atStart => exact ⟨0, _, _, Nat.zero_le _, rfl, by rw [H0.out.2], by rw [H0.out.2]; rfl, by rw [H0.out.2]; exact HO1.out, by rw [H0.out.2]; show Bx _ _ (sdT k a b 0).1 (sdT k a b 0).2 _ _ _ _ _; rw [H0.out.1]; exact HX1.out, HB1.out, (fun q hq => by omega)⟩
  case round =>
    obtain ⟨j, S, sc, hj, rfl, rfl, rfl, hown, hbx, hbw, hne⟩ := hrel
    rename World => wr
    obtain ⟨k1, k2, k3, k4⟩ := HOK.out j hne
    have HRTj := Lib.hid (HRT.out j)
    have HOKS := Lib.hid (HOK.out (j + 1))
    have HESj := Lib.hid (HES.out j)
    have HNE := Lib.hid hne
    by_cases hjl : j < lvs.length
    · generalize hr : rareT xs n k a b i lvs W j = r at *
      obtain ⟨T0, st, p⟩ := r
      have hlv := HLV.out j hjl
      obtain ⟨bb, off, rfl, hbb, hcl⟩ := (HRD.out.at_ hbw).nlAt hjl
      have HCWj := Lib.hid (HCW.out (lvs.getD j 0) st T0 k1 k2)
      generalize lvs.getD j 0 = lv at *
      have HX := Lib.hid hbx
      have HB := Lib.hid hbw
      have HO := Lib.hid hown
      have hlt := HX.out.lt
      have hst : 0 < st.length := List.length_pos_iff.2 k2
      obtain ⟨gS, rfl, hgS⟩ : ∃ g, S = some ⟨g, 0, none⟩ ∧ w.heap.size + 3 ≤ g := own_at hown hst
      have hgl := (hown.lt gS rfl).2
      have K1 := Lib.hid k1
      have K4 := Lib.hid k4
      clear hbx hbw hown hne hr k1 k2 k4
      dsimp only at *
      go_wp2_with fail
      have START : Hid (RC w k a b n A xs.length c wr.heap.size (some ⟨gS, 0, none⟩) sc st (cwT xs n k a b lv st T0 0) (.slice (some ⟨wr.heap.size, 0, none⟩) 0 0) (wr.alloc (.cells #[] 2))) := Lib.hid ⟨HX.out.keep (below_al (Below.refl _ _) _), below_al HB.out _, by simp, HO.out.alloc _, _, _, rfl, World.ownsRow_made wr #[] 0 (Nat.le_refl _) (by unfold maxLen; omega) rfl⟩
      go_loopw [16, 17, 18, 29] (fun v _ _ ix V => ∃ t : Nat, t ≤ W ∧ ix = .int .i64 t ∧ RC w k a b n A xs.length c wr.heap.size (some ⟨gS, 0, none⟩) sc st (cwT xs n k a b lv st T0 t) v V) (fun _ _ _ ix _ => W - (intOf ix).toNat)
      case atStart => exact ⟨0, Nat.zero_le _, rfl, START.out⟩
      case round =>
        obtain ⟨t, ht, rfl, hbx, hbw, hH, hoS, C, cc, rfl, hoC⟩ := hrel
        rename World => V
        obtain ⟨c1, c2⟩ := HCWj.out t
        have HCS : Hid (cwT xs n k a b lv st T0 (t + 1) = stepC xs n k a b lv (st.getD (t % st.length) 0) (cwT xs n k a b lv st T0 t)) := Lib.hid rfl
        by_cases htW : t < W
        · obtain ⟨hi', hq⟩ := start_lt (t := t) K1.out (List.length_pos_iff.1 hst)
          have hcS := nl_at hoS hq
          have hmod : ((t : Int)).tmod (st.length : Int) = ((t % st.length : Nat) : Int) := by
            rw [Int.tmod_eq_emod_of_nonneg (by omega)]
            rfl
          generalize hcw : cwT xs n k a b lv st T0 t = s at *
          obtain ⟨T, came⟩ := s
          have HCS' := Lib.hid HCS.out
          have HRCt := Lib.hid (HRC.out lv T (st.getD (t % st.length) 0))
          generalize st.getD (t % st.length) 0 = i' at *
          generalize t % st.length = q at *
          have HX2 := Lib.hid hbx
          have HB2 := Lib.hid hbw
          have HS2 := Lib.hid hoS
          have HC2 := Lib.hid hoC
          have hl2 := HX2.out.lt
          have hsl : st.length ≤ 64 := k3
          have hnil : st ≠ [] := List.length_pos_iff.1 hst
          dsimp only at *
          obtain ⟨⟨s0, s1, s2, sf⟩, n0, n1', ⟨z0, z1, z2, zf⟩⟩ := hbx
          clear hbw hoS hoC c1 hcw HCS
          unfold reachOut at HRCt
          generalize hM : reachM xs n k a b lv T i' = M at *
          generalize hst' : sdT k a b (T + M) = st' at *
          obtain ⟨a', b'⟩ := st'
          have HST := Lib.hid hst'
          have HM := Lib.hid hM
          have HRE : Hid (reachE xs n k a b lv T i' = if lv ≤ pR xs n k a b T i' M then ((pR xs n k a b T i' M : Nat) : Int) else -1) := Lib.hid (reachE_is hM rfl)
          have hcase : (lv ≤ pR xs n k a b T i' M ∧ reachE xs n k a b lv T i' = ((pR xs n k a b T i' M : Nat) : Int)) ∨ (¬ lv ≤ pR xs n k a b T i' M ∧ reachE xs n k a b lv T i' = -1) := by
            by_cases hh : lv ≤ pR xs n k a b T i' M
            · exact .inl ⟨hh, HRE.out.trans (if_pos hh)⟩
            · exact .inr ⟨hh, HRE.out.trans (if_neg hh)⟩
          have HCT : Hid (cwT xs n k a b lv st T0 (t + 1) = (T + M, if lv ≤ pR xs n k a b T i' M then came ++ [pR xs n k a b T i' M] else came)) := Lib.hid (by
            rw [HCS'.out]
            unfold stepC
            rw [HM.out])
          clear HRE HCS'
          generalize pR xs n k a b T i' M = P at *
          generalize reachE xs n k a b lv T i' = rv at *
          clear hM hst'
          rcases hcase with ⟨hh, rfl⟩ | ⟨hh, rfl⟩
          · rw [if_pos hh] at HCT
            have hP0 : (0 : Int) ≤ (P : Int) := by omega
            go_wp2_with fail
            go_region_law (first
              | (go_simp; go_at_call 163; refine (HRCt.out _ hlv hi' (below_next HB2.out (by repeat (first | assumption | exact Below.refl _ _ | refine below_al ?_ _ | refine below_dr ?_ | refine below_dn ?_ _)))).mono ?_; rintro e wm ⟨rfl, hbm⟩; have hkm : Below V.heap.size V wm := below_next (by repeat (first | assumption | exact Below.refl _ _ | refine below_al ?_ _ | refine below_dr ?_ | refine below_dn ?_ _)) hbm; have HXm := Lib.hid (HX2.out.keep hkm); have HKm := Lib.hid hkm; obtain ⟨⟨u0, u1, u2, uf⟩, m0, m1, ⟨y0, y1, y2, yf⟩⟩ := HXm.out; clear hbm))
            all_goals
              have hX7 := HXm.out.set k a' b'
              have hB7 := below_set (below_set (below_set (below_next HB2.out HKm.out) ⟨w.heap.size, 0, none⟩ (.int .i64 k) (Nat.le_refl _)) ⟨w.heap.size, 1, none⟩ (.int .u64 a') (Nat.le_refl _)) ⟨w.heap.size, 2, none⟩ (.int .u64 b') (Nat.le_refl _)
              have hS7 := ownsRow_setCell_below (ownsRow_setCell_below (ownsRow_setCell_below (own_below HS2.out HKm.out) (a := ⟨w.heap.size, 0, none⟩) (show w.heap.size < w.heap.size + 3 by omega) (.int .i64 k)) (a := ⟨w.heap.size, 1, none⟩) (show w.heap.size < w.heap.size + 3 by omega) (.int .u64 a')) (a := ⟨w.heap.size, 2, none⟩) (show w.heap.size < w.heap.size + 3 by omega) (.int .u64 b')
              have hC7 := ownsRow_setCell_below (ownsRow_setCell_below (ownsRow_setCell_below (own_below HC2.out HKm.out) (a := ⟨w.heap.size, 0, none⟩) (show w.heap.size < wr.heap.size by omega) (.int .i64 k)) (a := ⟨w.heap.size, 1, none⟩) (show w.heap.size < wr.heap.size by omega) (.int .u64 a')) (a := ⟨w.heap.size, 2, none⟩) (show w.heap.size < wr.heap.size by omega) (.int .u64 b')
              have hz7 : V.heap.size ≤ wm.heap.size := HKm.out.size
              have hz8 : wm.heap.size ≤ (((wm.setCell ⟨w.heap.size, 0, none⟩ (.int .i64 k)).setCell ⟨w.heap.size, 1, none⟩ (.int .u64 a')).setCell ⟨w.heap.size, 2, none⟩ (.int .u64 b')).heap.size := by simp
              generalize World.setCell (World.setCell (World.setCell _ _ _) _ _) _ _ = W7 at hX7 hB7 hS7 hC7 hz8 ⊢
              have HX8 := Lib.hid hX7
              have HB8 := Lib.hid hB7
              have HS8 := Lib.hid hS7
              have HC8 := Lib.hid hC7
              have hl8 := HX8.out.lt
              clear hX7 hB7 hS7 hC7 s0 s1 s2 sf n0 n1' z0 z1 z2 zf HXm u0 u1 u2 uf m0 m1 y0 y1 y2 yf HX2 HB2 HS2 HC2 hl2
              go_wp2_with (refine wpList_append_lies _ rfl _ _ _ rfl wr.heap.size 2 i0 _ 1 8 Try.underlying56 hi0 hz0 hz1 hz2 rfl (by omega) (.slice C came.length cc) came.length (nl came) (by rfl) (HC8.out.alloc _) ⟨W7.heap.size, 0, none⟩ 1 1 [.int .i64 (P : Int)] (by rfl) (by rfl) (World.news_of_block (cs := #[.int .i64 (P : Int)]) (t := 2) (fr := (0, 0)) (heap_alloc_new W7 _)) (by simp [Value.oneCell']) (by omega) (by unfold maxLen; omega) (by omega) (by simp; omega) (W7.heap.size + 1) (by simp) ?_; intro g cap w9 hown9 hgrow hat hlt9; have HX9 := Lib.hid ((HX8.out.keep (below_al (Below.refl _ _) (.cells #[.int .i64 (P : Int)] 2))).grown hgrow (fun q hq => by have := (HC8.out.lt q hq).1; omega)); have HB9 := Lib.hid ((below_al HB8.out (.cells #[.int .i64 (P : Int)] 2)).grown hgrow (by have := HB8.out.size; simp; omega) (fun q hq => by have := (HC8.out.lt q hq).1; omega)); have HS9 := Lib.hid ((HS8.out.alloc (.cells #[.int .i64 (P : Int)] 2)).kept hgrow (.inr (fun e => by have := (HC8.out.lt gS e.symm).1; omega))); have HC9 := Lib.hid hown9; clear hown9 hgrow hat)
              go_roundw
              case rel =>
                refine ⟨t + 1, by omega, by first | go_num | rfl, ?_⟩
                rw [HCT.out]
                unfold RC
                dsimp only
                rw [HST.out]
                refine ⟨HX9.out, HB9.out, by have := (HC9.out.lt g rfl).1; omega, HS9.out, some ⟨g, 0, none⟩, cap, by simp, ?_⟩
                rw [nl_snoc]
                simpa using HC9.out
              case measure => simp [intOf]; omega
          · rw [if_neg hh] at HCT
            go_wp2_with fail
            go_region_law (first
              | (go_simp; go_at_call 163; refine (HRCt.out _ hlv hi' (below_next HB2.out (by repeat (first | assumption | exact Below.refl _ _ | refine below_al ?_ _ | refine below_dr ?_ | refine below_dn ?_ _)))).mono ?_; rintro e wm ⟨rfl, hbm⟩; have hkm : Below V.heap.size V wm := below_next (by repeat (first | assumption | exact Below.refl _ _ | refine below_al ?_ _ | refine below_dr ?_ | refine below_dn ?_ _)) hbm; have HXm := Lib.hid (HX2.out.keep hkm); have HKm := Lib.hid hkm; obtain ⟨⟨u0, u1, u2, uf⟩, m0, m1, ⟨y0, y1, y2, yf⟩⟩ := HXm.out; clear hbm))
            all_goals
              have hX7 := HXm.out.set k a' b'
              have hB7 := below_set (below_set (below_set (below_next HB2.out HKm.out) ⟨w.heap.size, 0, none⟩ (.int .i64 k) (Nat.le_refl _)) ⟨w.heap.size, 1, none⟩ (.int .u64 a') (Nat.le_refl _)) ⟨w.heap.size, 2, none⟩ (.int .u64 b') (Nat.le_refl _)
              have hS7 := ownsRow_setCell_below (ownsRow_setCell_below (ownsRow_setCell_below (own_below HS2.out HKm.out) (a := ⟨w.heap.size, 0, none⟩) (show w.heap.size < w.heap.size + 3 by omega) (.int .i64 k)) (a := ⟨w.heap.size, 1, none⟩) (show w.heap.size < w.heap.size + 3 by omega) (.int .u64 a')) (a := ⟨w.heap.size, 2, none⟩) (show w.heap.size < w.heap.size + 3 by omega) (.int .u64 b')
              have hC7 := ownsRow_setCell_below (ownsRow_setCell_below (ownsRow_setCell_below (own_below HC2.out HKm.out) (a := ⟨w.heap.size, 0, none⟩) (show w.heap.size < wr.heap.size by omega) (.int .i64 k)) (a := ⟨w.heap.size, 1, none⟩) (show w.heap.size < wr.heap.size by omega) (.int .u64 a')) (a := ⟨w.heap.size, 2, none⟩) (show w.heap.size < wr.heap.size by omega) (.int .u64 b')
              have hz7 : V.heap.size ≤ wm.heap.size := HKm.out.size
              have hz8 : wm.heap.size ≤ (((wm.setCell ⟨w.heap.size, 0, none⟩ (.int .i64 k)).setCell ⟨w.heap.size, 1, none⟩ (.int .u64 a')).setCell ⟨w.heap.size, 2, none⟩ (.int .u64 b')).heap.size := by simp
              generalize World.setCell (World.setCell (World.setCell _ _ _) _ _) _ _ = W7 at hX7 hB7 hS7 hC7 hz8 ⊢
              clear s0 s1 s2 sf n0 n1' z0 z1 z2 zf HXm u0 u1 u2 uf m0 m1 y0 y1 y2 yf HX2 HB2 HS2 HC2
              go_wp2_with fail
              go_roundw
              case rel =>
                refine ⟨t + 1, by omega, by first | go_num | rfl, ?_⟩
                rw [HCT.out]
                unfold RC
                dsimp only
                rw [HST.out]
                exact ⟨hX7, hB7, by omega, hS7, C, cc, rfl, hC7⟩
              case measure => simp [intOf]; omega
        · obtain rfl : t = W := by omega
          clear HCS HCWj c1
          generalize hcw : cwT xs n k a b lv st T0 t = s at *
          obtain ⟨T, came⟩ := s
          obtain ⟨r1, r2, r3, r4⟩ := chance_runs K4.out c2 hW1 (by omega)
          have HX2 := Lib.hid hbx
          have HB2 := Lib.hid hbw
          have HC2 := Lib.hid hoC
          have hl2 := HX2.out.lt
          dsimp only at *
          clear hbw hoS hoC hcw hbx
          generalize hst' : sdT k a b T = st' at *
          obtain ⟨a', b'⟩ := st'
          have HST := Lib.hid hst'
          clear hst'
          generalize hcame : came.length = l at *
          by_cases hl0 : l = 0
          · subst hl0
            obtain rfl : came = [] := List.length_eq_zero_iff.1 hcame
            have hE := HESj.out hjl HNE.out (by rw [HRTj.out])
            have hp0 := r4 rfl
            obtain ⟨⟨s0, s1, s2, sf⟩, n0, n1', ⟨z0, z1, z2, zf⟩⟩ := HX2.out
            clear r1 r2 r3 r4
            go_wp2_with fail
            have hX9 := (HX2.out.2.2.2).set k a' b'
            have hB9 := below_set (below_set (below_set HB2.out ⟨w.heap.size + 1 + 1, 0, none⟩ (.int .i64 k) (by simp; omega)) ⟨w.heap.size + 1 + 1, 1, none⟩ (.int .u64 a') (by simp; omega)) ⟨w.heap.size + 1 + 1, 2, none⟩ (.int .u64 b') (by simp; omega)
            generalize World.setCell (World.setCell (World.setCell _ _ _) _ _) _ _ = W9 at hX9 hB9 ⊢
            clear s0 s1 s2 sf n0 n1' z0 z1 z2 zf
            obtain ⟨y0, y1, y2, -⟩ := hX9
            refine bodyPost_ret (v := .tuple #[.agg #[.int .i64 k, .int .u64 a', .int .u64 b'], .float .f32 0]) (by simp [results, Try.results142, go_sem, y0, y1, y2]) rfl (ra_out hE (by rw [HRTj.out]) (by rw [HRTj.out]; exact hp0) HST.out hB9)
          · have hrun1 := fun w => run_float_arith (P := Try.prog) w .mul 33 .f32 _ _ _ r1
            have hrun2 := fun w => run_float_arith (P := Try.prog) w .quo 33 .f32 _ _ _ r2
            have hcn : ((l : Int) == 0) = false := by simp; omega
            have HNE2 : Hid (∀ q, q < j + 1 → (rareT xs n k a b i lvs t (q + 1)).2.1 ≠ []) := Lib.hid fun q hq => by
              rcases Nat.lt_or_ge q j with hl | hg
              · exact HNE.out q hl
              · obtain rfl : q = j := by omega
                rw [HRTj.out]
                exact fun e => hl0 (by rw [← hcame, show came = [] from e]; rfl)
            have HOWN := Lib.hid (own_base HC2.out (show w.heap.size + 3 ≤ wr.heap.size by omega))
            generalize chanceN p l t = p' at *
            generalize fmul p (rungN l 126) = pm at *
            clear r3 r4 HESj HOKS K4 K1 HO HX HB HC2
            go_wp2_with fail
            go_roundw
            case rel =>
              refine ⟨j + 1, C, cc, by omega, by first | go_num | rfl, ?_⟩
              rw [HRTj.out]
              dsimp only
              rw [HST.out, hcame]
              exact ⟨rfl, rfl, HOWN.out, HX2.out, HB2.out, HNE2.out⟩
            case measure => simp [intOf]; omega
    · obtain rfl : j = lvs.length := by omega
      have hE := HEN.out hne
      generalize hr : rareT xs n k a b i lvs W lvs.length = r at *
      obtain ⟨T0, st, p⟩ := r
      have HX := Lib.hid hbx
      have HB := Lib.hid hbw
      dsimp only at *
      clear hbw hown hbx hne HRTj HOKS HESj HNE k1 k2 k3 k4
      generalize hst' : sdT k a b T0 = st' at *
      obtain ⟨a', b'⟩ := st'
      have HST := Lib.hid hst'
      have HR := Lib.hid hr
      clear hst' hr
      have hlt := HX.out.lt
      obtain ⟨⟨s0, s1, s2, sf⟩, n0, n1', ⟨z0, z1, z2, zf⟩⟩ := HX.out
      go_wp2_with fail
      have hX9 := (HX.out.2.2.2).set k a' b'
      have hB9 := below_set (below_set (below_set HB.out ⟨w.heap.size + 1 + 1, 0, none⟩ (.int .i64 k) (by simp; omega)) ⟨w.heap.size + 1 + 1, 1, none⟩ (.int .u64 a') (by simp; omega)) ⟨w.heap.size + 1 + 1, 2, none⟩ (.int .u64 b') (by simp; omega)
      generalize World.setCell (World.setCell (World.setCell _ _ _) _ _) _ _ = W9 at hX9 hB9 ⊢
      clear s0 s1 s2 sf n0 n1' z0 z1 z2 zf
      obtain ⟨y0, y1, y2, -⟩ := hX9
      refine bodyPost_ret (v := .tuple #[.agg #[.int .i64 k, .int .u64 a', .int .u64 b'], .float .f32 p]) (by simp [results, Try.results142, go_sem, y0, y1, y2]) rfl (ra_out hE (by rw [HR.out]) (by rw [HR.out]) HST.out hB9)
end Go.Proofs.Ytddaodjaeommlaa
