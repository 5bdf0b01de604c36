/-
  Rows of records: the copy (toRecordS); an argument opened.
-/
import Derived.Test.YtckdbnnkabgopaaDoorRq4
namespace Go.Proofs.YtckdbnnkabgopaaDoor
open Go Go.RowKit Go.ChangeShapes Go.WideShapes Go.ChangeAt Go.Joins

theorem info_rec : (Tryd.prog.info? 34).map (fun i => (i.zero, i.size)) = some (some (.agg #[.string ⟨#[]⟩, .int .i64 0, .int .u64 0, .int .u64 0, .slice none 0 0]), 5) := by kernel_rfl
theorem rec_bytes : ((Tryd.prog.info? 34).map (fun i => decide (i.bytes ≤ 1024))) = some true := by kernel_rfl
theorem make_recs (n : Nat) (hn : n ≤ 1048576) (w : World) : (Instr.makeSlice 24 (.int .i64 (n : Int)) (.int .i64 (n : Int))).run Tryd.prog w = .ok (.slice (some ⟨w.heap.size, 0, none⟩) n n) (w.alloc (.cells (madeCells #[.string ⟨#[]⟩, .int .i64 0, .int .u64 0, .int .u64 0, .slice none 0 0] (n * 5)) 34)) := by
  obtain ⟨i, hi, hzz⟩ := Option.map_eq_some_iff.1 info_rec
  simp only [Prod.mk.injEq] at hzz
  obtain ⟨hz, hs⟩ := hzz
  have hb := rec_bytes
  rw [hi] at hb
  have hb2 : i.bytes ≤ 1024 := by simpa using hb
  have hm : (i.bytes : Int) * (n : Int) ≤ 281474976710656 := by
    have h1 : i.bytes * n ≤ 1024 * 1048576 := Nat.mul_le_mul hb2 hn
    have h2 : ((i.bytes * n : Nat) : Int) ≤ 281474976710656 := by omega
    rwa [Int.natCast_mul] at h2
  have hr := run_make (P := Tryd.prog) w 24 34 i _ Tryd.underlying24 hi hz .i64 .i64 n n (by omega) (Int.le_refl _) hm (by omega)
  rw [hs, Int.toNat_natCast] at hr
  exact hr
/-- a made row of records: the first i are told -/
def TR (w : World) (g n i : Nat) (xs : List Rc) (wr : World) : Prop :=
  Below w.heap.size w wr ∧ w.heap.size ≤ g ∧ g < wr.heap.size ∧ (∀ q, q < n * 5 → (∃ v, wr.cell? ⟨g, q, none⟩ = some v) ∧ wr.frozen? ⟨g, q, none⟩ = false) ∧
    ∀ j (_ : j < i) (h : j < xs.length), ∃ A', RcO wr g (j * 5) xs[j].nm xs[j].k xs[j].a xs[j].b A' xs[j].ds.length xs[j].ds.length ∧ wr.ownsRow (g + 1) 2 1 (.slice A' xs[j].ds.length xs[j].ds.length) xs[j].ds.length (il xs[j].ds)
theorem TR.keep {w wr w' : World} {g n i : Nat} {xs : List Rc} (h : TR w g n i xs wr) (hb : Below wr.heap.size wr w') : TR w g n i xs w' := by
  obtain ⟨h1, h2, h3, h4, h5⟩ := h
  refine ⟨below_next h1 hb, h2, Nat.lt_of_lt_of_le h3 hb.size, fun q hq => ?_, fun j hj hx => ?_⟩
  · obtain ⟨⟨v, hv⟩, hf⟩ := h4 q hq
    exact ⟨⟨v, keepC hb hv⟩, (hb.frozen (p := ⟨g, q, none⟩) h3).trans hf⟩
  · obtain ⟨A', h6, h7⟩ := h5 j hj hx
    exact ⟨A', h6.keep hb, own_below h7 hb⟩
/-- five stores -/
def put5 (W : World) (g o : Nat) (v0 v1 v2 v3 v4 : Value) : World := ((((W.setCell ⟨g, o, none⟩ v0).setCell ⟨g, o + 1, none⟩ v1).setCell ⟨g, o + 2, none⟩ v2).setCell ⟨g, o + 3, none⟩ v3).setCell ⟨g, o + 4, none⟩ v4
theorem put5_other (W : World) (g o : Nat) (v0 v1 v2 v3 v4 : Value) (q : Nat) (h : q < o ∨ o + 4 < q) : (put5 W g o v0 v1 v2 v3 v4).cell? ⟨g, q, none⟩ = W.cell? ⟨g, q, none⟩ := by
  unfold put5
  have ne : ∀ t, t ≤ 4 → (⟨g, q, none⟩ : Addr) ≠ ⟨g, o + t, none⟩ := fun t ht e => by injection e with e1 e2; omega
  have ne' : ∀ t, t ≤ 4 → (⟨g, o + t, none⟩ : Addr) ≠ ⟨g, q, none⟩ := fun t ht e => by injection e with e1 e2; omega
  rw [World.cell?_setCell_other _ _ _ _ (by first | exact ne 4 (by omega) | exact ne' 4 (by omega)), World.cell?_setCell_other _ _ _ _ (by first | exact ne 3 (by omega) | exact ne' 3 (by omega)), World.cell?_setCell_other _ _ _ _ (by first | exact ne 2 (by omega) | exact ne' 2 (by omega)), World.cell?_setCell_other _ _ _ _ (by first | exact ne 1 (by omega) | exact ne' 1 (by omega)), World.cell?_setCell_other _ _ _ _ (by first | exact ne 0 (by omega) | exact ne' 0 (by omega))]
theorem put5_frozen (W : World) (g o : Nat) (v0 v1 v2 v3 v4 : Value) (a : Addr) : (put5 W g o v0 v1 v2 v3 v4).frozen? a = W.frozen? a := by
  unfold put5
  simp only [World.frozen?_setCell]
theorem put5_size (W : World) (g o : Nat) (v0 v1 v2 v3 v4 : Value) : (put5 W g o v0 v1 v2 v3 v4).heap.size = W.heap.size := by simp [put5, World.setCell]
theorem put5_below {w W : World} (h : Below w.heap.size w W) (g o : Nat) (v0 v1 v2 v3 v4 : Value) (hg : w.heap.size ≤ g) : Below w.heap.size w (put5 W g o v0 v1 v2 v3 v4) := by
  unfold put5
  exact below_set (below_set (below_set (below_set (below_set h _ _ hg) _ _ hg) _ _ hg) _ _ hg) _ _ hg
theorem put5_own {W : World} {g o base n : Nat} {v v0 v1 v2 v3 v4 : Value} {vs : List Value} (h : W.ownsRow base 2 1 v n vs) (hg : g < base) : (put5 W g o v0 v1 v2 v3 v4).ownsRow base 2 1 v n vs := by
  unfold put5
  exact ownsRow_setCell_below (ownsRow_setCell_below (ownsRow_setCell_below (ownsRow_setCell_below (ownsRow_setCell_below h hg _) hg _) hg _) hg _) hg _
theorem put5_at {W : World} {g o : Nat} {e0 e1 e2 e3 e4 : Value} (v0 v1 v2 v3 v4 : Value) (h0 : W.cell? ⟨g, o, none⟩ = some e0) (h1 : W.cell? ⟨g, o + 1, none⟩ = some e1) (h2 : W.cell? ⟨g, o + 2, none⟩ = some e2) (h3 : W.cell? ⟨g, o + 3, none⟩ = some e3) (h4 : W.cell? ⟨g, o + 4, none⟩ = some e4) :
    (put5 W g o v0 v1 v2 v3 v4).cell? ⟨g, o, none⟩ = some v0 ∧ (put5 W g o v0 v1 v2 v3 v4).cell? ⟨g, o + 1, none⟩ = some v1 ∧ (put5 W g o v0 v1 v2 v3 v4).cell? ⟨g, o + 2, none⟩ = some v2 ∧ (put5 W g o v0 v1 v2 v3 v4).cell? ⟨g, o + 3, none⟩ = some v3 ∧ (put5 W g o v0 v1 v2 v3 v4).cell? ⟨g, o + 4, none⟩ = some v4 := by
  unfold put5
  simp [go_sem, h0, h1, h2, h3, h4]
theorem TR.put {w wr : World} {g n i : Nat} {xs : List Rc} {A' : Option Addr} (h : TR w g n i xs wr) (hi : i < xs.length) (hn : i < n)
    (ho : wr.ownsRow (g + 1) 2 1 (.slice A' xs[i].ds.length xs[i].ds.length) xs[i].ds.length (il xs[i].ds)) :
    TR w g n (i + 1) xs (put5 wr g (i * 5) (.string xs[i].nm) (.int .i64 xs[i].k) (.int .u64 xs[i].a) (.int .u64 xs[i].b) (.slice A' xs[i].ds.length xs[i].ds.length)) := by
  obtain ⟨h1, h2, h3, h4, h5⟩ := h
  obtain ⟨⟨e0, c0⟩, _⟩ := h4 (i * 5) (by omega)
  obtain ⟨⟨e1, c1⟩, _⟩ := h4 (i * 5 + 1) (by omega)
  obtain ⟨⟨e2, c2⟩, _⟩ := h4 (i * 5 + 2) (by omega)
  obtain ⟨⟨e3, c3⟩, _⟩ := h4 (i * 5 + 3) (by omega)
  obtain ⟨⟨e4, c4⟩, _⟩ := h4 (i * 5 + 4) (by omega)
  have hat := put5_at (.string xs[i].nm) (.int .i64 xs[i].k) (.int .u64 xs[i].a) (.int .u64 xs[i].b) (.slice A' xs[i].ds.length xs[i].ds.length) c0 c1 c2 c3 c4
  refine ⟨put5_below h1 _ _ _ _ _ _ _ h2, h2, by rw [put5_size]; exact h3, fun q hq => ⟨?_, by rw [put5_frozen]; exact (h4 q hq).2⟩, fun j hj hx => ?_⟩
  · by_cases hin : q < i * 5 ∨ i * 5 + 4 < q
    · rw [put5_other _ _ _ _ _ _ _ _ _ hin]; exact (h4 q hq).1
    · have : q = i * 5 ∨ q = i * 5 + 1 ∨ q = i * 5 + 2 ∨ q = i * 5 + 3 ∨ q = i * 5 + 4 := by omega
      rcases this with rfl | rfl | rfl | rfl | rfl
      · exact ⟨_, hat.1⟩
      · exact ⟨_, hat.2.1⟩
      · exact ⟨_, hat.2.2.1⟩
      · exact ⟨_, hat.2.2.2.1⟩
      · exact ⟨_, hat.2.2.2.2⟩
  · by_cases e : j = i
    · subst e
      exact ⟨A', hat, put5_own ho (by omega)⟩
    · obtain ⟨A2, ⟨b0, b1, b2, b3, b4⟩, h7⟩ := h5 j (by omega) hx
      refine ⟨A2, ⟨?_, ?_, ?_, ?_, ?_⟩, put5_own h7 (by omega)⟩
      · rw [put5_other _ _ _ _ _ _ _ _ _ (by omega)]; exact b0
      · rw [put5_other _ _ _ _ _ _ _ _ _ (by omega)]; exact b1
      · rw [put5_other _ _ _ _ _ _ _ _ _ (by omega)]; exact b2
      · rw [put5_other _ _ _ _ _ _ _ _ _ (by omega)]; exact b3
      · rw [put5_other _ _ _ _ _ _ _ _ _ (by omega)]; exact b4
theorem TR.row {w wr : World} {g : Nat} {xs : List Rc} (h : TR w g xs.length xs.length xs wr) : RRow wr wr.heap.size (some ⟨g, 0, none⟩) xs := fun _ => by
  obtain ⟨h1, h2, h3, h4, h5⟩ := h
  refine ⟨g, 0, rfl, h3, fun i hi => ?_⟩
  obtain ⟨A', h6, h7⟩ := h5 i hi hi
  exact ⟨A', _, by rw [Nat.zero_add]; exact h6, Rd.of_own h7⟩
theorem TR.start (w : World) (n : Nat) (xs : List Rc) : TR w w.heap.size n 0 xs (w.alloc (.cells (madeCells #[.string ⟨#[]⟩, .int .i64 0, .int .u64 0, .int .u64 0, .slice none 0 0] (n * 5)) 34)) := by
  refine ⟨below_al (Below.refl _ _) _, Nat.le_refl _, by simp, fun q hq => ⟨?_, by simp [go_sem]⟩, fun j hj => by omega⟩
  rw [World.cell?_alloc_mark, Array.getElem?_eq_getElem (by rw [size_madeCells]; exact hq)]
  exact ⟨_, rfl⟩
end Go.Proofs.YtckdbnnkabgopaaDoor

