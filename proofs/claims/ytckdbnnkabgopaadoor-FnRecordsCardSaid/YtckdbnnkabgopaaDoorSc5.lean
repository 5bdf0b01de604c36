/-
  Records that are drawn from a source (spec.B10Records): valid, and the caller's own.
-/
import Derived.Test.YtckdbnnkabgopaaDoorSc4
import Derived.Test.YtckdbnnkabgopaaDoorFr1
namespace Go.Proofs.YtckdbnnkabgopaaDoor
open Go Go.RowKit Go.Joins

theorem OR.snoc2 {W0 W1 W2 W3 : World} {base g0 g cap n c : Nat} {v : Value} {ts : List Rt} {r : Rc} {A : Option Addr} (h : OR W0 base v ts) (hbase : base ≤ W0.heap.size) (hg0 : g0 < base) (b1 : Mv W0.heap.size g0 W0 W1)
    (hnew : W1.ownsRow W0.heap.size 2 1 (.slice A r.ds.length c) r.ds.length (il r.ds)) (b2 : Below W1.heap.size W1 W2) (hg : W2.grownBy W3 v.ownBlock)
    (ho : W3.ownsRow base 34 5 (.slice (some ⟨g, 0, none⟩) n cap) (ts.length + 1) (rowC ts ++ Rt.cells (r, A, c))) (hat : v.ownBlock = some g ∨ g = W2.heap.size) :
    OR W3 base (.slice (some ⟨g, 0, none⟩) n cap) (ts ++ [(r, A, c)]) := by
  have s1 := b1.size
  have s2 := b2.size
  have hgb : (Value.slice (some ⟨g, 0, none⟩) n cap).ownBlock = some g := rfl
  have hv : ∀ j, v.ownBlock = some j → j < W0.heap.size := fun j hj => (h.1.lt j hj).2
  have old : ∀ t ∈ ts, ∀ j, t.row.ownBlock = some j → j < W0.heap.size := fun t ht j hj => ((h.2.1 t ht).1.lt j hj).2
  have new : ∀ j, (Rt.row (r, A, c)).ownBlock = some j → W0.heap.size ≤ j ∧ j < W1.heap.size := fun j hj => hnew.lt j hj
  have apart : ∀ {o : Option Nat} {q : Option Nat}, (∀ j, o = some j → q ≠ some j) → o = none ∨ o ≠ q := fun {o q} hh => by
    cases o with
    | none => exact .inl rfl
    | some j => exact .inr fun e => hh j rfl e.symm
  refine ⟨by rw [List.length_append, rowC_snoc]; exact ho, fun t ht => ?_, ?_⟩
  · rw [List.mem_append] at ht
    rcases ht with ht | ht
    · obtain ⟨h1, h2⟩ := h.2.1 t ht
      refine ⟨(own_below (b1.own h1 hg0) b2).kept hg h2, apart fun j hj => ?_⟩
      have hlt := old t ht j hj
      rw [hgb]
      intro e
      have e : g = j := Option.some.inj e
      rcases hat with hat | hat
      · rcases h2 with h2 | h2
        · rw [h2] at hj; cases hj
        · exact h2 (by rw [hj, hat, e])
      · omega
    · have ht : t = (r, A, c) := by simpa using ht
      subst ht
      refine ⟨(own_below (own_base hnew hbase) b2).kept hg (apart fun j hj e => ?_), apart fun j hj e => ?_⟩
      · have := new j hj
        have := hv j e
        omega
      · have hj' := new j hj
        rw [hgb] at e
        have e : g = j := Option.some.inj e
        rcases hat with hat | hat
        · have := hv g hat
          omega
        · omega
  · rw [List.pairwise_append]
    refine ⟨h.2.2, List.pairwise_singleton _ _, fun s hs t ht => ?_⟩
    have ht : t = (r, A, c) := by simpa using ht
    subst ht
    refine apart fun j hj e => ?_
    have := old s hs j hj
    have := new j e
    omega
/-- a record that is being drawn lies in block p, its row behind it; the source in g -/
def RM (W1 : World) (p g : Nat) (nm : ByteArray) (k a b : Int) (ds : List Int) (S : Option Addr) (sn sc m : Nat) (wr : World) : Prop :=
  ∃ A c, Mv p g W1 wr ∧ p + 1 ≤ wr.heap.size ∧ RcAt wr p nm k a b A ds.length c ∧ (∀ o, wr.frozen? ⟨p, o, none⟩ = false) ∧ wr.ownsRow (p + 1) 2 1 (.slice A ds.length c) ds.length (il ds) ∧ Sc wr g S sn sc m
theorem RM_step {W1 wr w2 w3 : World} {p g b3 c cap sn sc m' : Nat} {S : Option Addr} {nm : ByteArray} {k a b x : Int} {A : Option Addr} {ds : List Int} {o : Obj}
    (hmv : Mv p g W1 wr) (hgp : g < p) (hsz : p + 1 ≤ wr.heap.size) (hc : RcAt wr p nm k a b A ds.length c) (hfr : ∀ o, wr.frozen? ⟨p, o, none⟩ = false)
    (hown : wr.ownsRow (p + 1) 2 1 (.slice A ds.length c) ds.length (il ds)) (hk2 : ScTo g S sn sc m' wr w2)
    (hgrow : (w2.alloc o).grownBy w3 (Value.slice A ds.length c).ownBlock)
    (hown3 : w3.ownsRow (p + 1) 2 1 (.slice (some ⟨b3, 0, none⟩) (ds.length + 1) cap) (ds.length + 1) (il ds ++ [.int .i64 x])) :
    w3.cell? ⟨p, 4, none⟩ = some (.slice A ds.length c) ∧ (∀ o, w3.frozen? ⟨p, o, none⟩ = false) ∧ RM W1 p g nm k a b (ds ++ [x]) S sn sc m' (w3.setCell ⟨p, 4, none⟩ (.slice (some ⟨b3, 0, none⟩) (ds.length + 1) cap)) := by
  have hs2 := hk2.1.size
  have hb2 : Mv wr.heap.size g wr (w2.alloc o) := (Mv.of_grown hk2.1).al hs2 o
  have hb3 : Mv (p + 1) g wr w3 := (hb2.mono hsz).grown hgrow (by simp; omega) (fun j hj => .inl (hown.lt _ hj).1)
  have hcl : ∀ i, w3.cell? ⟨p, i, none⟩ = wr.cell? ⟨p, i, none⟩ := fun i => hb3.cell (show p < p + 1 by omega) (show p ≠ g by omega)
  have hf : ∀ i, w3.frozen? ⟨p, i, none⟩ = false := fun i => (hb3.frozen (show p < p + 1 by omega) (show p ≠ g by omega)).trans (hfr i)
  obtain ⟨c0, c1, c2, c3, c4⟩ := hc
  have h4 := (hcl 4).trans c4
  have hsc : Sc w3 g S sn sc m' := by
    have h1 := hk2.2.al o
    have hl := h1.lt
    obtain ⟨a1, s1, e1, e2, e3, e4, e5, e6, e7⟩ := h1
    have far : ∀ q i, q ≤ g → w3.cell? ⟨q, i, none⟩ = (w2.alloc o).cell? ⟨q, i, none⟩ := fun q i hq => hgrow.cell_far ⟨q, i, none⟩ (by show q < _; omega) (fun e => by have := (hown.lt _ e.symm).1; simp at this; omega)
    refine ⟨a1, s1, e1, e2, (far g 0 (Nat.le_refl _)).trans e3, (far g 1 (Nat.le_refl _)).trans e4, (far g 2 (Nat.le_refl _)).trans e5, fun i => ?_, fun i hi => ?_⟩
    · exact (hgrow.frozen_far ⟨g, i, none⟩ hl (fun e => by have := (hown.lt _ e.symm).1; simp at this; omega)).trans (e6 i)
    · obtain ⟨b, off, v, f1, f2, f3, f4⟩ := e7 i hi
      exact ⟨b, off, v, f1, f2, f3, (far b _ (by omega)).trans f4⟩
  refine ⟨h4, hf, some ⟨b3, 0, none⟩, cap, (hmv.trans (hb3.mono (by omega))).set _ _ (.inl (Nat.le_refl _)), ?_, ⟨?_, ?_, ?_, ?_, ?_⟩, ?_, ?_, ?_⟩
  · have := hb3.size
    simp [World.setCell]
    omega
  · exact ((World.cell?_setCell_other _ _ _ _ (by simp)).trans (hcl 0)).trans c0
  · exact ((World.cell?_setCell_other _ _ _ _ (by simp)).trans (hcl 1)).trans c1
  · exact ((World.cell?_setCell_other _ _ _ _ (by simp)).trans (hcl 2)).trans c2
  · exact ((World.cell?_setCell_other _ _ _ _ (by simp)).trans (hcl 3)).trans c3
  · rw [List.length_append]
    exact World.cell?_setCell_same _ _ _ h4
  · intro o; rw [World.frozen?_setCell]; exact hf o
  · have := ownsRow_setCell_below hown3 (a := ⟨p, 4, none⟩) (show p < p + 1 by omega) (.slice (some ⟨b3, 0, none⟩) (ds.length + 1) cap)
    rw [List.length_append]
    simpa [il] using this
  · exact hsc.far (k := p) (grown_set (grown_refl _ _) 4 _) hgp
end Go.Proofs.YtckdbnnkabgopaaDoor
