/-
  A matrix of bools that the call owns, row by row, and a row of numbers behind it, all apart.
-/
import Derived.Test.YtnnnpdendnjkhaaGr2
import Derived.Deep.AppendLies
namespace Go.Proofs.Ytnnnpdendnjkhaa
open Go Go.RowKit Go.Joins

def rowsV (n : Nat) (gs : List Nat) : List Value := gs.map fun g => .slice (some ⟨g, 0, none⟩) n n
theorem rowsV_snoc (n : Nat) (gs : List Nat) (g : Nat) : rowsV n (gs ++ [g]) = rowsV n gs ++ [.slice (some ⟨g, 0, none⟩) n n] := by simp [rowsV]
theorem rowsV_get {n : Nat} {gs : List Nat} {i : Nat} (h : i < gs.length) : (rowsV n gs)[i]? = some (.slice (some ⟨gs[i], 0, none⟩) n n) := by unfold rowsV; rw [List.getElem?_map, List.getElem?_eq_getElem h]; rfl
structure GS (W : World) (base n : Nat) (R : Nat → Nat → Bool) (v : Value) (gs : List Nat) (u : Value) (vs : List Value) : Prop where
  m : W.ownsRow base 54 1 v gs.length (rowsV n gs)
  r : ∀ i (h : i < gs.length), base ≤ gs[i] ∧ W.rowIs gs[i] 4 n (fun q => .bool (R i q))
  o : W.ownsRow base 2 1 u vs.length vs
  mr : ∀ g ∈ gs, v.ownBlock ≠ some g
  ur : ∀ g ∈ gs, u.ownBlock ≠ some g
  uv : ∀ j, u.ownBlock = some j → v.ownBlock ≠ some j
variable {W W' W0 W1 W2 W3 : World} {base n : Nat} {R : Nat → Nat → Bool} {v u : Value} {gs : List Nat} {vs : List Value}
theorem own_ne {a b : Option Nat} (h : ∀ j, a = some j → b ≠ some j) : a = none ∨ a ≠ b := by
  cases a with
  | none => exact .inl rfl
  | some j => exact .inr fun e => h j rfl e.symm
theorem GS.keep (h : GS W base n R v gs u vs) (hb : Below W.heap.size W W') : GS W' base n R v gs u vs :=
  ⟨own_below h.m hb, fun i hi => ⟨(h.r i hi).1, (h.r i hi).2.of_block (hb.block _ (h.r i hi).2.lt)⟩, own_below h.o hb, h.mr, h.ur, h.uv⟩
theorem GS.rowLt (h : GS W base n R v gs u vs) {g : Nat} (hg : g ∈ gs) : g < W.heap.size := by
  obtain ⟨i, hi, rfl⟩ := List.getElem_of_mem hg
  exact (h.r i hi).2.lt
theorem GS.row {g g1 cap : Nat} (h : GS W0 base n R v gs u vs) (hbase : base ≤ W0.heap.size) (b1 : Below W0.heap.size W0 W1) (hg1 : W0.heap.size ≤ g1) (hr : W1.rowIs g1 4 n (fun q => .bool (R gs.length q)))
    (b2 : Below W1.heap.size W1 W2) (hgr : W2.grownBy W3 v.ownBlock) (ho : W3.ownsRow base 54 1 (.slice (some ⟨g, 0, none⟩) (gs.length + 1) cap) (gs.length + 1) (rowsV n gs ++ [.slice (some ⟨g1, 0, none⟩) n n])) (hat : v.ownBlock = some g ∨ g = W2.heap.size) :
    GS W3 base n R (.slice (some ⟨g, 0, none⟩) (gs.length + 1) cap) (gs ++ [g1]) u vs := by
  have s1 := b1.size
  have s2 := b2.size
  have h2 := (h.keep b1).keep b2
  have hl1 := hr.lt
  have hv : ∀ j, v.ownBlock = some j → j < W0.heap.size := fun j hj => (h.m.lt j hj).2
  have hu : ∀ j, u.ownBlock = some j → j < W0.heap.size := fun j hj => (h.o.lt j hj).2
  refine ⟨by rw [List.length_append, rowsV_snoc]; exact ho, fun i hi => ?_, h2.o.kept hgr (own_ne h.uv), fun j hj => ?_, fun j hj => ?_, fun j hj => ?_⟩
  · rcases Nat.lt_or_ge i gs.length with hlt | hge
    · have e : (gs ++ [g1])[i] = gs[i] := List.getElem_append_left hlt
      rw [e]
      refine ⟨(h2.r i hlt).1, (h2.r i hlt).2.of_block (hgr.block _ (h2.r i hlt).2.lt fun e => ?_)⟩
      exact h.mr _ (List.getElem_mem hlt) e.symm
    · have hi' : i = gs.length := by rw [List.length_append, List.length_singleton] at hi; omega
      subst hi'
      have e : (gs ++ [g1])[gs.length] = g1 := by simp
      rw [e]
      refine ⟨by omega, (hr.of_block (b2.block _ hl1)).of_block (hgr.block _ (by omega) fun e => ?_)⟩
      have := hv _ e.symm
      omega
  · intro e
    have e : g = j := Option.some.inj e
    subst e
    rcases List.mem_append.1 hj with hj | hj
    · have := h.rowLt hj
      rcases hat with hat | hat
      · exact h.mr _ hj hat
      · omega
    · rw [List.mem_singleton] at hj
      subst hj
      rcases hat with hat | hat
      · have := hv _ hat
        omega
      · omega
  · rcases List.mem_append.1 hj with hj | hj
    · exact h.ur j hj
    · rw [List.mem_singleton] at hj
      subst hj
      intro e
      have := hu _ e
      omega
  · intro e
    have e : g = j := Option.some.inj e
    subst e
    have := hu _ hj
    rcases hat with hat | hat
    · exact h.uv _ hj hat
    · omega
theorem GS.add {g cap : Nat} {x : Value} (h : GS W0 base n R v gs u vs) (b2 : Below W0.heap.size W0 W2) (hgr : W2.grownBy W3 u.ownBlock) (ho : W3.ownsRow base 2 1 (.slice (some ⟨g, 0, none⟩) (vs.length + 1) cap) (vs.length + 1) (vs ++ [x])) (hat : u.ownBlock = some g ∨ g = W2.heap.size) :
    GS W3 base n R v gs (.slice (some ⟨g, 0, none⟩) (vs.length + 1) cap) (vs ++ [x]) := by
  have s2 := b2.size
  have h2 := h.keep b2
  refine ⟨h2.m.kept hgr (own_ne fun j hv hu => h.uv j hu hv), fun i hi => ⟨(h2.r i hi).1, (h2.r i hi).2.of_block (hgr.block _ (h2.r i hi).2.lt fun e => h.ur _ (List.getElem_mem hi) e.symm)⟩, by rw [List.length_append]; exact ho, h.mr, fun j hj e => ?_, fun j hj e => ?_⟩
  · have e : g = j := Option.some.inj e
    subst e
    have := h.rowLt hj
    rcases hat with hat | hat
    · exact h.ur _ hj hat
    · omega
  · have hj : g = j := Option.some.inj hj
    subst hj
    have := (h.m.lt g e).2
    rcases hat with hat | hat
    · exact h.uv _ hat e
    · omega
theorem GS.row' {g g1 cap q : Nat} (h : GS W0 base n R v gs u vs) (hq : gs.length = q) (hbase : base ≤ W0.heap.size) (b1 : Below W0.heap.size W0 W1) (hg1 : W0.heap.size ≤ g1) (hr : W1.rowIs g1 4 n (fun k => .bool (R q k)))
    (b2 : Below W1.heap.size W1 W2) (hgr : W2.grownBy W3 v.ownBlock) (ho : W3.ownsRow base 54 1 (.slice (some ⟨g, 0, none⟩) (q + 1) cap) (q + 1) (rowsV n gs ++ [.slice (some ⟨g1, 0, none⟩) n n])) (hat : v.ownBlock = some g ∨ g = W2.heap.size) :
    GS W3 base n R (.slice (some ⟨g, 0, none⟩) (q + 1) cap) (gs ++ [g1]) u vs := by
  subst hq
  exact h.row hbase b1 hg1 hr b2 hgr ho hat
theorem GS.add' {g cap q : Nat} {x : Value} (h : GS W0 base n R v gs u vs) (hq : vs.length = q) (b2 : Below W0.heap.size W0 W2) (hgr : W2.grownBy W3 u.ownBlock) (ho : W3.ownsRow base 2 1 (.slice (some ⟨g, 0, none⟩) (q + 1) cap) (q + 1) (vs ++ [x])) (hat : u.ownBlock = some g ∨ g = W2.heap.size) :
    GS W3 base n R v gs (.slice (some ⟨g, 0, none⟩) (q + 1) cap) (vs ++ [x]) := by
  subst hq
  exact h.add b2 hgr ho hat
theorem GS.below (h : GS W0 base n R v gs u vs) {w : World} (hw : Below w.heap.size w W0) (hb : w.heap.size ≤ base) (hgr : W0.grownBy W3 u.ownBlock ∨ W0.grownBy W3 v.ownBlock) : Below w.heap.size w W3 := by
  rcases hgr with hgr | hgr
  · exact hw.grown hgr hw.size fun j hj => by have := (h.o.lt j hj).1; omega
  · exact hw.grown hgr hw.size fun j hj => by have := (h.m.lt j hj).1; omega
theorem GS.far_below {w : World} {o : Obj} (h : GS W1 base n R v gs u vs) (hw : Below w.heap.size w W0) (b1 : Below W0.heap.size W0 W1) (hb : w.heap.size ≤ base) (hgr : (W1.alloc o).grownBy W3 v.ownBlock) : Below w.heap.size w W3 :=
  (below_al (below_next hw b1) o).grown hgr (below_al (below_next hw b1) o).size fun j hj => by have := (h.m.lt j hj).1; omega
theorem GS.add_below {w : World} {o : Obj} (h : GS W0 base n R v gs u vs) (hw : Below w.heap.size w W0) (hb : w.heap.size ≤ base) (hgr : (W0.alloc o).grownBy W3 u.ownBlock) : Below w.heap.size w W3 :=
  (below_al hw o).grown hgr (below_al hw o).size fun j hj => by have := (h.o.lt j hj).1; omega
/-- a row of the matrix, and a cell of it -/
theorem GS.at_ (h : GS W base n R v gs u vs) {i k : Nat} (hi : i < gs.length) (hk : k < n) : ∃ g g1 cap, v = .slice (some ⟨g, 0, none⟩) gs.length cap ∧ W.cell? ⟨g, i, none⟩ = some (.slice (some ⟨g1, 0, none⟩) n n) ∧ W.cell? ⟨g1, k, none⟩ = some (.bool (R i k)) := by
  obtain ⟨g, cap, rfl, hb, hlt⟩ := h.m.form (by omega)
  refine ⟨g, gs[i], cap, rfl, ?_, (h.r i hi).2.cell hk⟩
  have h1 := h.m.cells (g := g) rfl i _ (rowsV_get hi)
  have hadd : (⟨g, 0, none⟩ : Addr).add i = ⟨g, i, none⟩ := by unfold Addr.add; split <;> simp_all
  rw [hadd] at h1
  exact h1
theorem GS.num (h : GS W base n R v gs u vs) {k : Nat} (hk : k < vs.length) : ∃ g cap, u = .slice (some ⟨g, 0, none⟩) vs.length cap ∧ W.cell? ⟨g, k, none⟩ = some vs[k] := by
  obtain ⟨g, cap, rfl, hb, hlt⟩ := h.o.form (by omega)
  refine ⟨g, cap, rfl, ?_⟩
  have h1 := h.o.cells (g := g) rfl k vs[k] (by rw [List.getElem?_eq_getElem hk])
  have hadd : (⟨g, 0, none⟩ : Addr).add k = ⟨g, k, none⟩ := by unfold Addr.add; split <;> simp_all
  rw [hadd] at h1
  exact h1
theorem GS.cellAt {gV q c : Nat} (h : GS W base n R (.slice (some ⟨gV, 0, none⟩) q c) gs u vs) {i k : Nat} (hi : i < gs.length) (hk : k < n) : W.cell? ⟨gV, i, none⟩ = some (.slice (some ⟨gs[i], 0, none⟩) n n) ∧ W.cell? ⟨gs[i], k, none⟩ = some (.bool (R i k)) := by
  refine ⟨?_, (h.r i hi).2.cell hk⟩
  have h1 := h.m.cells (g := gV) rfl i _ (rowsV_get hi)
  have hadd : (⟨gV, 0, none⟩ : Addr).add i = ⟨gV, i, none⟩ := by unfold Addr.add; split <;> simp_all
  rw [hadd] at h1
  exact h1
theorem GS.numAt {gU q c : Nat} {l : List Int} (h : GS W base n R v gs (.slice (some ⟨gU, 0, none⟩) q c) (il l)) {k : Nat} (hk : k < l.length) : W.cell? ⟨gU, k, none⟩ = some (.int .i64 (l.getD k 0)) := by
  have h1 := h.o.cells (g := gU) rfl k (.int .i64 (l.getD k 0)) (by unfold il; rw [List.getElem?_map, List.getElem?_eq_getElem hk, List.getD_eq_getElem?_getD, List.getElem?_eq_getElem hk]; rfl)
  have hadd : (⟨gU, 0, none⟩ : Addr).add k = ⟨gU, k, none⟩ := by unfold Addr.add; split <;> simp_all
  rw [hadd] at h1
  exact h1
end Go.Proofs.Ytnnnpdendnjkhaa
