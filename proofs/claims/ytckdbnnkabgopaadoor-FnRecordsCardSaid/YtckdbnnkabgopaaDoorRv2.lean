/-
  A row of records that the call owns, with the records' own rows, all apart.
-/
import Derived.Test.YtckdbnnkabgopaaDoorRv1
import Derived.Deep.AppendLies
namespace Go.Proofs.YtckdbnnkabgopaaDoor
open Go Go.RowKit Go.Joins

abbrev Rt := Rc × Option Addr × Nat
def Rt.row (t : Rt) : Value := .slice t.2.1 t.1.ds.length t.2.2
def Rt.cells (t : Rt) : List Value := [.string t.1.nm, .int .i64 t.1.k, .int .u64 t.1.a, .int .u64 t.1.b, t.row]
def rowC (ts : List Rt) : List Value := ts.flatMap Rt.cells
theorem rowC_snoc (ts : List Rt) (t : Rt) : rowC (ts ++ [t]) = rowC ts ++ t.cells := by simp [rowC]
def OR (W : World) (base : Nat) (v : Value) (ts : List Rt) : Prop :=
  W.ownsRow base 34 5 v ts.length (rowC ts) ∧
  (∀ t ∈ ts, W.ownsRow base 2 1 t.row t.1.ds.length (il t.1.ds) ∧ (t.row.ownBlock = none ∨ t.row.ownBlock ≠ v.ownBlock)) ∧
  ts.Pairwise fun s t => s.row.ownBlock = none ∨ s.row.ownBlock ≠ t.row.ownBlock
theorem OR.keep {W W' : World} {base : Nat} {v : Value} {ts : List Rt} (h : OR W base v ts) (hb : Below W.heap.size W W') : OR W' base v ts :=
  ⟨own_below h.1 hb, fun t ht => ⟨own_below (h.2.1 t ht).1 hb, (h.2.1 t ht).2⟩, h.2.2⟩
theorem OR.start {W : World} {base : Nat} {v : Value} (h : W.ownsRow base 34 5 v 0 []) : OR W base v [] := ⟨h, (fun _ h => absurd h (by simp)), List.Pairwise.nil⟩
theorem OR.snoc {W0 W1 W2 W3 : World} {base g cap n c : Nat} {v : Value} {ts : List Rt} {r : Rc} {A : Option Addr} (h : OR W0 base v ts) (hbase : base ≤ W0.heap.size) (b1 : Below W0.heap.size W0 W1)
    (hnew : W1.ownsRow W0.heap.size 2 1 (.slice A r.ds.length c) r.ds.length (il r.ds)) (b2 : Below W1.heap.size W1 W2) (hg : W2.grownBy W3 v.ownBlock)
    (ho : W3.ownsRow base 34 5 (.slice (some ⟨g, 0, none⟩) n cap) (ts.length + 1) (rowC ts ++ Rt.cells (r, A, c))) (hat : v.ownBlock = some g ∨ g = W2.heap.size) :
    OR W3 base (.slice (some ⟨g, 0, none⟩) n cap) (ts ++ [(r, A, c)]) := by
  have s1 := b1.size
  have s2 := b2.size
  have hgb : (Value.slice (some ⟨g, 0, none⟩) n cap).ownBlock = some g := rfl
  have hv : ∀ j, v.ownBlock = some j → j < W0.heap.size := fun j hj => (h.1.lt j hj).2
  have old : ∀ t ∈ ts, ∀ j, t.row.ownBlock = some j → j < W0.heap.size := fun t ht j hj => ((h.2.1 t ht).1.lt j hj).2
  have new : ∀ j, (Rt.row (r, A, c)).ownBlock = some j → W0.heap.size ≤ j ∧ j < W1.heap.size := fun j hj => hnew.lt j hj
  have apart : ∀ {o : Option Nat} {q : Option Nat}, (∀ j, o = some j → q ≠ some j) → o = none ∨ o ≠ q := fun {o q} hh => by
    cases o with
    | none => exact .inl rfl
    | some j => exact .inr fun e => hh j rfl e.symm
  refine ⟨by rw [List.length_append, rowC_snoc]; exact ho, fun t ht => ?_, ?_⟩
  · rw [List.mem_append] at ht
    rcases ht with ht | ht
    · obtain ⟨h1, h2⟩ := h.2.1 t ht
      refine ⟨(own_below (own_below h1 b1) b2).kept hg h2, apart fun j hj => ?_⟩
      have hlt := old t ht j hj
      rw [hgb]
      intro e
      have e : g = j := Option.some.inj e
      rcases hat with hat | hat
      · rcases h2 with h2 | h2
        · rw [h2] at hj; cases hj
        · exact h2 (by rw [hj, hat, e])
      · omega
    · have ht : t = (r, A, c) := by simpa using ht
      subst ht
      refine ⟨(own_below (own_base hnew hbase) b2).kept hg (apart fun j hj e => ?_), apart fun j hj e => ?_⟩
      · have := new j hj
        have := hv j e
        omega
      · have hj' := new j hj
        rw [hgb] at e
        have e : g = j := Option.some.inj e
        rcases hat with hat | hat
        · have := hv g hat
          omega
        · omega
  · rw [List.pairwise_append]
    refine ⟨h.2.2, List.pairwise_singleton _ _, fun s hs t ht => ?_⟩
    have ht : t = (r, A, c) := by simpa using ht
    subst ht
    refine apart fun j hj e => ?_
    have := old s hs j hj
    have := new j e
    omega
end Go.Proofs.YtckdbnnkabgopaaDoor

