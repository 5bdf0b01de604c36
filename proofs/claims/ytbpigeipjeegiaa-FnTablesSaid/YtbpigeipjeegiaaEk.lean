/-
  Memory in which some blocks may change; a growing row in a box; all rows with a sum, plain.
-/
import Derived.Test.YtbpigeipjeegiaaRj
namespace Go.Proofs.Ytbpigeipjeegiaa
open Go Go.RowKit

/-- all that lay there stays, but for some blocks -/
structure Kp (bs : List Nat) (W W' : World) : Prop where
  os : W'.os = W.os
  tape : W'.tape = W.tape
  output : W'.output = W.output
  size : W.heap.size ≤ W'.heap.size
  block : ∀ b, b < W.heap.size → b ∉ bs → W'.heap[b]? = W.heap[b]?
theorem Kp.refl (bs : List Nat) (W : World) : Kp bs W W := ⟨rfl, rfl, rfl, Nat.le_refl _, fun _ _ _ => rfl⟩
theorem Kp.trans {bs bs' : List Nat} {A B C : World} (h : Kp bs A B) (k : Kp bs' B C) (hs : ∀ b, b ∈ bs' → b ∈ bs ∨ A.heap.size ≤ b) : Kp bs A C :=
  ⟨k.os.trans h.os, k.tape.trans h.tape, k.output.trans h.output, Nat.le_trans h.size k.size, fun b hb hn => (k.block b (Nat.lt_of_lt_of_le hb h.size) fun hm => by
    rcases hs b hm with h1 | h1
    · exact hn h1
    · omega).trans (h.block b hb hn)⟩
theorem Kp.of_below {bs : List Nat} {A B : World} (h : Below A.heap.size A B) : Kp bs A B := ⟨h.os, h.tape, h.output, h.size, fun b hb _ => h.block b hb⟩
theorem Kp.next {bs : List Nat} {A B C : World} (h : Kp bs A B) (k : Below B.heap.size B C) : Kp bs A C := h.trans (bs' := []) (Kp.of_below k) (fun b hb => by cases hb)
theorem Kp.set {bs : List Nat} {A B : World} (h : Kp bs A B) (g i : Nat) (v : Value) (hg : g ∈ bs ∨ A.heap.size ≤ g) : Kp bs A (B.setCell ⟨g, i, none⟩ v) :=
  ⟨h.os, h.tape, h.output, by simpa using h.size, fun b hb hn => (Below.heap_setCell _ _ _ _ (fun e => by
    have e' : b = g := e
    subst e'
    rcases hg with hg | hg
    · exact hn hg
    · omega)).trans (h.block b hb hn)⟩
theorem Kp.grown {bs : List Nat} {A B C : World} {row : Option Nat} (h : Kp bs A B) (hg : B.grownBy C row) (hr : ∀ g, row = some g → g ∈ bs ∨ A.heap.size ≤ g) : Kp bs A C :=
  ⟨hg.os.trans h.os, hg.tape.trans h.tape, hg.output.trans h.output, Nat.le_trans h.size hg.size, fun b hb hn => (hg.block b (Nat.lt_of_lt_of_le hb h.size) (fun e => by
    rcases hr b e.symm with h1 | h1
    · exact hn h1
    · omega)).trans (h.block b hb hn)⟩
theorem Kp.cell {bs : List Nat} {A B : World} (h : Kp bs A B) {p : Addr} {v : Value} (hc : A.cell? p = some v) (hn : p.block ∉ bs) : B.cell? p = some v := (World.cell?_of_block (h.block _ (lt_of_cell hc) hn)).trans hc
theorem Kp.frozen {bs : List Nat} {A B : World} (h : Kp bs A B) {p : Addr} (hl : p.block < A.heap.size) (hn : p.block ∉ bs) : B.frozen? p = A.frozen? p := World.frozen?_of_block (h.block _ hl hn)
theorem Kp.below {bs : List Nat} {A B : World} (h : Kp bs A B) {B0 : Nat} (hB : B0 ≤ A.heap.size) (hs : ∀ b, b ∈ bs → B0 ≤ b) : Below B0 A B := ⟨h.os, h.tape, h.output, h.size, fun b hb => h.block b (by omega) fun hm => by have := hs b hm; omega⟩
theorem own_block {W W' : World} {base n c g : Nat} {e : TypeId} {vs : List Value} (h : W.ownsRow base e 1 (.slice (some ⟨g, 0, none⟩) n c) n vs) (hb : W'.heap[g]? = W.heap[g]?) : W'.ownsRow base e 1 (.slice (some ⟨g, 0, none⟩) n c) n vs := by
  refine ⟨h.1, ?_⟩
  rcases h.2 with ⟨hv, hz⟩ | ⟨g', cap, cur, hv, hg, hh, hr⟩
  · cases hv
  · cases hv
    exact .inr ⟨g, c, cur, rfl, hg, hb.trans hh, hr⟩
theorem own_ltg {W : World} {base n c g : Nat} {e : TypeId} {vs : List Value} (h : W.ownsRow base e 1 (.slice (some ⟨g, 0, none⟩) n c) n vs) : g < W.heap.size := by
  rcases h.2 with ⟨hv, hz⟩ | ⟨g', cap, cur, hv, hg, hh, hr⟩
  · cases hv
  · cases hv
    rcases Nat.lt_or_ge g W.heap.size with hlt | hge
    · exact hlt
    · rw [Array.getElem?_eq_none hge] at hh
      cases hh
/-- a row without its last cells -/
theorem own_cut {W : World} {base n c g k : Nat} {e : TypeId} {vs : List Value} (h : W.ownsRow base e 1 (.slice (some ⟨g, 0, none⟩) n c) n vs) (hk : k ≤ n) : W.ownsRow base e 1 (.slice (some ⟨g, 0, none⟩) k c) k (vs.take k) := by
  have h1 := h.1
  refine ⟨by simp; omega, ?_⟩
  rcases h.2 with ⟨hv, hz⟩ | ⟨g', cap, cur, hv, hg, hh, h2, h3, h4, h5⟩
  · cases hv
  · cases hv
    refine .inr ⟨g, c, cur, rfl, hg, hh, by omega, h3, h4, ?_⟩
    rw [← h5, List.take_take]
    congr 1
    omega
theorem own_cellN {W : World} {g n c : Nat} {e : TypeId} {l : List Nat} (h : W.ownsRow 0 e 1 (.slice (some ⟨g, 0, none⟩) n c) n (nlv l)) {i : Nat} (hi : i < l.length) : W.cell? ⟨g, i, none⟩ = some (.int .i64 (l[i] : Nat)) :=
  own_cellAt h (by simp [nlv, hi])

/-- all rows with a sum whose numbers are at most those of some limits, in their order -/
def rowsOf : List Nat → Nat → List (List Nat)
  | [], left => if left = 0 then [[]] else []
  | l :: ls, left => (List.range (min left l + 1)).flatMap fun n => (rowsOf ls (left - n)).map (n :: ·)
/-- .. of which the first number is below m -/
def rowsTo (ls : List Nat) (left m : Nat) : List (List Nat) := (List.range m).flatMap fun n => (rowsOf ls (left - n)).map (n :: ·)
theorem rowsTo_succ (ls : List Nat) (left m : Nat) : rowsTo ls left (m + 1) = rowsTo ls left m ++ (rowsOf ls (left - m)).map (m :: ·) := by
  unfold rowsTo
  rw [List.range_succ, List.flatMap_append]
  simp
theorem rowsOf_cons (l : Nat) (ls : List Nat) (left : Nat) : rowsOf (l :: ls) left = rowsTo ls left (min left l + 1) := rfl
theorem mem_rowsOf_cons {l : Nat} {ls : List Nat} {left n : Nat} {r : List Nat} (hn : n ≤ left) (hl : n ≤ l) (hr : r ∈ rowsOf ls (left - n)) : n :: r ∈ rowsOf (l :: ls) left := by
  show n :: r ∈ List.flatMap _ _
  rw [List.mem_flatMap]
  exact ⟨n, by rw [List.mem_range]; omega, List.mem_map.2 ⟨r, hr, rfl⟩⟩
/-- what is made of a state by all rows behind a beginning -/
def goRows {σ : Type} (nx : σ → List Nat → σ) (pre : List Nat) (rs : List (List Nat)) (x : σ) : σ := rs.foldl (fun x r => nx x (pre ++ r)) x
theorem goRows_succ {σ : Type} (nx : σ → List Nat → σ) (pre ls : List Nat) (left m : Nat) (x : σ) : goRows nx pre (rowsTo ls left (m + 1)) x = goRows nx (pre ++ [m]) (rowsOf ls (left - m)) (goRows nx pre (rowsTo ls left m) x) := by
  unfold goRows
  rw [rowsTo_succ, List.foldl_append, List.foldl_map]
  simp
end Go.Proofs.Ytbpigeipjeegiaa

