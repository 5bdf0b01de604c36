/-
  A drawn table: spec.l06DrawSides, spec.R8Table.
-/
import Derived.Test.YtbpigeipjeegiaaSr
import Derived.Test.YtbpigeipjeegiaaEk
import Derived.Deep.RegionLaw
import Derived.Deep.AppendLies
import Derived.Laws.OwnMore
namespace Go.Proofs.Ytbpigeipjeegiaa
open Go Go.RowKit

theorem Kp.of_grown {a b : World} {g : Nat} (h : a.grownBy b (some g)) : Kp [g] a b := (Kp.refl [g] a).grown h fun k e => .inl (by cases e; simp)
theorem Kp.wide {bs bs' : List Nat} {a b : World} (h : Kp bs a b) (hs : ∀ k, k ∈ bs → k ∈ bs') : Kp bs' a b := ⟨h.os, h.tape, h.output, h.size, fun k hk hn => h.block k hk fun hm => hn (hs k hm)⟩
/-- a table that is drawn, in its box, and the source -/
structure DS (w : World) (g b8 bt R C : Nat) (A : Option Addr) (n c m : Nat) (xs : List Nat) (g3 c3 : Nat) (W : World) : Prop where
  kp : Kp [g] w W
  t0 : W.cell? ⟨bt, 0, none⟩ = some (.int .i64 R)
  t1 : W.cell? ⟨bt, 1, none⟩ = some (.int .i64 C)
  t2 : W.cell? ⟨bt, 2, none⟩ = some (.slice (some ⟨g3, 0, none⟩) xs.length c3)
  tf : ∀ o, W.frozen? ⟨bt, o, none⟩ = false
  rb : W.heap[b8]? = some (.cells #[.int .i64 0, .int .i64 0, .slice none 0 0] 26 (0, 0))
  ow : W.ownsRow w.heap.size 2 1 (.slice (some ⟨g3, 0, none⟩) xs.length c3) xs.length (nlv xs)
  sc : Sc W g A n c m
  d1 : g3 ≠ bt
  d2 : g3 ≠ b8
  d3 : bt ≠ b8
  lg : g < w.heap.size
  l1 : w.heap.size ≤ bt
  l2 : w.heap.size ≤ b8
theorem DS.step {w W w9 w3 : World} {g b8 bt R C n c m g3 c3 g9 cap9 x : Nat} {A : Option Addr} {xs : List Nat} {o : Obj} (D : DS w g b8 bt R C A n c m xs g3 c3 W) (hs : ScTo g A n c (m + 2) W.drew w9) (hgrow : (w9.alloc o).grownBy w3 (some g3))
    (hown : w3.ownsRow w.heap.size 2 1 (.slice (some ⟨g9, 0, none⟩) (xs.length + 1) cap9) (xs.length + 1) (nlv xs ++ [.int .i64 (x : Nat)])) (hat : g9 = g3 ∨ g9 = w9.heap.size + 1) :
    w3.cell? ⟨bt, 2, none⟩ = some (.slice (some ⟨g3, 0, none⟩) xs.length c3) ∧ w3.frozen? ⟨bt, 2, none⟩ = false ∧ DS w g b8 bt R C A n c (m + 2) (xs ++ [x]) g9 cap9 (w3.setCell ⟨bt, 2, none⟩ (.slice (some ⟨g9, 0, none⟩) (xs.length + 1) cap9)) := by
  have hbt : bt < W.heap.size := lt_of_cell (a := ⟨bt, 0, none⟩) D.t0
  have hb8 : b8 < W.heap.size := (Array.getElem?_eq_some_iff.1 D.rb).1
  have hg3 : g3 < W.heap.size := own_ltg D.ow
  have hlg3 := (D.ow.lt g3 rfl).1
  have hlg := D.lg
  have kd : Kp [g] W.drew w9 := Kp.of_grown hs.1
  have k9 : Kp [g] W w9 := ⟨kd.os, kd.tape, kd.output, kd.size, kd.block⟩
  have k3 : Kp [g, g3] W w3 := ((k9.wide (bs' := [g, g3]) (fun k hk => by simp at hk ⊢; exact .inl hk)).next (below_al (Below.refl _ _) o)).grown hgrow (fun k e => by cases e; exact .inl (by simp))
  have hz9 := k9.size
  have hnb : bt ≠ g ∧ b8 ≠ g := ⟨by have := D.l1; omega, by have := D.l2; omega⟩
  have nbt : bt ∉ [g, g3] := by simp; exact ⟨hnb.1, fun e => D.d1 e.symm⟩
  have nb8 : b8 ∉ [g, g3] := by simp; exact ⟨hnb.2, fun e => D.d2 e.symm⟩
  have c2 := k3.cell (p := ⟨bt, 2, none⟩) D.t2 nbt
  have hlen : (xs ++ [x]).length = xs.length + 1 := by simp
  have ne9 : g9 ≠ bt ∧ g9 ≠ b8 := by
    rcases hat with e | e
    · rw [e]; exact ⟨D.d1, D.d2⟩
    · omega
  have set0 : ∀ (p : Addr) (v : Value), p ≠ ⟨bt, 2, none⟩ → (w3.setCell ⟨bt, 2, none⟩ v).cell? p = w3.cell? p := fun p v h => World.cell?_setCell_other _ _ _ _ (fun e => h e.symm)
  refine ⟨c2, (k3.frozen (p := ⟨bt, 2, none⟩) hbt nbt).trans (D.tf 2), ⟨?_, ?_, ?_, ?_, ?_, ?_, ?_, ?_, ne9.1, ne9.2, D.d3, hlg, D.l1, D.l2⟩⟩
  · refine Kp.set (D.kp.trans (k3.wide (bs' := [g, g3]) fun k hk => hk) fun b hb => ?_) bt 2 _ (.inr D.l1)
    simp at hb
    rcases hb with rfl | rfl
    · exact .inl (by simp)
    · exact .inr hlg3
  · rw [set0 _ _ (by simp)]
    exact k3.cell (p := ⟨bt, 0, none⟩) D.t0 nbt
  · rw [set0 _ _ (by simp)]
    exact k3.cell (p := ⟨bt, 1, none⟩) D.t1 nbt
  · rw [hlen]
    exact World.cell?_setCell_same' _ _ _ (by rw [c2]; rfl)
  · intro o
    rw [World.frozen?_setCell]
    exact (k3.frozen (p := ⟨bt, o, none⟩) hbt nbt).trans (D.tf o)
  · rw [Below.heap_setCell _ _ _ _ (fun e => D.d3 e.symm), k3.block b8 hb8 nb8]
    exact D.rb
  · rw [hlen, nlv_snoc]
    exact own_block hown (Below.heap_setCell _ _ _ _ ne9.1)
  · have h1 : w9.grownBy (w3.setCell ⟨bt, 2, none⟩ (.slice (some ⟨g9, 0, none⟩) (xs.length + 1) cap9)) none ∨ True := .inr trivial
    obtain ⟨a1, s1, e1, e2, e3, e4, e5, e6, e7⟩ := hs.2
    have hl9 : g < w9.heap.size := lt_of_cell (a := ⟨g, 0, none⟩) e3
    have far : ∀ b, b ≤ g → (w3.setCell ⟨bt, 2, none⟩ (.slice (some ⟨g9, 0, none⟩) (xs.length + 1) cap9)).heap[b]? = w9.heap[b]? := fun b hb => by
      rw [Below.heap_setCell _ _ _ _ (show b ≠ bt by have := D.l1; omega), hgrow.block b (by simp; omega) (fun e => by have := Option.some.inj e; omega), (below_al (Below.refl w9.heap.size w9) o).block b (by omega)]
    have fc : ∀ b i, b ≤ g → (w3.setCell ⟨bt, 2, none⟩ (.slice (some ⟨g9, 0, none⟩) (xs.length + 1) cap9)).cell? ⟨b, i, none⟩ = w9.cell? ⟨b, i, none⟩ := fun b i hb => World.cell?_of_block (far b hb)
    refine ⟨a1, s1, e1, e2, (fc g 0 (Nat.le_refl _)).trans e3, (fc g 1 (Nat.le_refl _)).trans e4, (fc g 2 (Nat.le_refl _)).trans e5, fun i => (World.frozen?_of_block (far g (Nat.le_refl _))).trans (e6 i), fun i hi => ?_⟩
    obtain ⟨b, off, v, f1, f2, f3, f4⟩ := e7 i hi
    exact ⟨b, off, v, f1, f2, f3, (fc b _ (by omega)).trans f4⟩
end Go.Proofs.Ytbpigeipjeegiaa
