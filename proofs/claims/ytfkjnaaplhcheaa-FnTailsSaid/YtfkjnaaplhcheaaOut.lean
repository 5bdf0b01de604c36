/-
  Worlds that have grown: small steps for regions in which calls, new boxes and draws come in any order.
-/
import Derived.Test.YtfkjnaaplhcheaaMem
import Derived.Deep.OwnRows
import Derived.Deep.AppendLies
namespace Go.Proofs.Ytfkjnaaplhcheaa
open Go Go.RowKit

theorem below_al {w W : World} (h : Below w.heap.size w W) (o : Obj) : Below w.heap.size w (W.alloc o) := h.alloc h.size o
theorem below_dr {w W : World} (h : Below w.heap.size w W) : Below w.heap.size w W.drew := below_drewN h 1
theorem below_dn {w W : World} (h : Below w.heap.size w W) (n : Nat) : Below w.heap.size w (W.drewN n) := below_drewN h n
theorem below_next {w W W' : World} (h : Below w.heap.size w W) (hb : Below W.heap.size W W') : Below w.heap.size w W' := h.trans (hb.mono h.size)
theorem below_set {w W : World} (h : Below w.heap.size w W) (a : Addr) (v : Value) (ha : w.heap.size ≤ a.block) : Below w.heap.size w (W.setCell a v) := h.setCell ha v

theorem own_rowIs {w : World} {g base m : Nat} {t : TypeId} {f : Nat → Value} (h : w.rowIs g t m f) (hb : base ≤ g) (hm : m ≤ maxLen) : w.ownsRow base t 1 (.slice (some ⟨g, 0, none⟩) m m) m ((List.range m).map f) := by
  obtain ⟨c, h1, h2, h3⟩ := h
  refine ⟨by simp, .inr ⟨g, m, c, rfl, hb, h1, Nat.le_refl _, hm, by omega, ?_⟩⟩
  refine List.ext_getElem (by simp; omega) fun i hi1 hi2 => ?_
  have hi : i < m := by simp at hi2; exact hi2
  have := h3 i hi
  rw [Array.getElem?_eq_getElem (by omega)] at this
  rw [List.getElem_take, List.getElem_map, List.getElem_range]
  exact Option.some.inj this
/-- a slice of the call's own that grows: k cells of type e, v its value; nothing that was there in w is changed -/
def Grow (w : World) (e : TypeId) (k : Nat) (vs : List Value) (v : Value) (wr : World) : Prop :=
  Below w.heap.size w wr ∧ ∃ A c, v = .slice A k c ∧ wr.ownsRow w.heap.size e 1 (.slice A k c) k vs
theorem Grow.nil (w : World) (e : TypeId) : Grow w e 0 [] (.slice none 0 0) w := ⟨Below.refl _ _, none, 0, rfl, World.ownsRow_nil _ _ _ _⟩
theorem Grow.empty (w : World) (e : TypeId) : Grow w e 0 [] (.slice (some ⟨w.heap.size, 0, none⟩) 0 0) (w.alloc (.cells #[] e)) := by
  refine ⟨below_al (Below.refl _ _) _, _, _, rfl, by simp, .inr ⟨w.heap.size, 0, #[], rfl, Nat.le_refl _, ?_, Nat.le_refl _, by unfold maxLen; omega, by simp, by simp⟩⟩
  exact heap_alloc_new w _
theorem Grow.keep {w wr w' : World} {e : TypeId} {k : Nat} {vs : List Value} {v : Value} (h : Grow w e k vs v wr) (hb : Below wr.heap.size wr w') : Grow w e k vs v w' := by
  obtain ⟨h1, A, c, rfl, h2⟩ := h
  exact ⟨below_next h1 hb, A, c, rfl, own_below h2 hb⟩
theorem Grow.step {w wr wa w3 : World} {e : TypeId} {k g cap : Nat} {A : Option Addr} {c : Nat} {vs : List Value} {x : Value} {o : Obj} (hb : Below w.heap.size w wr) (ho : wr.ownsRow w.heap.size e 1 (.slice A k c) k vs) (hk : Below wr.heap.size wr wa)
    (hg : (wa.alloc o).grownBy w3 (Value.slice A k c).ownBlock) (h3 : w3.ownsRow w.heap.size e 1 (.slice (some ⟨g, 0, none⟩) (k + 1) cap) (k + 1) (vs ++ [x])) : Grow w e (k + 1) (vs ++ [x]) (.slice (some ⟨g, 0, none⟩) (k + 1) cap) w3 := by
  have h1 := below_al (below_next hb hk) o
  exact ⟨h1.grown hg h1.size (fun j hj => (ho.lt j hj).1), _, _, rfl, h3⟩
end Go.Proofs.Ytfkjnaaplhcheaa

