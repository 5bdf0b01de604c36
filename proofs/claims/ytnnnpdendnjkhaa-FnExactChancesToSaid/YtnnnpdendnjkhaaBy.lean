/-
  Chains that a function tells: impl.chainBy at each of its closures.
-/
import Derived.Test.YtnnnpdendnjkhaaVa3
import Derived.Test.YtnnnpdendnjkhaaCh
import Derived.Deep.AppendLies
import Derived.Deep.RegionLaw
import Derived.Deep.RegionHeld3
namespace Go.Proofs.Ytnnnpdendnjkhaa
open Go Go.RowKit Ieee

theorem frozen_far {w w' : World} {row : Option Nat} (h : w.grownBy w' row) {p : Addr} (hp : p.block < w.heap.size) (hne : some p.block ≠ row) {b : Bool} (hf : w.frozen? p = b) : w'.frozen? p = b :=
  (World.frozen?_of_block (w := w) (h.block p.block hp hne)).trans hf
theorem frozen_alloc {w : World} {o : Obj} {p : Addr} (hp : p.block < w.heap.size) : (w.alloc o).frozen? p = w.frozen? p :=
  World.frozen?_of_block (w := w) (Below.heap_alloc w o p.block hp)
/-- the rows that a function tells, one behind the other -/
def tabTo (n : Nat) (f : Nat → Nat → Nat) (m : Nat) : List Nat := (List.range m).map fun p => f (p / n) (p % n)
def tab (n : Nat) (f : Nat → Nat → Nat) : List Nat := tabTo n f (n * n)
theorem tabTo_len (n m : Nat) (f : Nat → Nat → Nat) : (tabTo n f m).length = m := by simp [tabTo]
theorem tab_len (n : Nat) (f : Nat → Nat → Nat) : (tab n f).length = n * n := tabTo_len n (n * n) f
theorem tab_succ (n : Nat) (f : Nat → Nat → Nat) {i k : Nat} (hk : k < n) : tabTo n f (i * n + k + 1) = tabTo n f (i * n + k) ++ [f i k] := by
  unfold tabTo
  rw [List.range_succ, List.map_append]
  have h1 : (i * n + k) / n = i := by rw [Nat.mul_comm, Nat.mul_add_div (by omega), Nat.div_eq_of_lt hk, Nat.add_zero]
  have h2 : (i * n + k) % n = k := by rw [Nat.mul_comm, Nat.mul_add_mod, Nat.mod_eq_of_lt hk]
  simp only [List.map_cons, List.map_nil, h1, h2]

/-- what a function gives that returns a chain and whether there is one: the chain if it is valid, of memory of its own -/
def ChainRes (w : World) (n : Nat) (xs : List Nat) (e : Ending) (w' : World) : Prop :=
  Below w.heap.size w w' ∧
  ((validB n xs = false ∧ e = .returned (.tuple #[.agg #[.int .i64 0, .slice none 0 0], .bool false])) ∨
   (validB n xs = true ∧ ∃ A c, e = .returned (.tuple #[.agg #[.int .i64 n, .slice A xs.length c], .bool true]) ∧ w'.ownsRow w.heap.size 42 1 (.slice A xs.length c) xs.length (fl xs)))

/-- the rounds of chainBy: W1 the world ahead of them, G the heap's size when the call began -/
def CB (W1 : World) (G n : Nat) (f : Nat → Nat → Nat) (m : Nat) (wr : World) : Prop :=
  ∃ A c, Below (G + 1) W1 wr ∧ G + 2 ≤ wr.heap.size ∧ wr.cell? ⟨G + 1, 0, none⟩ = some (.int .i64 n) ∧ wr.cell? ⟨G + 1, 1, none⟩ = some (.slice A m c) ∧ (∀ o, wr.frozen? ⟨G + 1, o, none⟩ = false) ∧
    wr.ownsRow (G + 2) 42 1 (.slice A m c) m (fl (tabTo n f m))

theorem own_cap {w : World} {base : Nat} {e : TypeId} {size n c : Nat} {A : Option Addr} {vs : List Value} (h : w.ownsRow base e size (.slice A n c) n vs) : n ≤ c ∧ c ≤ 9223372036854775807 := by
  rcases h.2 with ⟨hv, hn⟩ | ⟨g, cap, cur, hv, _, _, h1, h2, _⟩
  · cases hv; exact ⟨by omega, by omega⟩
  · cases hv; exact ⟨h1, by unfold maxLen at h2; omega⟩

theorem CB_step {W1 wr w2 w3 : World} {G n m c x g cap : Nat} {A : Option Addr} {f : Nat → Nat → Nat} {o : Obj}
    (hbw : Below (G + 1) W1 wr) (hsz : G + 2 ≤ wr.heap.size) (c0 : wr.cell? ⟨G + 1, 0, none⟩ = some (.int .i64 n)) (c1 : wr.cell? ⟨G + 1, 1, none⟩ = some (.slice A m c))
    (hfr : ∀ o, wr.frozen? ⟨G + 1, o, none⟩ = false) (hown : wr.ownsRow (G + 2) 42 1 (.slice A m c) m (fl (tabTo n f m))) (hk2 : Below wr.heap.size wr w2)
    (hgrow : (w2.alloc o).grownBy w3 (Value.slice A m c).ownBlock)
    (hown3 : w3.ownsRow (G + 2) 42 1 (.slice (some ⟨g, 0, none⟩) (m + 1) cap) (m + 1) (fl (tabTo n f m) ++ [.float .f32 x])) (hx : tabTo n f (m + 1) = tabTo n f m ++ [x]) :
    w3.cell? ⟨G + 1, 1, none⟩ = some (.slice A m c) ∧ (∀ o, w3.frozen? ⟨G + 1, o, none⟩ = false) ∧ CB W1 G n f (m + 1) (w3.setCell ⟨G + 1, 1, none⟩ (.slice (some ⟨g, 0, none⟩) (m + 1) cap)) := by
  have hs2 := hk2.size
  have hne : some (G + 1) ≠ (Value.slice A m c).ownBlock := fun h => by
    have := (hown.lt _ h.symm).1
    omega
  have hk3 : Below wr.heap.size wr (w2.alloc o) := hk2.alloc hs2 o
  have hb3 : Below (G + 2) wr w3 := Below.grown (hk3.mono hsz) hgrow (by simp; omega) (fun j hj => (hown.lt _ hj).1)
  have hc : ∀ i, w3.cell? ⟨G + 1, i, none⟩ = wr.cell? ⟨G + 1, i, none⟩ := fun i => hb3.cell (show G + 1 < G + 2 by omega)
  have hf : ∀ i, w3.frozen? ⟨G + 1, i, none⟩ = false := fun i => (hb3.frozen (show G + 1 < G + 2 by omega)).trans (hfr i)
  have h1 := (hc 1).trans c1
  refine ⟨h1, hf, some ⟨g, 0, none⟩, cap, (hbw.trans (hb3.mono (by omega))).setCell (Nat.le_refl _) _, ?_, ?_, ?_, ?_, ?_⟩
  · have := hb3.size
    simp [World.setCell]
    omega
  · exact ((World.cell?_setCell_other _ _ _ _ (by simp)).trans (hc 0)).trans c0
  · exact World.cell?_setCell_same _ _ _ h1
  · intro o; rw [World.frozen?_setCell]; exact hf o
  · rw [hx]
    have := ownsRow_setCell_below hown3 (a := ⟨G + 1, 1, none⟩) (show G + 1 < G + 2 by omega) (.slice (some ⟨g, 0, none⟩) (m + 1) cap)
    simpa [fl] using this

end Go.Proofs.Ytnnnpdendnjkhaa

