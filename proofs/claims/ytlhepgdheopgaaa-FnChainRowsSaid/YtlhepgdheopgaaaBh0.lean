/-
  A chain that is given, with steps of its own, or none.
-/
import Derived.Test.YtlhepgdheopgaaaGive
namespace Go.Proofs.Ytlhepgdheopgaaa
open Go Go.RowKit Ieee

/-- a chain that is given, with steps of its own -/
def ChOut (n : Nat) (ys : List Nat) (w : World) (e : Ending) (w' : World) : Prop :=
  ∃ A c, e = .returned (.tuple #[.agg #[.int .i64 n, .slice A (n * n : Nat) c], .bool true]) ∧ w'.ownsRow w.heap.size 31 1 (.slice A (n * n : Nat) c) (n * n) (fl ys) ∧ Below w.heap.size w w'
def ChNone (w : World) (e : Ending) (w' : World) : Prop :=
  ∃ A c, e = .returned (.tuple #[.agg #[.int .i64 0, .slice A 0 c], .bool false]) ∧ Below w.heap.size w w'
theorem chGive_yes {n : Nat} {ys : List Nat} {w w' : World} {e : Ending} (h : chGive n ys w e w') (hv : validB n ys = true) (hl : ys.length = n * n) : ChOut n ys w e w' := by
  unfold chGive chOut sideOf stepsOf at h
  rw [hv, if_pos rfl, if_pos rfl, hl] at h
  exact h
theorem chGive_no {n : Nat} {ys : List Nat} {w w' : World} {e : Ending} (h : chGive n ys w e w') (hv : validB n ys = false) : ChNone w e w' := by
  unfold chGive chOut sideOf stepsOf at h
  rw [hv] at h
  obtain ⟨A, c, h1, -, h2⟩ := h
  exact ⟨A, c, h1, h2⟩
end Go.Proofs.Ytlhepgdheopgaaa
