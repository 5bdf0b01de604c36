/-
  Contracts of the small functions on single numbers.
-/
import Derived.Test.YtbpigeipjeegiaaProg
import Derived.Test.YtbpigeipjeegiaaFl
import Derived.Test.YtbpigeipjeegiaaMem
import Derived.WalkKit
import Derived.WalkSpells
import Derived.WalkLawsBesides
import Derived.Deep.QuietTactic
import Derived.BigQuiet
namespace Go.Proofs.Ytbpigeipjeegiaa
open Go Go.RowKit Ieee

/-- the callee draws at most -/
def Quiet (v : Value) (w : World) (e : Ending) (w' : World) : Prop := e = .returned v ∧ ∃ n, w' = w.drewN n
theorem Quiet.mk0 {v : Value} {w : World} : Quiet v w (.returned v) w := ⟨rfl, 0, rfl⟩
theorem Quiet.mk {v : Value} {w : World} (n : Nat) : Quiet v w (.returned v) (w.drewN n) := ⟨rfl, n, rfl⟩

theorem Quiet.below {v : Value} {w : World} {e : Ending} {w' : World} (h : Quiet v w e w') : e = .returned v ∧ Below w.heap.size w w' := by
  obtain ⟨he, n, rfl⟩ := h
  exact ⟨he, below_drewN (Below.refl _ _) n⟩
theorem retB {a b : Bool} (h : a = b) : Ending.returned (.bool a) = .returned (.bool b) := by rw [h]
theorem retI {k : IntKind} {a b : Int} (h : a = b) : Ending.returned (.int k a) = .returned (.int k b) := by rw [h]
theorem order_zero : FloatKind.f32.format.order 0 0 = some .eq := by decide +kernel

/-- finite and at least 0 -/
def leastB (x : Nat) : Bool := isFin single x && (single.order x 0 == some .gt || single.order x 0 == some .eq)
end Go.Proofs.Ytbpigeipjeegiaa

