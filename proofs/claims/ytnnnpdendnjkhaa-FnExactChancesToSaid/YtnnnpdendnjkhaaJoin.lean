/-
  Joined chains: impl.JoinChains.
-/
import Derived.Test.YtnnnpdendnjkhaaStep
import Derived.Deep.RegionHeld3
import Derived.Deep.AppendLies
import Derived.Deep.RegionLaw
namespace Go.Proofs.Ytnnnpdendnjkhaa
open Go Go.RowKit Ieee
attribute [local go_sem] run_store_float

/-- the sum of the first products of a row and a column -/
def dotTo (xs ys : List Nat) (n i k : Nat) : Nat → Nat
  | 0 => 0
  | j + 1 => fadd (dotTo xs ys n i k j) (fmul (stepOf xs n i j) (stepOf ys n j k))
def joinF (xs ys : List Nat) (n i k : Nat) : Nat := dotTo xs ys n i k n
theorem dot_runs {xs ys : List Nat} {n i k : Nat} (hl : xs.length = n * n) (hp : xs.all partB = true) (hl2 : ys.length = n * n) (hp2 : ys.all partB = true) (hi : i < n) (hk : k < n) :
    ∀ j, j ≤ n → isNan single (dotTo xs ys n i k j) = false ∧ (j < n → floatBits .mul .f32 (stepOf xs n i j) (stepOf ys n j k) = some (fmul (stepOf xs n i j) (stepOf ys n j k)) ∧ floatBits .add .f32 (dotTo xs ys n i k j) (fmul (stepOf xs n i j) (stepOf ys n j k)) = some (dotTo xs ys n i k (j + 1))) := by
  have key : ∀ j, j < n → isNan single (dotTo xs ys n i k j) = false → floatBits .mul .f32 (stepOf xs n i j) (stepOf ys n j k) = some (fmul (stepOf xs n i j) (stepOf ys n j k)) ∧ floatBits .add .f32 (dotTo xs ys n i k j) (fmul (stepOf xs n i j) (stepOf ys n j k)) = some (dotTo xs ys n i k (j + 1)) ∧ isNan single (dotTo xs ys n i k (j + 1)) = false := fun j hj hnn => by
    obtain ⟨-, k1, k2, f1⟩ := part_key (stepOf_part hl hp hi hj)
    obtain ⟨-, k3, k4, f2⟩ := part_key (stepOf_part hl2 hp2 hj hk)
    have h1 := fmul_run f1 f2
    have h2 := mul_nn f1 f2 k1 k3 k4
    have h3 := fadd_run hnn h2.1
    exact ⟨h1.1, h3.1, h3.2⟩
  intro j
  induction j with
  | zero => exact fun _ => ⟨zero_notNan, fun h => ⟨(key 0 h zero_notNan).1, (key 0 h zero_notNan).2.1⟩⟩
  | succ j ih =>
    intro hj
    have h1 := (key j (by omega) (ih (by omega)).1).2.2
    exact ⟨h1, fun h => ⟨(key (j + 1) h h1).1, (key (j + 1) h h1).2.1⟩⟩

def joinOk (n : Int) (xs : List Nat) (m : Int) (ys : List Nat) : Bool := validB n xs && (validB m ys && decide (n = m))

end Go.Proofs.Ytnnnpdendnjkhaa

