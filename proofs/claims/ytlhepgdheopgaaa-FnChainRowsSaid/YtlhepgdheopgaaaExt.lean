/-
  The bits of numbers: the model's own entries, as equations.
-/
import Derived.Test.YtlhepgdheopgaaaProg
import Derived.WalkKit
import Derived.WalkLawsBesides
namespace Go.Proofs.Ytlhepgdheopgaaa
open Go
theorem f32bits_run (x : Nat) (w : World) : (callFunc 93 #[.float .f32 x]).run Try.prog w = .ok (.value (.int .u32 x)) w := by
  rw [run_callFunc_extern Try.func93 (by kernel_rfl) (by kernel_rfl) (by kernel_rfl) (e := Extern.MathFloatBits.float32bits) (by kernel_rfl)]; rfl
theorem f64bits_run (x : Nat) (w : World) : (callFunc 92 #[.float .f64 x]).run Try.prog w = .ok (.value (.int .u64 x)) w := by
  rw [run_callFunc_extern Try.func92 (by kernel_rfl) (by kernel_rfl) (by kernel_rfl) (e := Extern.MathFloatBits.float64bits) (by kernel_rfl)]; rfl
end Go.Proofs.Ytlhepgdheopgaaa

