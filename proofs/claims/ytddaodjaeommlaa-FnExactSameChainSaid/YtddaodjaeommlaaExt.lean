/-
  The bits of numbers: the model's own entries, as equations.
-/
import Derived.Test.YtddaodjaeommlaaProg
import Derived.WalkKit
import Derived.WalkLawsBesides
namespace Go.Proofs.Ytddaodjaeommlaa
open Go
theorem f32bits_run (x : Nat) (w : World) : (callFunc 175 #[.float .f32 x]).run Try.prog w = .ok (.value (.int .u32 x)) w := by
  rw [run_callFunc_extern Try.func175 (by kernel_rfl) (by kernel_rfl) (by kernel_rfl) (e := Extern.MathFloatBits.float32bits) (by kernel_rfl)]; rfl
theorem f64bits_run (x : Nat) (w : World) : (callFunc 176 #[.float .f64 x]).run Try.prog w = .ok (.value (.int .u64 x)) w := by
  rw [run_callFunc_extern Try.func176 (by kernel_rfl) (by kernel_rfl) (by kernel_rfl) (e := Extern.MathFloatBits.float64bits) (by kernel_rfl)]; rfl
theorem f64from_run (x : Int) (w : World) : (callFunc 177 #[.int .u64 x]).run Try.prog w = .ok (.value (.float .f64 x.toNat)) w := by
  rw [run_callFunc_extern Try.func177 (by kernel_rfl) (by kernel_rfl) (by kernel_rfl) (e := Extern.MathFloatBits.float64frombits) (by kernel_rfl)]; rfl
end Go.Proofs.Ytddaodjaeommlaa
