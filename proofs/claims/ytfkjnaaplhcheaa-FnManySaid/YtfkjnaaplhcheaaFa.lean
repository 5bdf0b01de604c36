/-
  Contracts of the small functions on single numbers.
-/
import Derived.Test.YtfkjnaaplhcheaaProg
import Derived.Test.YtfkjnaaplhcheaaFl
import Derived.Test.YtfkjnaaplhcheaaMem
import Derived.WalkKit
import Derived.WalkSpells
import Derived.WalkLawsBesides
import Derived.Deep.QuietTactic
import Derived.BigQuiet
namespace Go.Proofs.Ytfkjnaaplhcheaa
open Go Go.RowKit Ieee

/-- the callee draws at most -/
def Quiet (v : Value) (w : World) (e : Ending) (w' : World) : Prop := e = .returned v ∧ ∃ n, w' = w.drewN n
theorem Quiet.mk0 {v : Value} {w : World} : Quiet v w (.returned v) w := ⟨rfl, 0, rfl⟩
theorem Quiet.mk {v : Value} {w : World} (n : Nat) : Quiet v w (.returned v) (w.drewN n) := ⟨rfl, n, rfl⟩

theorem Quiet.below {v : Value} {w : World} {e : Ending} {w' : World} (h : Quiet v w e w') : e = .returned v ∧ Below w.heap.size w w' := by
  obtain ⟨he, n, rfl⟩ := h
  exact ⟨he, below_drewN (Below.refl _ _) n⟩
theorem retB {a b : Bool} (h : a = b) : Ending.returned (.bool a) = .returned (.bool b) := by rw [h]
theorem retI {k : IntKind} {a b : Int} (h : a = b) : Ending.returned (.int k a) = .returned (.int k b) := by rw [h]
theorem order_zero : FloatKind.f32.format.order 0 0 = some .eq := by decide +kernel

set_option maxHeartbeats 400000 in
theorem IsFinite_any (x : Nat) (w : World) : Calls Try.prog 104 #[.float .f32 x] w (Quiet (.bool (isFin single x)) w) := by
  cases hf : isFin single x with
  | true =>
    have hs : floatBits .sub .f32 x x = some 0 := sub_self_fin hf
    have hr := fun w => run_float_arith (P := Try.prog) w .sub 50 .f32 x x 0 hs
    have ho := order_zero
    clear hf hs
    go_enter Try.func104, Try.ntmps104
    go_wp2
    go_ret
    exact .mk0
  | false =>
    have hs : floatBits .sub .f32 x x = none := sub_self_not hf
    have hr := fun w => run_float_nan (P := Try.prog) w .sub (by simp) 50 .f32 x x hs
    have ho := fun (w : World) => order_nan_left (f := FloatKind.f32.format) 0 (nanDraw_bits .f32 x x w)
    clear hf hs
    go_enter Try.func104, Try.ntmps104
    go_wp2
    go_ret
    exact .mk 1

set_option maxHeartbeats 400000 in
theorem l01Finite_any (x : Nat) (w : World) : Calls Try.prog 117 #[.float .f32 x] w (Quiet (.bool (isFin single x)) w) := by
  cases hf : isFin single x with
  | true =>
    have hs : floatBits .sub .f32 x x = some 0 := sub_self_fin hf
    have hr := fun w => run_float_arith (P := Try.prog) w .sub 50 .f32 x x 0 hs
    have ho := order_zero
    clear hf hs
    go_enter Try.func117, Try.ntmps117
    go_wp2
    go_ret
    exact .mk0
  | false =>
    have hs : floatBits .sub .f32 x x = none := sub_self_not hf
    have hr := fun w => run_float_nan (P := Try.prog) w .sub (by simp) 50 .f32 x x hs
    have ho := fun (w : World) => order_nan_left (f := FloatKind.f32.format) 0 (nanDraw_bits .f32 x x w)
    clear hf hs
    go_enter Try.func117, Try.ntmps117
    go_wp2
    go_ret
    exact .mk 1

/-- finite and at least 0 -/
def leastB (x : Nat) : Bool := isFin single x && (single.order x 0 == some .gt || single.order x 0 == some .eq)
end Go.Proofs.Ytfkjnaaplhcheaa
