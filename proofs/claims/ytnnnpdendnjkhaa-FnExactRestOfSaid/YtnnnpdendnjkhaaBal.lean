/-
  impl.BalanceMiss and spec.BalanceMiss.
-/
import Derived.Test.YtnnnpdendnjkhaaSrs
namespace Go.Proofs.Ytnnnpdendnjkhaa
open Go Go.RowKit Ieee
attribute [local go_sem] run_store_float

set_option maxHeartbeats 400000 in
theorem l07Size_any (x : Nat) (w : World) (hx : isFin single x = true) : Calls Try.prog 49 #[.float .f32 x] w (Quiet (.float .f32 (sizeF x)) w) := by
  have hn := fin_not_nan hx
  have hl : (FloatKind.f32.format.order x 0 == some .lt || FloatKind.f32.format.order x 0 == some .eq) = decide (key single x ≤ 0) := by
    have := le_key (f := single) (by decide) hn zero_notNan
    rw [key_zero] at this
    exact this
  have e1 := fun w => run_float_arith (P := Try.prog) w .sub 42 .f32 _ _ _ (fsub_run zero_notNan hx).1
  by_cases h : key single x ≤ 0
  · have HF : Hid (sizeF x = fsub 0 x) := Lib.hid (if_pos h)
    rw [decide_eq_true h] at hl
    clear h hn hx
    go_enter Try.func49, Try.ntmps49
    go_wp2
    go_ret
    rw [HF.out]
    exact .mk0
  · have HF : Hid (sizeF x = x) := Lib.hid (if_neg h)
    rw [decide_eq_false h] at hl
    clear h hn hx e1
    go_enter Try.func49, Try.ntmps49
    go_wp2
    go_ret
    rw [HF.out]
    exact .mk0

def missOut (v : Nat) (ok : Bool) (w : World) : Ending → World → Prop := fun e w' => e = .returned (.tuple #[.float .f32 v, .bool ok]) ∧ Below w.heap.size w w'

end Go.Proofs.Ytnnnpdendnjkhaa

