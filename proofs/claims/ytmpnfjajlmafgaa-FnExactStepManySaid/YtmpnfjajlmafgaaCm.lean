/-
  cmp.Compare of float32 and impl.byShare's comparison.
-/
import Derived.Test.YtmpnfjajlmafgaaIs
import Derived.Test.YtmpnfjajlmafgaaOut
namespace Go.Proofs.Ytmpnfjajlmafgaa
open Go Go.RowKit Ieee

theorem isNaN_not (x : Nat) (h : isNan single x = false) (w : World) : Calls Try.prog 96 #[.float .f32 x] w (Quiet (.bool false) w) := by
  have ho : FloatKind.f32.format.order x x = some .eq := order_refl h
  go_enter Try.func96, Try.ntmps96
  go_wp2
  go_ret
  exact Quiet.mk0
/-- what cmp.Compare answers of two numbers -/
def cmpI (x y : Nat) : Int := if single.order x y = some .lt then -1 else if single.order x y = some .gt then 1 else 0
set_option maxHeartbeats 800000 in
theorem Compare_any (x y : Nat) (hx : isNan single x = false) (hy : isNan single y = false) (w : World) : Calls Try.prog 82 #[.float .f32 x, .float .f32 y] w (Quiet (.int .i64 (cmpI x y)) w) := by
  have HX := Lib.hid fun w => isNaN_not x hx w
  have HY := Lib.hid fun w => isNaN_not y hy w
  have HR : Hid (cmpI x y = if FloatKind.f32.format.order x y = some .lt then -1 else if FloatKind.f32.format.order x y = some .gt then 1 else 0) := Lib.hid rfl
  clear hx hy
  rcases ho : FloatKind.f32.format.order x y with _ | o
  · rw [ho] at HR
    go_enter Try.func82, Try.ntmps82
    go_wp2_with (first
      | ((with_reducible refine (HX.out _).mono ?_); rintro e w1 ⟨rfl, m, rfl⟩)
      | ((with_reducible refine (HY.out _).mono ?_); rintro e w1 ⟨rfl, m, rfl⟩))
    go_ret
    rw [HR.out]
    exact ⟨rfl, _, rfl⟩
  · cases o
    all_goals
      rw [ho] at HR
      go_enter Try.func82, Try.ntmps82
      go_wp2_with (first
        | ((with_reducible refine (HX.out _).mono ?_); rintro e w1 ⟨rfl, m, rfl⟩)
        | ((with_reducible refine (HY.out _).mono ?_); rintro e w1 ⟨rfl, m, rfl⟩))
      go_ret
      rw [HR.out]
      first
        | exact ⟨rfl, _, rfl⟩
        | exact ⟨rfl, _, by simp⟩
end Go.Proofs.Ytmpnfjajlmafgaa
