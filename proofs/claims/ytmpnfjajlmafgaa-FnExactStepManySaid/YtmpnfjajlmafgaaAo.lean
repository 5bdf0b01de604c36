/-
  impl.atMostOne and spec.l06One.
-/
import Derived.Test.YtmpnfjajlmafgaaFa
namespace Go.Proofs.Ytmpnfjajlmafgaa
open Go Go.RowKit Ieee

/-- a number, but 1 if it is greater than 1 -/
def capF (x : Nat) : Nat := if FloatKind.f32.format.order x 1065353216 = some .gt then 1065353216 else x
theorem atMostOne_any (x : Nat) (w : World) : Calls Try.prog 60 #[.float .f32 x] w (Quiet (.float .f32 (capF x)) w) := by
  have HR : Hid (capF x = if FloatKind.f32.format.order x 1065353216 = some .gt then 1065353216 else x) := Lib.hid rfl
  rcases ho : FloatKind.f32.format.order x 1065353216 with _ | o
  · rw [ho] at HR
    go_enter Try.func60, Try.ntmps60
    go_wp2
    go_ret
    rw [HR.out]
    exact ⟨rfl, 0, rfl⟩
  · cases o
    all_goals
      rw [ho] at HR
      go_enter Try.func60, Try.ntmps60
      go_wp2
      go_ret
      rw [HR.out]
      exact ⟨rfl, 0, rfl⟩
theorem l06One_any (x : Nat) (w : World) : Calls Try.prog 57 #[.float .f32 x] w (Quiet (.float .f32 (capF x)) w) := by
  have HR : Hid (capF x = if FloatKind.f32.format.order x 1065353216 = some .gt then 1065353216 else x) := Lib.hid rfl
  rcases ho : FloatKind.f32.format.order x 1065353216 with _ | o
  · rw [ho] at HR
    go_enter Try.func57, Try.ntmps57
    go_wp2
    go_ret
    rw [HR.out]
    exact ⟨rfl, 0, rfl⟩
  · cases o
    all_goals
      rw [ho] at HR
      go_enter Try.func57, Try.ntmps57
      go_wp2
      go_ret
      rw [HR.out]
      exact ⟨rfl, 0, rfl⟩
end Go.Proofs.Ytmpnfjajlmafgaa
