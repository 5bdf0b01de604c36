/-
  Whether a number lies between two: impl.within, spec.l00In.
-/
import Derived.Test.YtbpigeipjeegiaaFa
namespace Go.Proofs.Ytbpigeipjeegiaa
open Go Go.RowKit

def inB (n lo hi : Int) : Bool := decide (lo ≤ n ∧ n ≤ hi)
set_option maxHeartbeats 400000 in
theorem within_any (n lo hi : Int) (w : World) : Calls Try.prog 24 #[.int .i64 n, .int .i64 lo, .int .i64 hi] w (Quiet (.bool (inB n lo hi)) w) := by
  have hi' : inB n lo hi = decide (lo ≤ n ∧ n ≤ hi) := rfl
  generalize inB n lo hi = r at *
  by_cases h1 : lo ≤ n
  · by_cases h2 : n ≤ hi
    · have HR : Hid (r = true) := by rw [hi']; exact decide_eq_true ⟨h1, h2⟩
      clear hi'
      go_enter Try.func24, Try.ntmps24
      go_wp2
      go_ret
      rw [HR.out]
      exact .mk0
    · have HR : Hid (r = false) := by rw [hi']; exact decide_eq_false (by omega)
      clear hi'
      go_enter Try.func24, Try.ntmps24
      go_wp2
      go_ret
      rw [HR.out]
      exact ⟨retB (by first | (simp; done) | (simp; omega)), 0, rfl⟩
  · have HR : Hid (r = false) := by rw [hi']; exact decide_eq_false (by omega)
    clear hi'
    go_enter Try.func24, Try.ntmps24
    go_wp2
    go_ret
    rw [HR.out]
    exact .mk0
end Go.Proofs.Ytbpigeipjeegiaa

