/-
  Tests on numbers: within bounds; the world is as it was.
-/
import Derived.Test.YtbpigeipjeegiaaRj
import Derived.Test.YtbpigeipjeegiaaOut
import Derived.WalkLawsBesides
import Derived.Deep.QuietTactic
import Derived.BigQuiet
namespace Go.Proofs.Ytbpigeipjeegiaa
open Go Go.RowKit

theorem inB_yes {n a b : Int} (h1 : a ≤ n) (h2 : n ≤ b) : inB n a b = true := decide_eq_true ⟨h1, h2⟩
theorem inB_of {n a b : Int} (h : inB n a b = true) : a ≤ n ∧ n ≤ b := of_decide_eq_true h
theorem within_same (n a b : Int) (w : World) : Calls Try.prog 24 #[.int .i64 n, .int .i64 a, .int .i64 b] w (fun e w' => e = .returned (.bool (inB n a b)) ∧ w = w') := by
  have HI : Hid (inB n a b = decide (a ≤ n ∧ n ≤ b)) := Lib.hid rfl
  generalize inB n a b = r at *
  by_cases h1 : a ≤ n
  · by_cases h2 : n ≤ b
    all_goals
      go_enter Try.func24, Try.ntmps24
      go_wp2
      go_ret
      rw [HI.out]
      exact ⟨by simp [h1, h2], rfl⟩
  · go_enter Try.func24, Try.ntmps24
    go_wp2
    go_ret
    rw [HI.out]
    exact ⟨by simp; omega, rfl⟩
def BoolOut (b : Bool) (w : World) (e : Ending) (w' : World) : Prop := e = .returned (.bool b) ∧ Below w.heap.size w w'
def SameOut (v : Value) (w : World) (e : Ending) (w' : World) : Prop := e = .returned v ∧ w = w'
end Go.Proofs.Ytbpigeipjeegiaa

