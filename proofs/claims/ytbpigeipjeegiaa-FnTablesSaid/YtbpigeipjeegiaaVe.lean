/-
  The tails of a table of 2 rows and 2 columns, plain: all of them are the ways of choosing; those to less and to more meet in the own weight.
-/
import Derived.Test.YtbpigeipjeegiaaVd
namespace Go.Proofs.Ytbpigeipjeegiaa
open Go Go.RowKit

def lessN (a b c d : Nat) : Nat := sumN (fun i => if i ≤ a - lowT a b d then wN a b c d i else 0) (manyT a b c d)
def bothN (a b c d : Nat) : Nat := sumN (fun i => if wN a b c d i ≤ wN a b c d (a - lowT a b d) then wN a b c d i else 0) (manyT a b c d)
def ownN (a b c d : Nat) : Nat := wN a b c d (a - lowT a b d)
theorem wN_all {a b c d : Nat} (h : a + b + c + d ≤ 60) : sumN (wN a b c d) (manyT a b c d) ≤ 1152921504606846976 := by
  rw [wN_sum]
  exact pas_small h _
theorem less_tl {a b c d : Nat} (h : a + b + c + d ≤ 60) : tl2 (fun i => decide (i ≤ a - lowT a b d)) (wI2 a b c d) (manyT a b c d) = (((lessN a b c d : Nat) : Int), ((pas (a + b + c + d) (a + b) : Nat) : Int)) := by
  rw [wI2_nat, tl2_nat _ _ _ (wN_all h), wN_sum]
  unfold lessN
  simp only [decide_eq_true_eq]
theorem both_tl {a b c d : Nat} (h : a + b + c + d ≤ 60) : tl2 (fun i => decide (wI2 a b c d i ≤ wI2 a b c d (a - lowT a b d))) (wI2 a b c d) (manyT a b c d) = (((bothN a b c d : Nat) : Int), ((pas (a + b + c + d) (a + b) : Nat) : Int)) := by
  rw [wI2_nat, tl2_nat _ _ _ (wN_all h), wN_sum]
  unfold bothN
  simp only [decide_eq_true_eq, Int.ofNat_le]
theorem exact_tl {a b c d : Nat} (h : a + b + c + d ≤ 60) : tails 2 2 (wIn 2 (wOf 2 [a, b, c, d])) [a, b, c, d] = (((bothN a b c d : Nat) : Int), ((pas (a + b + c + d) (a + b) : Nat) : Int)) := by
  rw [← both_tl h]
  refine tails_two h _ _ fun i hi => ?_
  unfold wIn
  rw [wOf_at h hi, wOf_own h]
theorem pas_pos : ∀ {n k : Nat}, k ≤ n → 1 ≤ pas n k
  | n, 0, _ => by rw [pas_zero]; exact Nat.le_refl _
  | 0, k + 1, h => by omega
  | n + 1, k + 1, h => by
    rw [pas_succ]
    have := pas_pos (n := n) (k := k) (by omega)
    omega
theorem own_in (a b c d : Nat) : a - lowT a b d < manyT a b c d := by
  unfold manyT lowT
  omega
theorem own_pos (a b c d : Nat) : 1 ≤ ownN a b c d := by
  unfold ownN wN wt2
  have e : lowT a b d + (a - lowT a b d) = a := by unfold lowT; omega
  rw [e]
  exact Nat.mul_le_mul (pas_pos (by omega)) (pas_pos (by omega))
theorem own_eq (a b c d : Nat) : ownN a b c d = pas (a + c) a * pas (b + d) b := by
  unfold ownN wN wt2
  have e : lowT a b d + (a - lowT a b d) = a := by unfold lowT; omega
  rw [e, Nat.add_sub_cancel_left]
theorem less_own (a b c d : Nat) : ownN a b c d ≤ lessN a b c d := by
  have := sumN_term (f := fun i => if i ≤ a - lowT a b d then wN a b c d i else 0) (own_in a b c d)
  simp only [Nat.le_refl, if_true] at this
  exact this
theorem both_own (a b c d : Nat) : ownN a b c d ≤ bothN a b c d := by
  have := sumN_term (f := fun i => if wN a b c d i ≤ wN a b c d (a - lowT a b d) then wN a b c d i else 0) (own_in a b c d)
  simp only [Nat.le_refl, if_true] at this
  exact this
theorem less_le (a b c d : Nat) : lessN a b c d ≤ pas (a + b + c + d) (a + b) := by
  rw [← wN_sum]
  exact sumN_le _ fun i _ => by split <;> omega
theorem many_turn (a b c d : Nat) : manyT c d a b = manyT a b c d := by
  unfold manyT lowT
  omega
theorem wN_turn {a b c d j : Nat} (h : j < manyT a b c d) : wN c d a b j = wN a b c d (manyT a b c d - 1 - j) := by
  unfold wN wt2
  have h1 : lowT a b d + (manyT a b c d - 1 - j) + (lowT c d b + j) = a + c := by unfold manyT lowT at *; omega
  have h2 : lowT a b d + (manyT a b c d - 1 - j) ≤ a + b := by unfold manyT lowT at *; omega
  have h3 : lowT c d b + j ≤ c + d := by unfold manyT lowT at *; omega
  have h4 : a + b - (lowT a b d + (manyT a b c d - 1 - j)) ≤ b + d := by unfold manyT lowT at *; omega
  generalize lowT a b d + (manyT a b c d - 1 - j) = x at *
  generalize lowT c d b + j = y at *
  rw [show c + a = a + c by omega, show d + b = b + d by omega, pas_symm (a + c) y (by omega), show a + c - y = x by omega, pas_symm (b + d) (c + d - y) (by omega), show b + d - (c + d - y) = a + b - x by omega]
/-- the two tails meet in the own weight -/
theorem less_turn (a b c d : Nat) : lessN a b c d + lessN c d a b = pas (a + b + c + d) (a + b) + ownN a b c d := by
  have h := sumN_ends (wN a b c d) (own_in a b c d)
  rw [wN_sum] at h
  rw [show lessN c d a b = sumN (fun j => if j ≤ manyT a b c d - 1 - (a - lowT a b d) then wN a b c d (manyT a b c d - 1 - j) else 0) (manyT a b c d) from ?_]
  · exact h
  · unfold lessN
    rw [many_turn]
    refine sumN_congr _ fun j hj => ?_
    rw [wN_turn hj, show c - lowT c d b = manyT a b c d - 1 - (a - lowT a b d) by unfold manyT lowT at *; omega]
end Go.Proofs.Ytbpigeipjeegiaa
