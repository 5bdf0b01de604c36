/-
  Sums of products of numbers of choices (plain): Vandermonde; the tails of a table of 2 rows and 2 columns add up.
-/
import Derived.Test.YtbpigeipjeegiaaFy
namespace Go.Proofs.Ytbpigeipjeegiaa
open Go Go.RowKit

def sumN (f : Nat → Nat) : Nat → Nat
  | 0 => 0
  | k + 1 => sumN f k + f k
theorem sumN_congr {f g : Nat → Nat} : ∀ (k : Nat), (∀ i, i < k → f i = g i) → sumN f k = sumN g k
  | 0, _ => rfl
  | k + 1, h => by
    show sumN f k + f k = sumN g k + g k
    rw [h k (by omega), sumN_congr k fun i hi => h i (by omega)]
theorem sumN_add (f g : Nat → Nat) : ∀ (k : Nat), sumN (fun i => f i + g i) k = sumN f k + sumN g k
  | 0 => rfl
  | k + 1 => by
    show sumN (fun i => f i + g i) k + (f k + g k) = (sumN f k + f k) + (sumN g k + g k)
    rw [sumN_add f g k]
    omega
theorem sumN_zero {f : Nat → Nat} : ∀ (k : Nat), (∀ i, i < k → f i = 0) → sumN f k = 0
  | 0, _ => rfl
  | k + 1, h => by
    show sumN f k + f k = 0
    rw [h k (by omega), sumN_zero k fun i hi => h i (by omega)]
theorem sumN_split (f : Nat → Nat) (l : Nat) : ∀ (k : Nat), sumN f (l + k) = sumN f l + sumN (fun i => f (l + i)) k
  | 0 => rfl
  | k + 1 => by
    show sumN f (l + k) + f (l + k) = sumN f l + (sumN (fun i => f (l + i)) k + f (l + k))
    rw [sumN_split f l k]
    omega
theorem sumN_head (f : Nat → Nat) (k : Nat) : sumN f (k + 1) = f 0 + sumN (fun i => f (i + 1)) k := by
  rw [show k + 1 = 1 + k by omega, sumN_split]
  show 0 + f 0 + _ = _
  rw [Nat.zero_add, sumN_congr k fun i _ => by rw [Nat.add_comm]]
theorem sumN_rev (f : Nat → Nat) : ∀ (k : Nat), sumN (fun j => f (k - 1 - j)) k = sumN f k
  | 0 => rfl
  | k + 1 => by
    rw [sumN_head]
    show f (k + 1 - 1 - 0) + _ = sumN f k + f k
    rw [← sumN_rev f k, sumN_congr k (g := fun j => f (k - 1 - j)) fun i _ => by rw [show k + 1 - 1 - (i + 1) = k - 1 - i by omega], show k + 1 - 1 - 0 = k by omega]
    omega
theorem sumN_term {f : Nat → Nat} : ∀ {k i : Nat}, i < k → f i ≤ sumN f k
  | k + 1, i, h => by
    show f i ≤ sumN f k + f k
    by_cases hi : i = k
    · subst hi
      omega
    · have := sumN_term (f := f) (show i < k by omega)
      omega
theorem sumN_le {f g : Nat → Nat} : ∀ (k : Nat), (∀ i, i < k → f i ≤ g i) → sumN f k ≤ sumN g k
  | 0, _ => Nat.le_refl _
  | k + 1, h => Nat.add_le_add (sumN_le k fun i hi => h i (by omega)) (h k (by omega))
theorem sumN_one (f : Nat → Nat) : ∀ {k p : Nat}, p < k → sumN (fun i => if i = p then f i else 0) k = f p
  | k + 1, p, h => by
    show sumN (fun i => if i = p then f i else 0) k + (if k = p then f k else 0) = f p
    by_cases hk : k = p
    · subst hk
      rw [if_pos rfl, sumN_zero k fun i hi => if_neg (by omega), Nat.zero_add]
    · rw [if_neg hk, sumN_one f (show p < k by omega)]
      rfl
/-- the two ends meet in one term -/
theorem sumN_ends (w : Nat → Nat) {k p : Nat} (hp : p < k) : sumN (fun i => if i ≤ p then w i else 0) k + sumN (fun j => if j ≤ k - 1 - p then w (k - 1 - j) else 0) k = sumN w k + w p := by
  have h1 : sumN (fun j => if j ≤ k - 1 - p then w (k - 1 - j) else 0) k = sumN (fun i => if p ≤ i then w i else 0) k := by
    rw [← sumN_rev (fun i => if p ≤ i then w i else 0) k]
    refine sumN_congr k fun i hi => ?_
    by_cases h : i ≤ k - 1 - p
    · rw [if_pos h, if_pos (by omega)]
    · rw [if_neg h, if_neg (by omega)]
  rw [h1, ← sumN_add, ← sumN_one w hp, ← sumN_add]
  refine sumN_congr k fun i _ => ?_
  by_cases h : i = p
  · subst h
    simp
  · by_cases h2 : i ≤ p
    · rw [if_pos h2, if_neg (by omega), if_neg h]
    · rw [if_neg h2, if_pos (by omega), if_neg h]
      omega
/-- Vandermonde -/
theorem vander : ∀ (m n r : Nat), sumN (fun x => pas m x * pas n (r - x)) (r + 1) = pas (m + n) r
  | 0, n, r => by
    rw [sumN_head, sumN_zero r fun i _ => by rw [pas_over 0 (i + 1) (by omega), Nat.zero_mul], pas_zero, Nat.one_mul, Nat.zero_add]
    rfl
  | m + 1, n, r => by
    have ih := vander m n
    have e : ∀ i, pas (m + 1) (i + 1) = pas m i + pas m (i + 1) := fun i => pas_succ m i
    cases r with
    | zero =>
      rw [pas_zero]
      show 0 + pas (m + 1) 0 * pas n (0 - 0) = 1
      rw [pas_zero, pas_zero]
    | succ r =>
      have i1 := ih (r + 1)
      have i0 := ih r
      rw [show m + 1 + n = (m + n) + 1 by omega, pas_succ, ← i1, ← i0, sumN_head (fun x => pas (m + 1) x * pas n (r + 1 - x)), sumN_head (fun x => pas m x * pas n (r + 1 - x))]
      rw [sumN_congr (r + 1) (g := fun i => pas m i * pas n (r - i) + pas m (i + 1) * pas n (r + 1 - (i + 1))) fun i _ => by
        show pas (m + 1) (i + 1) * pas n (r + 1 - (i + 1)) = _
        rw [e, Nat.add_mul, show r + 1 - (i + 1) = r - i by omega], sumN_add, pas_zero, pas_zero]
      omega
/-- the weights of all tables of 2 rows and 2 columns -/
def wN (a b c d i : Nat) : Nat := wt2 (a + c) (b + d) (a + b) (lowT a b d + i)
theorem wI2_nat (a b c d : Nat) : wI2 a b c d = fun i => ((wN a b c d i : Nat) : Int) := rfl
theorem wN_sum (a b c d : Nat) : sumN (wN a b c d) (manyT a b c d) = pas (a + b + c + d) (a + b) := by
  have hv := vander (a + c) (b + d) (a + b)
  have e1 : a + b + 1 = lowT a b d + (manyT a b c d + (a + b - min (a + b) (a + c))) := by unfold manyT lowT; omega
  rw [show a + b + c + d = a + c + (b + d) by omega, ← hv, e1, sumN_split, sumN_split, sumN_zero (lowT a b d) fun i hi => ?_, sumN_zero (a + b - min (a + b) (a + c)) fun i hi => ?_, Nat.zero_add, Nat.add_zero]
  · rfl
  · rw [pas_over (a + c) _ (by unfold manyT lowT; omega), Nat.zero_mul]
  · rw [pas_over (b + d) _ (by unfold lowT at hi; omega), Nat.mul_zero]
theorem tl2_nat (inI : Nat → Bool) (w : Nat → Nat) : ∀ (k : Nat), sumN w k ≤ 1152921504606846976 → tl2 inI (fun i => ((w i : Nat) : Int)) k = (((sumN (fun i => if inI i = true then w i else 0) k : Nat) : Int), ((sumN w k : Nat) : Int))
  | 0, _ => rfl
  | k + 1, h => by
    have h' : sumN w k + w k ≤ 1152921504606846976 := h
    have ih := tl2_nat inI w k (by omega)
    have hle : sumN (fun i => if inI i = true then w i else 0) k ≤ sumN w k := sumN_le k fun i _ => by split <;> omega
    unfold tl2 at ih ⊢
    rw [foldN, ih]
    show (if inI k = true then IntKind.i64.wrap (((sumN (fun i => if inI i = true then w i else 0) k : Nat) : Int) + (w k : Int)) else ((sumN (fun i => if inI i = true then w i else 0) k : Nat) : Int), IntKind.i64.wrap (((sumN w k : Nat) : Int) + (w k : Int))) = (((sumN (fun i => if inI i = true then w i else 0) k + (if inI k = true then w k else 0) : Nat) : Int), ((sumN w k + w k : Nat) : Int))
    rw [show IntKind.i64.wrap (((sumN w k : Nat) : Int) + (w k : Int)) = ((sumN w k + w k : Nat) : Int) by rw [← Int.natCast_add]; exact IntWalk.i64_in _ (by omega)]
    by_cases hi : inI k = true
    · rw [if_pos hi, if_pos hi, ← Int.natCast_add, IntWalk.i64_in _ (by omega)]
    · rw [if_neg hi, if_neg hi, Nat.add_zero]
end Go.Proofs.Ytbpigeipjeegiaa
