/-
  Contracts of the laws' helpers on seeds.
-/
import Derived.Test.YtfkjnaaplhcheaaSe2
namespace Go.Proofs.Ytfkjnaaplhcheaa
open Go Go.RowKit

set_option maxHeartbeats 400000 in
theorem toSeed_any (k a b : Int) (w : World) : Calls Try.prog 35 #[.agg #[.int .i64 k, .int .u64 a, .int .u64 b]] w (fun e w' => e = .returned (.agg #[.int .i64 k, .int .u64 a, .int .u64 b]) ∧ Below w.heap.size w w') := by
  go_enter Try.func35, Try.ntmps35
  go_wp2
  refine bodyPost_ret (v := .agg #[.int .i64 k, .int .u64 a, .int .u64 b]) (by simp [results, Try.results35, go_sem]) rfl ⟨rfl, ?_⟩
  exact below_al (below_al (below_al (Below.refl _ _) _) _) _
set_option maxHeartbeats 400000 in
theorem eqSeed_yes (k a b : Int) (w : World) : Calls Try.prog 37 #[.agg #[.int .i64 k, .int .u64 a, .int .u64 b], .agg #[.int .i64 k, .int .u64 a, .int .u64 b]] w (fun e w' => e = .returned (.bool true) ∧ Below w.heap.size w w') := by
  go_enter Try.func37, Try.ntmps37
  go_wp2
  go_ret
  exact ⟨rfl, below_al (below_al (Below.refl _ _) _) _⟩

/-- seeds one after another; shares one after another -/
def sdT (k a b : Int) : Nat → Int × Int
  | 0 => (a, b)
  | t + 1 => (nA k (sdT k a b t).1 (sdT k a b t).2, nB k (sdT k a b t).1 (sdT k a b t).2)
def uT (k a b : Int) (t : Nat) : Nat := nU k (sdT k a b t).1 (sdT k a b t).2
theorem nU_fin (k a b : Int) : isFin Ieee.single (nU k a b) = true ∧ isNan Ieee.single (nU k a b) = false := by
  have h := (share_fin (word_low k a b).1).1
  exact ⟨h, fin_not_nan h⟩
/-- where a walk is -/
def posT (xs : List Nat) (n : Nat) (k a b : Int) (i : Nat) : Nat → Nat
  | 0 => i
  | t + 1 => onC xs n (posT xs n k a b i t) (uT k a b t)
theorem posT_lt {xs : List Nat} {n : Nat} {k a b : Int} {i : Nat} (hl : xs.length = n * n) (hi : i < n) : ∀ t, posT xs n k a b i t < n := by
  intro t
  induction t with
  | zero => exact hi
  | succ t ih => exact onC_lt hl ih
def walkL (xs : List Nat) (n : Nat) (k a b : Int) (i m : Nat) : List Int := (List.range m).map fun t => (posT xs n k a b i t : Int)
theorem walkL_len (xs : List Nat) (n : Nat) (k a b : Int) (i m : Nat) : (walkL xs n k a b i m).length = m := by simp [walkL]
theorem walkL_succ (xs : List Nat) (n : Nat) (k a b : Int) (i m : Nat) : walkL xs n k a b i (m + 1) = walkL xs n k a b i m ++ [(posT xs n k a b i m : Int)] := by
  unfold walkL
  rw [List.range_succ, List.map_append]
  rfl
end Go.Proofs.Ytfkjnaaplhcheaa

