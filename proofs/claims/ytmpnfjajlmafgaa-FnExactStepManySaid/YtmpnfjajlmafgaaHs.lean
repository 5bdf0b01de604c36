/-
  HolmMany and StepMany, plain: what is put where.
-/
import Derived.Test.YtmpnfjajlmafgaaHo
namespace Go.Proofs.Ytmpnfjajlmafgaa
open Go Go.RowKit Go.Sort Ieee

/-- a row behind k stores: at d[j] lies g (j + 1), j below k -/
def outTo (g : Nat → Nat) (d : Array Nat) : Nat → Nat → Nat
  | 0, _ => 0
  | k + 1, p => if p = d[k]! then g (k + 1) else outTo g d k p
def outL (g : Nat → Nat) (d : Array Nat) (n : Nat) : List Nat := (List.range n).map (outTo g d n)
theorem outL_len (g : Nat → Nat) (d : Array Nat) (n : Nat) : (outL g d n).length = n := by simp [outL]
theorem outTo_congr {g g' : Nat → Nat} {d d' : Array Nat} : ∀ k, (∀ j, j < k → g (j + 1) = g' (j + 1)) → (∀ j, j < k → d[j]! = d'[j]!) → ∀ p, outTo g d k p = outTo g' d' k p
  | 0, _, _, _ => rfl
  | k + 1, h, h', p => by
    show (if _ then _ else _) = (if _ then _ else _)
    rw [h k (by omega), h' k (by omega), outTo_congr k (fun j hj => h j (by omega)) (fun j hj => h' j (by omega)) p]
theorem outL_congr {g g' : Nat → Nat} {d d' : Array Nat} {n : Nat} (h : ∀ j, j < n → g (j + 1) = g' (j + 1)) (h' : ∀ j, j < n → d[j]! = d'[j]!) : outL g d n = outL g' d' n := by
  unfold outL
  exact List.map_congr_left fun p _ => outTo_congr n h h' p
/-- two orders of one list are one -/
theorem OrdTo.same {K : Nat → Nat} {n : Nat} {d e : Array Nat} (h : OrdTo K n d) (h' : OrdTo K n e) : ∀ p, p < n → d[p]! = e[p]! := by
  refine srt_unique h.s h'.s (fun p hp => ?_) (fun p hp => ?_)
  · obtain ⟨q, -, q2, q3⟩ := (h'.m.2.1 d[p]!).1 ⟨d[p]!, Nat.zero_le _, h.lt hp, range_at (h.lt hp)⟩
    exact ⟨q, q2, q3⟩
  · obtain ⟨q, -, q2, q3⟩ := (h.m.2.1 e[p]!).1 ⟨e[p]!, Nat.zero_le _, h'.lt hp, range_at (h'.lt hp)⟩
    exact ⟨q, q2, q3⟩
theorem OrdTo.of_blk {K : Nat → Nat} {n : Nat} {d : Array Nat} (h : Blk K d 0 n) (h' : Same 0 n (Array.range n) d) : OrdTo K n d := ⟨by rw [h'.1]; simp, h.s, h'⟩

theorem int_fin : ∀ j : Nat, j < 65 → isFin single (floatOfInt .f32 (j : Int)) = true := by decide +kernel
theorem int_pos : ∀ j : Nat, j < 65 → 0 < j → 0 < key single (floatOfInt .f32 (j : Int)) := by decide +kernel
/-- a share times so many: HolmMany -/
def holmX (xs : List Nat) (d : Array Nat) (k : Nat) : Nat := fmul (xs.getD d[k]! 0) (floatOfInt .f32 ((xs.length - k : Nat) : Int))
theorem mul_run' {x j : Nat} (hx : partB x = true) (hj : j < 65) : floatBits .mul .f32 x (floatOfInt .f32 (j : Int)) = some (fmul x (floatOfInt .f32 (j : Int))) ∧ wordN (fmul x (floatOfInt .f32 (j : Int))) := by
  have := fmul_run (part_key hx).2.2.2 (int_fin j hj)
  exact ⟨this.1, this.2, fmul_lt _ _⟩
/-- an order's entries, read -/
def mostG (xs : List Nat) (d : Array Nat) (k : Nat) : Nat := capF (mostI (holmX xs d) k)
def holmL (xs : List Nat) (d : Array Nat) : List Nat := outL (mostG xs d) d xs.length
theorem holm_word {xs : List Nat} {d : Array Nat} (hp : xs.all partB = true) (hl : xs.length ≤ 64) (hd : ∀ k, k < xs.length → d[k]! < xs.length) : ∀ k, k < xs.length → wordN (holmX xs d k) := fun k hk =>
  (mul_run' (getD_part hp (hd k hk)) (by omega)).2
end Go.Proofs.Ytmpnfjajlmafgaa
