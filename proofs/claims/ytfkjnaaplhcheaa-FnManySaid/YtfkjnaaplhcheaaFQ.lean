/-
  Count seeds: all parts looked at.
  Shift seeds: all parts looked at.
-/
import Derived.Test.YtfkjnaaplhcheaaFC0
import Derived.Test.YtfkjnaaplhcheaaFC1
import Derived.Test.YtfkjnaaplhcheaaFS0
import Derived.Test.YtfkjnaaplhcheaaFS1
namespace SeedFact
namespace C6
theorem all_parts : ∀ z, z < 13312 → part z = true := by
  intro z h
  by_cases h0 : z < 6656
  · exact f0 z (by omega) h0
  by_cases h1 : z < 13312
  · exact f1 z (by omega) h1
  omega
theorem no_run (s : Nat) : ¬ ∀ k, 1 ≤ k → k ≤ 51 → 4294967296 - 2 * 3 ≤ wordS ((s + k * 11400714819323198485) % 18446744073709551616) := by
  intro h
  obtain ⟨k, h1, h2, h3⟩ := some_zero s
  have w0 := wordS_high (r := 3) (by decide) (h k h1 (by omega))
  have w1 := wordS_high (r := 3) (by decide) (h (k+1) (by omega) (by omega))
  have w2 := wordS_high (r := 3) (by decide) (h (k+2) (by omega) (by omega))
  have hS : (s + k * 11400714819323198485) % 18446744073709551616 < 2^64 := mod64 _
  have e1 : ((s + k * 11400714819323198485) % 18446744073709551616 + 11400714819323198485) % 18446744073709551616 = (s + (k+1) * 11400714819323198485) % 18446744073709551616 := by clear w0 w1 w2 h h3; omega
  have e2 : ((s + k * 11400714819323198485) % 18446744073709551616 + 4354685564936845354) % 18446744073709551616 = (s + (k+2) * 11400714819323198485) % 18446744073709551616 := by clear w0 w1 w2 h h3; omega
  have hc := covered all_parts (v := 18446744073709551616 - postL ((s + k * 11400714819323198485) % 18446744073709551616)) (u := uOf ((s + k * 11400714819323198485) % 18446744073709551616)) (by clear w1 w2 e1 e2; omega) (uOf_window _) (uOf_fields h3)
  rw [preL_uOf hS, e1, e2] at hc
  exact hc ⟨hitL_of (by decide) w1, hitL_of (by decide) w2⟩
end C6
end SeedFact
namespace SeedFact
namespace S6
theorem all_parts : ∀ z, z < 49152 → part z = true := by
  intro z h
  by_cases h0 : z < 24576
  · exact f0 z (by omega) h0
  by_cases h1 : z < 49152
  · exact f1 z (by omega) h1
  omega
theorem top_lt {x : Nat} (h : 18446744073709551616 - 25769803776 ≤ x * 2685821657736338717 % 18446744073709551616) : topS x = true := Nat.ble_eq_true_of_le (Nat.le_trans (by decide) h)
theorem hit_of {x : Nat} (h : 18446744073709551616 - 25769803776 ≤ x * 2685821657736338717 % 18446744073709551616) : hitS 25769803776 x = 18446744073709551616 := by
  have hv : x * 2685821657736338717 % 18446744073709551616 < 18446744073709551616 := Nat.mod_lt _ (by decide)
  rw [hitS]
  generalize x * 2685821657736338717 % 18446744073709551616 = v at *
  have hb : (v + 25769803776).testBit 64 = true := by
    rw [Nat.testBit_eq_decide_div_mod_eq, show (v + 25769803776) / 2^64 % 2 = 1 by omega]
    rfl
  show (v + 25769803776) &&& 2^64 = 2^64
  apply Nat.eq_of_testBit_eq
  intro j
  rw [Nat.testBit_and, Nat.testBit_two_pow]
  by_cases e : 64 = j
  · subst e
    rw [hb]
    rfl
  · simp [e]
theorem inv_S {x v t : Nat} (hx : x < 18446744073709551616) (hv : v < 18446744073709551616) (h : 18446744073709551616 * t + v = x * 2685821657736338717) : x = 12031615345788793547 * (18446744073709551616 - v) % 18446744073709551616 := by omega
theorem xor_bit (x y : Nat) : (x ^^^ y) % 2 = (x % 2 + y % 2) % 2 := by
  have h := Nat.xor_mod_two_pow (a := x) (b := y) (n := 1)
  rw [show 2^1 = 2 from rfl] at h
  rw [h]
  rcases Nat.mod_two_eq_zero_or_one x with h1 | h1 <;> rcases Nat.mod_two_eq_zero_or_one y with h2 | h2 <;> rw [h1, h2] <;> rfl
theorem low_next {x : Nat} : stL x % 2 = (x % 2 + x / 128 % 2) % 2 := by
  have hX : stX x % 2 = x % 2 := by
    rw [stX, Nat.mod_mod_of_dvd _ (by decide), xor_bit]
    omega
  have hX7 : stX x / 128 % 2 = x / 128 % 2 := by
    have h : (stX x).testBit 7 = x.testBit 7 := by
      rw [stX, show 18446744073709551616 = 2^64 from rfl, Nat.testBit_mod_two_pow, Nat.testBit_xor, show 8192 = 2^13 from rfl, ← Nat.shiftLeft_eq, Nat.testBit_shiftLeft]
      simp
    rw [Nat.testBit_eq_decide_div_mod_eq, Nat.testBit_eq_decide_div_mod_eq] at h
    have h2 := decide_eq_decide.mp h
    rw [show 2^7 = 128 from rfl] at h2
    omega
  have hY : stY (stX x) % 2 = (x % 2 + x / 128 % 2) % 2 := by
    rw [stY, xor_bit, Nat.shiftRight_eq_div_pow, show 2^7 = 128 from rfl, hX, hX7]
  rw [stL, stZ, Nat.mod_mod_of_dvd _ (by decide), xor_bit, hY]
  omega
theorem iter_at {α : Type} (f : α → α) (x : α) : ∀ n k, iter f (n + k) x = iter f n (iter f k x)
  | _, 0 => rfl
  | n, k+1 => iter_at f (f x) n k
theorem it_lt {x : Nat} (hx : x < 18446744073709551616) : ∀ k, iter stL k x < 18446744073709551616
  | 0 => hx
  | k+1 => it_lt (x := stL x) (stL_lt x) k
theorem win1 {v : Nat} (h : v < 18446744073709551616) : 1 ≤ 18446744073709551616 - v := by omega
theorem win2 {v : Nat} (h : 18446744073709551616 - 25769803776 ≤ v) : 18446744073709551616 - v ≤ 25769803776 := by omega
theorem rise {y : Nat} (h0 : y % 2 = 0) (h1 : (y % 2 + y / 128 % 2) % 2 = 1) : y / 128 % 2 = 1 := by omega
theorem no_run {x : Nat} (hx : x < 18446744073709551616) (h0 : x ≠ 0) : ¬ ∀ k, k < 64 → 18446744073709551616 - 25769803776 ≤ iter stL k x * 2685821657736338717 % 18446744073709551616 := by
  intro h
  by_cases hr : ∀ k, k + 1 < 63 → ¬ (iter stL k x % 2 = 0 ∧ iter stL (k+1) x % 2 = 1)
  · have g0 := h 0 (by decide)
    have g1 := h 1 (by decide)
    rw [iter_zero] at g0
    rw [iter_succ, iter_zero] at g1
    exact never_rises hx h0 hr ⟨top_lt g0, top_lt g1⟩
  · refine hr fun k hk ⟨b0, b1⟩ => ?_
    have hk0 := h k (by omega)
    have hk1 := h (1 + k) (by omega)
    have hk2 := h (2 + k) (by omega)
    rw [iter_at] at hk1 hk2
    rw [show k + 1 = 1 + k by omega, iter_at] at b1
    have hl := it_lt hx k
    generalize iter stL k x = y at *
    have e1 : iter stL 1 y = stL y := by rw [iter_succ, iter_zero]
    have e2 : iter stL 2 y = stL (stL y) := by rw [iter_succ, iter_succ, iter_zero]
    rw [e1] at hk1 b1
    rw [e2] at hk2
    rw [low_next] at b1
    have hv : y * 2685821657736338717 % 18446744073709551616 < 18446744073709551616 := Nat.mod_lt _ (by decide)
    have a1 := win1 hv
    have a2 := win2 hk0
    have a3 := inv_S hl hv (Nat.div_add_mod _ _)
    have a4 := rise b0 b1
    have a5 := hit_of hk1
    have a6 := hit_of hk2
    exact covered all_parts a1 a2 a3 b0 a4 ⟨a5, a6⟩
end S6
end SeedFact
