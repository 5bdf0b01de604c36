/-
  Seeds that are drawn from a source: valid.
-/
import Derived.Test.YtckdbnnkabgopaaDoorSc2
import Derived.Deep.DeepCutAuto
namespace Go.Proofs.YtckdbnnkabgopaaDoor
open Go Go.RowKit

theorem xor_self_div {y k : Nat} (hy : 0 < y) (hk : 1 < k) : y ^^^ (y / k) ≠ 0 := by
  intro h
  have e : y = y / k := by
    have := congrArg (fun z => z ^^^ (y / k)) h
    simpa [Nat.xor_assoc] using this
  have := Nat.div_lt_self hy hk
  omega
theorem mul_odd_ne {z c d M : Nat} (hz : 0 < z ∧ z < M) (hcd : c * d % M = 1) : z * c % M ≠ 0 := by
  intro h
  have h1 : z * c * d % M = 0 := by rw [Nat.mul_mod, h, Nat.zero_mul, Nat.zero_mod]
  have h2 : z * c * d % M = z := by rw [Nat.mul_assoc, Nat.mul_mod, hcd, Nat.mul_one, Nat.mod_mod, Nat.mod_eq_of_lt hz.2]
  omega
theorem mixF_ne {x : Int} (h : 0 < x ∧ x < 18446744073709551616) : mixF x ≠ 0 := by
  obtain ⟨n, rfl⟩ := Int.eq_ofNat_of_zero_le (show 0 ≤ x by omega)
  have hn : 0 < n ∧ n < 18446744073709551616 := by omega
  have step : ∀ (m k c d : Nat), 0 < m ∧ m < 18446744073709551616 → 1 < k → c * d % 18446744073709551616 = 1 → ∃ r : Nat, (0 < r ∧ r < 18446744073709551616) ∧ IntKind.u64.wrap (bits .xor .u64 (m : Int) ((m : Int) / (k : Int)) * (c : Int)) = (r : Int) := fun m k c d hm hk hcd => by
    have hq := Nat.div_le_self m k
    have e : ((m : Int) / (k : Int)) = ((m / k : Nat) : Int) := by rw [Int.natCast_ediv]
    rw [e, bits_xor_u64_nat m (m / k) hm.2 (by omega), IntKind.wrap_u64]
    have hx : m ^^^ (m / k) < 18446744073709551616 := by
      have := Nat.xor_lt_two_pow (n := 64) (x := m) (y := m / k) (by omega) (by omega)
      exact this
    have h0 := mul_odd_ne (z := m ^^^ (m / k)) (c := c) (d := d) (M := 18446744073709551616) ⟨Nat.pos_of_ne_zero (xor_self_div hm.1 hk), hx⟩ hcd
    refine ⟨(m ^^^ (m / k)) * c % 18446744073709551616, ⟨Nat.pos_of_ne_zero h0, Nat.mod_lt _ (by decide)⟩, ?_⟩
    rw [Int.natCast_emod, Int.natCast_mul]
    rfl
  obtain ⟨r1, h1, e1⟩ := step n 1073741824 13787848793156543929 10871156337175269513 hn (by decide) (by decide +kernel)
  obtain ⟨r2, h2, e2⟩ := step r1 134217728 10723151780598845931 3573116690164977347 h1 (by decide) (by decide +kernel)
  have hy : mixY (n : Int) = r1 := e1
  have hz : mixZ (mixY (n : Int)) = r2 := by rw [hy]; exact e2
  have hq := Nat.div_le_self r2 2147483648
  unfold mixF
  rw [hz, show ((r2 : Int) / 2147483648) = ((r2 / 2147483648 : Nat) : Int) by rw [Int.natCast_ediv]; rfl, bits_xor_u64_nat r2 _ h2.2 (by omega)]
  have := xor_self_div (y := r2) (k := 2147483648) h2.1 (by decide)
  omega
end Go.Proofs.YtckdbnnkabgopaaDoor
