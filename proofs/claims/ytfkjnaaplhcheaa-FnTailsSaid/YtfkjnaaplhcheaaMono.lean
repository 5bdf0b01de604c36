/-
  Rounding is monotone: what is not greater than a number of the format rounds to nothing greater. No program.
-/
import Derived.Test.YtfkjnaaplhcheaaVal
namespace Go.Proofs.Ytfkjnaaplhcheaa
open Go Ieee

theorem mul_pow_add (a b c : Nat) : a * 2 ^ (b + c) = a * 2 ^ b * 2 ^ c := by rw [Nat.pow_add, Nat.mul_assoc]

theorem kept_err (f : Format) (mag : Nat) (place B : Int) (h1 : B ≤ place) (h2 : B ≤ f.leastPlace) :
    2 * (keptOf f mag place * 2 ^ ((lastOf f mag place - f.leastPlace).toNat + (f.leastPlace - B).toNat)) ≤ 2 * (mag * 2 ^ (place - B).toNat) + 2 ^ ((lastOf f mag place - f.leastPlace).toNat + (f.leastPlace - B).toNat) ∧
    2 * (mag * 2 ^ (place - B).toNat) ≤ 2 * (keptOf f mag place * 2 ^ ((lastOf f mag place - f.leastPlace).toNat + (f.leastPlace - B).toNat)) + 2 ^ ((lastOf f mag place - f.leastPlace).toNat + (f.leastPlace - B).toNat) := by
  have hl : f.leastPlace ≤ lastOf f mag place := by unfold lastOf; omega
  unfold keptOf
  generalize lastOf f mag place = last at *
  by_cases hlp : last ≤ place
  · have e1 : (last - place).toNat = 0 := by omega
    have e2 : (place - B).toNat = (place - last).toNat + ((last - f.leastPlace).toNat + (f.leastPlace - B).toNat) := by omega
    rw [e1, cut_zero, Nat.shiftLeft_eq, e2, mul_pow_add mag]
    exact ⟨Nat.le_add_right _ _, Nat.le_add_right _ _⟩
  · have e1 : (place - last).toNat = 0 := by omega
    have e2 : (last - f.leastPlace).toNat + (f.leastPlace - B).toNat = (last - place).toNat + (place - B).toNat := by omega
    rw [e1, Nat.shiftLeft_zero, e2, mul_pow_add, Nat.pow_add]
    obtain ⟨c1, c2⟩ := cut_even mag (last - place).toNat
    generalize Toward.even.cut false mag (last - place).toNat * 2 ^ (last - place).toNat = k at *
    generalize 2 ^ (last - place).toNat = g at *
    generalize 2 ^ (place - B).toNat = p at *
    have m1 := Nat.mul_le_mul_right p c1
    have m2 := Nat.mul_le_mul_right p c2
    rw [Nat.add_mul, Nat.mul_assoc, Nat.mul_assoc] at m1 m2
    exact ⟨m1, m2⟩

/-- the units of a rung told by its stair and its digits -/
theorem mu_stair (f : Format) (e k : Nat) (h : e = 0 ∨ f.binade ≤ k) (h2 : k ≤ 2 * f.binade) : mu f (e * f.binade + k) = k * 2 ^ e := by
  have hb := binade_pos f
  unfold mu
  by_cases hk : k < f.binade
  · have he : e = 0 := by omega
    subst he
    rw [Nat.zero_mul, Nat.zero_add, if_pos hk, Nat.pow_zero, Nat.mul_one]
  · rw [if_neg (by have := Nat.zero_le (e * f.binade); omega)]
    by_cases h3 : k = 2 * f.binade
    · subst h3
      have e1 : e * f.binade + 2 * f.binade = (e + 2) * f.binade := by rw [Nat.add_mul]
      rw [e1, Nat.mul_mod_left, Nat.mul_div_cancel _ hb, Nat.add_zero, show e + 2 - 1 = e + 1 by omega, Nat.pow_succ, Nat.mul_comm 2 f.binade, Nat.mul_assoc, Nat.mul_comm 2]
    · have e1 : e * f.binade + k = f.binade * (e + 1) + (k - f.binade) := by rw [Nat.mul_add, Nat.mul_one, Nat.mul_comm]; omega
      rw [e1, Nat.mul_add_mod, Nat.mul_add_div hb, Nat.mod_eq_of_lt (by omega), Nat.div_eq_of_lt (show k - f.binade < f.binade by omega), Nat.add_zero, Nat.add_sub_cancel, show f.binade + (k - f.binade) = k by omega]

/-- what is not greater than a number of the format rounds to nothing greater -/
theorem rungTo_mono (f : Format) (mag : Nat) (place B : Int) (r : Nat) (h1 : B ≤ place) (h2 : B ≤ f.leastPlace) (hM : mag * 2 ^ (place - B).toNat ≤ mu f r * 2 ^ (f.leastPlace - B).toNat) : rungTo f mag place ≤ r := by
  unfold rungTo
  split
  · exact Nat.zero_le _
  · rename_i hm
    refine Nat.le_trans (Nat.min_le_left _ _) ?_
    obtain ⟨c1, c2⟩ := kept_err f mag place B h1 h2
    have hlog : mag < 2 ^ (mag.log2 + 1) := Nat.lt_log2_self
    have hlog2 : 2 ^ mag.log2 ≤ mag := Nat.log2_self_le hm
    have hlast : lastOf f mag place = max (place + mag.log2 - f.fractionBits) f.leastPlace := rfl
    have hbin : f.binade = 2 ^ f.fractionBits := rfl
    have hb := binade_pos f
    generalize keptOf f mag place = k at *
    have hl : f.leastPlace ≤ lastOf f mag place := by omega
    obtain ⟨e, he⟩ : ∃ e, (lastOf f mag place - f.leastPlace).toNat = e := ⟨_, rfl⟩
    obtain ⟨L, hL⟩ : ∃ L, (f.leastPlace - B).toNat = L := ⟨_, rfl⟩
    obtain ⟨P, hP⟩ : ∃ P, (place - B).toNat = P := ⟨_, rfl⟩
    rw [he, hL, hP] at c1 c2
    rw [hL, hP] at hM
    rw [he]
    have hpe : 0 < 2 ^ (e + L) := Nat.two_pow_pos _
    -- less than two stairs
    have up : mag * 2 ^ P < 2 * f.binade * 2 ^ (e + L) := by
      have a1 : mag * 2 ^ P < 2 ^ (mag.log2 + 1) * 2 ^ P := Nat.mul_lt_mul_of_pos_right hlog (Nat.two_pow_pos _)
      rw [← Nat.pow_add] at a1
      have a2 : 2 * f.binade * 2 ^ (e + L) = 2 ^ (1 + f.fractionBits + (e + L)) := by rw [hbin, Nat.pow_add 2 (1 + f.fractionBits), Nat.pow_add 2 1, Nat.pow_one]
      rw [a2]
      exact Nat.lt_of_lt_of_le a1 (Nat.pow_le_pow_right (by decide) (by omega))
    have hk2 : k ≤ 2 * f.binade := by
      rcases Nat.lt_or_ge (2 * f.binade) k with hlt | hge
      · exfalso
        have a1 := Nat.mul_le_mul_right (2 ^ (e + L)) (show 2 * f.binade + 1 ≤ k by omega)
        rw [Nat.add_mul, Nat.one_mul] at a1
        omega
      · exact hge
    have lo : 0 < e → f.binade * 2 ^ (e + L) ≤ mag * 2 ^ P := fun h0 => by
      have a1 : 2 ^ mag.log2 * 2 ^ P ≤ mag * 2 ^ P := Nat.mul_le_mul_right _ hlog2
      rw [← Nat.pow_add] at a1
      have a2 : f.binade * 2 ^ (e + L) = 2 ^ (mag.log2 + P) := by rw [hbin, ← Nat.pow_add]; congr 1; omega
      rw [a2]
      exact a1
    have hk1 : 0 < e → f.binade ≤ k := fun h0 => by
      rcases Nat.lt_or_ge k f.binade with hlt | hge
      · exfalso
        have a0 := lo h0
        have a1 := Nat.mul_le_mul_right (2 ^ (e + L)) (show k + 1 ≤ f.binade by omega)
        rw [Nat.add_mul, Nat.one_mul] at a1
        omega
      · exact hge
    rcases Nat.lt_or_ge r (e * f.binade + k) with hlt | hge
    · exfalso
      by_cases hc : e = 0 ∨ f.binade < k
      · have hkp : 0 < k := by
          rcases hc with h | h
          · subst h; omega
          · omega
        have hmu : mu f (e * f.binade + (k - 1)) = (k - 1) * 2 ^ e := mu_stair f e (k - 1) (by omega) (by omega)
        have hle : mu f r ≤ mu f (e * f.binade + (k - 1)) := (mu_le_iff f _ _).2 (by omega)
        rw [hmu] at hle
        have a1 := Nat.mul_le_mul_right (2 ^ L) hle
        rw [Nat.mul_assoc, ← Nat.pow_add] at a1
        have a2 : k * 2 ^ (e + L) = (k - 1) * 2 ^ (e + L) + 2 ^ (e + L) := by
          rw [← Nat.succ_mul]
          congr 1
          omega
        omega
      · have hk3 : k = f.binade := by have := hk1 (by omega); omega
        have hmu : mu f (e * f.binade + k) = k * 2 ^ e := mu_stair f e k (by omega) hk2
        have hlt2 : mu f r < mu f (e * f.binade + k) := mu_mono f hlt
        rw [hmu] at hlt2
        have a1 : mu f r * 2 ^ L < k * 2 ^ e * 2 ^ L := Nat.mul_lt_mul_of_pos_right hlt2 (Nat.two_pow_pos _)
        rw [Nat.mul_assoc, ← Nat.pow_add, hk3] at a1
        have := lo (by omega)
        omega
    · exact hge
end Go.Proofs.Ytfkjnaaplhcheaa

