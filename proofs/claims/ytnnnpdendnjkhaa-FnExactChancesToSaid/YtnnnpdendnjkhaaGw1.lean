/-
  How much a rounded sum and a rounded product may be greater or less than what is rounded. No program.
-/
import Derived.Test.YtnnnpdendnjkhaaRow
namespace Go.Proofs.Ytnnnpdendnjkhaa
open Go Ieee

/-- how many least units a number has -/
def val (x : Nat) : Nat := mu single (rungOf single x)
theorem bin_lit : single.binade = 8388608 := by decide +kernel
theorem inf_lit : single.infRung = 2139095040 := by decide +kernel
theorem least_lit : single.leastPlace = -149 := by decide +kernel
theorem mu_step (r : Nat) : mu single (r + 1) * 1024 ≤ mu single r * 1025 + 1024 := by
  have hb : single.binade = 8388608 := bin_lit
  obtain ⟨e, k, he, hk, hr⟩ : ∃ e k, (e = 0 ∨ single.binade ≤ k) ∧ k < 2 * single.binade ∧ r = e * single.binade + k := by
    rcases Nat.lt_or_ge r (2 * single.binade) with h | h
    · exact ⟨0, r, .inl rfl, h, by rw [Nat.zero_mul, Nat.zero_add]⟩
    · have hpos : 0 < single.binade := by omega
      have hd := Nat.div_add_mod r single.binade
      have hm := Nat.mod_lt r hpos
      have hq : 2 ≤ r / single.binade := (Nat.le_div_iff_mul_le hpos).2 h
      refine ⟨r / single.binade - 1, single.binade + r % single.binade, .inr (by omega), by omega, ?_⟩
      obtain ⟨q, hq2⟩ : ∃ q, r / single.binade = q + 1 := ⟨r / single.binade - 1, by omega⟩
      rw [hq2] at hd ⊢
      rw [Nat.mul_add, Nat.mul_one, Nat.mul_comm] at hd
      rw [Nat.add_sub_cancel]
      omega
  have h1 : mu single r = k * 2 ^ e := by rw [hr]; exact mu_stair single e k he (by omega)
  have h2 : mu single (r + 1) = (k + 1) * 2 ^ e := by
    rw [hr, Nat.add_assoc]
    exact mu_stair single e (k + 1) (by omega) (by omega)
  rw [h1, h2, Nat.add_mul, Nat.one_mul]
  rcases he with rfl | he
  · omega
  · have h3 : 8388608 * 2 ^ e ≤ k * 2 ^ e := Nat.mul_le_mul_right _ (by omega)
    have h4 : 1024 * 2 ^ e ≤ k * 2 ^ e := Nat.le_trans (Nat.mul_le_mul_right _ (by decide)) h3
    clear h3
    generalize 2 ^ e = p at *
    generalize k * p = kp at *
    omega
theorem rung_up (mag : Nat) (place B : Int) (h1 : B ≤ place) (h2 : B ≤ single.leastPlace) : mu single (rungTo single mag place) * 1024 * 2 ^ (single.leastPlace - B).toNat ≤ mag * 2 ^ (place - B).toNat * 1025 + 1024 * 2 ^ (single.leastPlace - B).toNat := by
  cases hr : rungTo single mag place with
  | zero => rw [mu_zero]; omega
  | succ s =>
    have hlt : mu single s * 2 ^ (single.leastPlace - B).toNat < mag * 2 ^ (place - B).toNat := by
      rcases Nat.lt_or_ge (mu single s * 2 ^ (single.leastPlace - B).toNat) (mag * 2 ^ (place - B).toNat) with h | h
      · exact h
      · have := rungTo_mono single mag place B s h1 h2 h
        omega
    have hs := Nat.mul_le_mul_right (2 ^ (single.leastPlace - B).toNat) (mu_step s)
    rw [Nat.add_mul, Nat.mul_right_comm (mu single s)] at hs
    generalize 2 ^ (single.leastPlace - B).toNat = L at *
    generalize mag * 2 ^ (place - B).toNat = M at *
    generalize mu single s * L = X at *
    generalize mu single (s + 1) * 1024 * L = Y at *
    exact Nat.le_trans hs (Nat.add_le_add_right (Nat.mul_le_mul_right 1025 (Nat.le_of_lt hlt)) _)
theorem rung_down (mag : Nat) (place B : Int) (h1 : B ≤ place) (h2 : B ≤ single.leastPlace) (hf : rungTo single mag place < single.infRung) : mag * 2 ^ (place - B).toNat * 1024 ≤ mu single (rungTo single mag place) * 2 ^ (single.leastPlace - B).toNat * 1025 + 1024 * 2 ^ (single.leastPlace - B).toNat := by
  generalize hr : rungTo single mag place = r at *
  have hlt : mag * 2 ^ (place - B).toNat < mu single (r + 1) * 2 ^ (single.leastPlace - B).toNat := by
    rcases Nat.lt_or_ge (mag * 2 ^ (place - B).toNat) (mu single (r + 1) * 2 ^ (single.leastPlace - B).toNat) with h | h
    · exact h
    · have := rungTo_low single mag place B (r + 1) h1 h2 (by omega) h
      omega
  have hs := Nat.mul_le_mul_right (2 ^ (single.leastPlace - B).toNat) (mu_step r)
  rw [Nat.add_mul, Nat.mul_right_comm (mu single r), Nat.mul_right_comm (mu single (r + 1))] at hs
  generalize 2 ^ (single.leastPlace - B).toNat = L at *
  generalize mag * 2 ^ (place - B).toNat = M at *
  generalize mu single r * L = X at *
  generalize mu single (r + 1) * L = Y at *
  exact Nat.le_trans (Nat.mul_le_mul_right 1024 (Nat.le_of_lt hlt)) hs
theorem key_val {x r : Nat} (h : key single x = (r : Int)) : val x = mu single r := by
  unfold val
  unfold key at h
  split at h
  · have : rungOf single x = r := by omega
    rw [this]
  · have : rungOf single x = r := by omega
    rw [this]
theorem val_fin {x : Nat} (hk : val x < mu single single.infRung) : isFin single x = true := by
  rw [fin_iff single (by decide)]
  rcases Nat.lt_or_ge (rungOf single x) single.infRung with h | h
  · exact h
  · have := (mu_le_iff single _ _).2 h
    unfold val at hk
    omega
theorem fin_rung {x : Nat} (h : isFin single x = true) : rungOf single x < single.infRung := (fin_iff single (by decide) x).1 h
/-- what is rounded by a sum -/
theorem add_mag {x y : Nat} (hx : isFin single x = true) (hkx : 0 ≤ key single x) (hy : isFin single y = true) (hky : 0 ≤ key single y) :
    ∃ mag place, single.leastPlace ≤ place ∧ mag * 2 ^ (place - single.leastPlace).toNat = val x + val y ∧ key single (fadd x y) = rungTo single mag place := by
  have he : 1 ≤ single.exponentBits := by decide
  obtain ⟨t, n, j, hq, ht, hlj, hn, hk2⟩ := read_nn he hy hky
  obtain ⟨s, m, i, hr, hs, hli, hm, hk⟩ := read_nn he hx hkx
  have hadd : single.add x y = some (single.nearest (if signed s m (i - min i j).toNat + signed t n (j - min i j).toNat = 0 then s && t else decide (signed s m (i - min i j).toNat + signed t n (j - min i j).toNat < 0)) (signed s m (i - min i j).toNat + signed t n (j - min i j).toNat).natAbs (min i j)) := by
    unfold Format.add
    rw [hr, hq]
    rfl
  have hv := congrArg (fun o => Option.getD o 0) hadd
  change fadd x y = _ at hv
  simp only [Option.getD_some] at hv
  rw [signed_nn hs, signed_nn ht] at hv
  have e1 : (i - single.leastPlace).toNat = (i - min i j).toNat + (min i j - single.leastPlace).toNat := by omega
  have e2 : (j - single.leastPlace).toNat = (j - min i j).toNat + (min i j - single.leastPlace).toNat := by omega
  rw [e1, mul_pow_add] at hm
  rw [e2, mul_pow_add] at hn
  generalize m * 2 ^ (i - min i j).toNat = a at *
  generalize n * 2 ^ (j - min i j).toNat = b at *
  have hmag : ((a : Int) + (b : Int)).natAbs = a + b := by omega
  rw [hmag] at hv
  have hkey := key_nearest single (if ((a : Int) + (b : Int)) = 0 then s && t else decide (((a : Int) + (b : Int)) < 0)) (a + b) (min i j)
  rw [← hv] at hkey
  have hsgn : (if ((a : Int) + (b : Int)) = 0 then s && t else decide (((a : Int) + (b : Int)) < 0)) = false ∨ rungTo single (a + b) (min i j) = 0 := by
    by_cases h0 : ((a : Int) + (b : Int)) = 0
    · right
      have : a + b = 0 := by omega
      rw [this]
      rfl
    · left
      rw [if_neg h0]
      exact decide_eq_false (by omega)
  refine ⟨a + b, min i j, by omega, by rw [Nat.add_mul, hm, hn]; rfl, ?_⟩
  rw [hkey]
  rcases hsgn with h | h
  · rw [h]; rfl
  · rw [h]; simp
theorem add_up {x y : Nat} (hx : isFin single x = true) (hkx : 0 ≤ key single x) (hy : isFin single y = true) (hky : 0 ≤ key single y) : val (fadd x y) * 1024 ≤ (val x + val y) * 1025 + 1024 := by
  obtain ⟨mag, place, h1, h2, h3⟩ := add_mag hx hkx hy hky
  have h := rung_up mag place single.leastPlace h1 (Int.le_refl _)
  rw [Int.sub_self, Int.toNat_zero, Nat.pow_zero, Nat.mul_one, h2, ← key_val h3] at h
  clear h1 h2 h3 hx hkx hy hky
  generalize val (fadd x y) = V at *
  generalize val x + val y = A at *
  omega
theorem add_down {x y : Nat} (hx : isFin single x = true) (hkx : 0 ≤ key single x) (hy : isFin single y = true) (hky : 0 ≤ key single y) (hf : isFin single (fadd x y) = true) : (val x + val y) * 1024 ≤ val (fadd x y) * 1025 + 1024 := by
  obtain ⟨mag, place, h1, h2, h3⟩ := add_mag hx hkx hy hky
  have hr : rungTo single mag place < single.infRung := by
    have := fin_rung hf
    unfold key at h3
    split at h3 <;> omega
  have h := rung_down mag place single.leastPlace h1 (Int.le_refl _) hr
  rw [Int.sub_self, Int.toNat_zero, Nat.pow_zero, Nat.mul_one, h2, ← key_val h3] at h
  clear h1 h2 h3 hx hkx hy hky hf hr
  generalize val (fadd x y) = V at *
  generalize val x + val y = A at *
  omega
theorem mul_up {x y : Nat} (hx : isFin single x = true) (hkx : 0 ≤ key single x) (hy : isFin single y = true) (hky : 0 ≤ key single y) : val (fmul x y) * 1024 * 2 ^ 149 ≤ val x * val y * 1025 + 1024 * 2 ^ 149 := by
  have he : 1 ≤ single.exponentBits := by decide
  obtain ⟨s, m, i, hr, hs, hli, hm, hk⟩ := read_nn he hx hkx
  obtain ⟨t, n, j, hq, ht, hlj, hn, hk2⟩ := read_nn he hy hky
  have hmul : single.mul x y = some (single.nearest (s ^^ t) (m * n) (i + j)) := by
    unfold Format.mul
    rw [hr, hq]
    rfl
  have hv := congrArg (fun o => Option.getD o 0) hmul
  change fmul x y = _ at hv
  simp only [Option.getD_some] at hv
  have hkey := key_nearest single (s ^^ t) (m * n) (i + j)
  rw [← hv] at hkey
  have hsgn : (s ^^ t) = false ∨ rungTo single (m * n) (i + j) = 0 := by
    rcases hs with rfl | rfl
    · rcases ht with rfl | rfl
      · exact .inl rfl
      · right; rw [Nat.mul_zero]; rfl
    · right; rw [Nat.zero_mul]; rfl
  have hkey2 : key single (fmul x y) = rungTo single (m * n) (i + j) := by
    rw [hkey]
    rcases hsgn with h | h
    · rw [h]; rfl
    · rw [h]; simp
  have hlp := least_lit
  have h := rung_up (m * n) (i + j) (-298) (by omega) (by omega)
  have e1 : (i + j - -298).toNat = (i - single.leastPlace).toNat + (j - single.leastPlace).toNat := by omega
  have e2 : (single.leastPlace - -298).toNat = 149 := by omega
  rw [e1, e2, Nat.pow_add, Nat.mul_mul_mul_comm, hm, hn, ← key_val hkey2] at h
  show val (fmul x y) * 1024 * 2 ^ 149 ≤ mu single (rungOf single x) * mu single (rungOf single y) * 1025 + 1024 * 2 ^ 149
  generalize mu single (rungOf single x) * mu single (rungOf single y) = P at *
  generalize val (fmul x y) = V at *
  generalize 2 ^ 149 = E at *
  have h5 : V * 1024 * E = V * E * 1024 := Nat.mul_right_comm _ _ _
  have h6 : V * 1024 * E = V * E * 1024 := Nat.mul_right_comm _ _ _
  rw [h5] at h
  rw [h6]
  generalize V * E = W at *
  clear h5 h6 e1 e2 hlp hkey hkey2 hsgn hv hmul hm hn hk hk2 hs ht hli hlj hr hq hx hy hkx hky he
  omega
theorem val_mono {x y : Nat} (hx : 0 ≤ key single x) (h : key single x ≤ key single y) : val x ≤ val y := by
  unfold val
  refine (mu_le_iff single _ _).2 ?_
  have h1 : key single x = (rungOf single x : Int) ∨ rungOf single x = 0 := by
    unfold key at hx ⊢
    split <;> rename_i hn
    · rw [if_pos hn] at hx; omega
    · exact .inl rfl
  have h2 : key single y ≤ (rungOf single y : Int) := by
    unfold key
    split <;> omega
  omega
theorem val_zero : val 0 = 0 := by decide +kernel
theorem val_one : val 1065353216 = 2 ^ 149 := by decide +kernel
theorem val_inf : mu single single.infRung = 2 ^ 277 := by decide +kernel
end Go.Proofs.Ytnnnpdendnjkhaa
