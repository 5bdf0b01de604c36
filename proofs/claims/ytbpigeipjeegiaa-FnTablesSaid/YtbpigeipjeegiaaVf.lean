/-
  A quotient of two counts as single numbers: above 0 and at most 1 (pieces of XShr, XBak, XRaf). No program.
-/
import Derived.Test.YtbpigeipjeegiaaKey
namespace Go.Proofs.Ytbpigeipjeegiaa
open Go Ieee

theorem mul_pow_add (a b c : Nat) : a * 2 ^ (b + c) = a * 2 ^ b * 2 ^ c := by rw [Nat.pow_add, Nat.mul_assoc]

theorem kept_err (f : Format) (mag : Nat) (place B : Int) (h1 : B ≤ place) (h2 : B ≤ f.leastPlace) :
    2 * (keptOf f mag place * 2 ^ ((lastOf f mag place - f.leastPlace).toNat + (f.leastPlace - B).toNat)) ≤ 2 * (mag * 2 ^ (place - B).toNat) + 2 ^ ((lastOf f mag place - f.leastPlace).toNat + (f.leastPlace - B).toNat) ∧
    2 * (mag * 2 ^ (place - B).toNat) ≤ 2 * (keptOf f mag place * 2 ^ ((lastOf f mag place - f.leastPlace).toNat + (f.leastPlace - B).toNat)) + 2 ^ ((lastOf f mag place - f.leastPlace).toNat + (f.leastPlace - B).toNat) := by
  have hl : f.leastPlace ≤ lastOf f mag place := by unfold lastOf; omega
  unfold keptOf
  generalize lastOf f mag place = last at *
  by_cases hlp : last ≤ place
  · have e1 : (last - place).toNat = 0 := by omega
    have e2 : (place - B).toNat = (place - last).toNat + ((last - f.leastPlace).toNat + (f.leastPlace - B).toNat) := by omega
    rw [e1, cut_zero, Nat.shiftLeft_eq, e2, mul_pow_add mag]
    exact ⟨Nat.le_add_right _ _, Nat.le_add_right _ _⟩
  · have e1 : (place - last).toNat = 0 := by omega
    have e2 : (last - f.leastPlace).toNat + (f.leastPlace - B).toNat = (last - place).toNat + (place - B).toNat := by omega
    rw [e1, Nat.shiftLeft_zero, e2, mul_pow_add, Nat.pow_add]
    obtain ⟨c1, c2⟩ := cut_even mag (last - place).toNat
    generalize Toward.even.cut false mag (last - place).toNat * 2 ^ (last - place).toNat = k at *
    generalize 2 ^ (last - place).toNat = g at *
    generalize 2 ^ (place - B).toNat = p at *
    have m1 := Nat.mul_le_mul_right p c1
    have m2 := Nat.mul_le_mul_right p c2
    rw [Nat.add_mul, Nat.mul_assoc, Nat.mul_assoc] at m1 m2
    exact ⟨m1, m2⟩

/-- the units of a rung told by its stair and its digits -/
theorem mu_stair (f : Format) (e k : Nat) (h : e = 0 ∨ f.binade ≤ k) (h2 : k ≤ 2 * f.binade) : mu f (e * f.binade + k) = k * 2 ^ e := by
  have hb := binade_pos f
  unfold mu
  by_cases hk : k < f.binade
  · have he : e = 0 := by omega
    subst he
    rw [Nat.zero_mul, Nat.zero_add, if_pos hk, Nat.pow_zero, Nat.mul_one]
  · rw [if_neg (by have := Nat.zero_le (e * f.binade); omega)]
    by_cases h3 : k = 2 * f.binade
    · subst h3
      have e1 : e * f.binade + 2 * f.binade = (e + 2) * f.binade := by rw [Nat.add_mul]
      rw [e1, Nat.mul_mod_left, Nat.mul_div_cancel _ hb, Nat.add_zero, show e + 2 - 1 = e + 1 by omega, Nat.pow_succ, Nat.mul_comm 2 f.binade, Nat.mul_assoc, Nat.mul_comm 2]
    · have e1 : e * f.binade + k = f.binade * (e + 1) + (k - f.binade) := by rw [Nat.mul_add, Nat.mul_one, Nat.mul_comm]; omega
      rw [e1, Nat.mul_add_mod, Nat.mul_add_div hb, Nat.mod_eq_of_lt (by omega), Nat.div_eq_of_lt (show k - f.binade < f.binade by omega), Nat.add_zero, Nat.add_sub_cancel, show f.binade + (k - f.binade) = k by omega]

/-- what is not greater than a number of the format rounds to nothing greater -/
theorem rungTo_mono (f : Format) (mag : Nat) (place B : Int) (r : Nat) (h1 : B ≤ place) (h2 : B ≤ f.leastPlace) (hM : mag * 2 ^ (place - B).toNat ≤ mu f r * 2 ^ (f.leastPlace - B).toNat) : rungTo f mag place ≤ r := by
  unfold rungTo
  split
  · exact Nat.zero_le _
  · rename_i hm
    refine Nat.le_trans (Nat.min_le_left _ _) ?_
    obtain ⟨c1, c2⟩ := kept_err f mag place B h1 h2
    have hlog : mag < 2 ^ (mag.log2 + 1) := Nat.lt_log2_self
    have hlog2 : 2 ^ mag.log2 ≤ mag := Nat.log2_self_le hm
    have hlast : lastOf f mag place = max (place + mag.log2 - f.fractionBits) f.leastPlace := rfl
    have hbin : f.binade = 2 ^ f.fractionBits := rfl
    have hb := binade_pos f
    generalize keptOf f mag place = k at *
    have hl : f.leastPlace ≤ lastOf f mag place := by omega
    obtain ⟨e, he⟩ : ∃ e, (lastOf f mag place - f.leastPlace).toNat = e := ⟨_, rfl⟩
    obtain ⟨L, hL⟩ : ∃ L, (f.leastPlace - B).toNat = L := ⟨_, rfl⟩
    obtain ⟨P, hP⟩ : ∃ P, (place - B).toNat = P := ⟨_, rfl⟩
    rw [he, hL, hP] at c1 c2
    rw [hL, hP] at hM
    rw [he]
    have hpe : 0 < 2 ^ (e + L) := Nat.two_pow_pos _
    -- less than two stairs
    have up : mag * 2 ^ P < 2 * f.binade * 2 ^ (e + L) := by
      have a1 : mag * 2 ^ P < 2 ^ (mag.log2 + 1) * 2 ^ P := Nat.mul_lt_mul_of_pos_right hlog (Nat.two_pow_pos _)
      rw [← Nat.pow_add] at a1
      have a2 : 2 * f.binade * 2 ^ (e + L) = 2 ^ (1 + f.fractionBits + (e + L)) := by rw [hbin, Nat.pow_add 2 (1 + f.fractionBits), Nat.pow_add 2 1, Nat.pow_one]
      rw [a2]
      exact Nat.lt_of_lt_of_le a1 (Nat.pow_le_pow_right (by decide) (by omega))
    have hk2 : k ≤ 2 * f.binade := by
      rcases Nat.lt_or_ge (2 * f.binade) k with hlt | hge
      · exfalso
        have a1 := Nat.mul_le_mul_right (2 ^ (e + L)) (show 2 * f.binade + 1 ≤ k by omega)
        rw [Nat.add_mul, Nat.one_mul] at a1
        omega
      · exact hge
    have lo : 0 < e → f.binade * 2 ^ (e + L) ≤ mag * 2 ^ P := fun h0 => by
      have a1 : 2 ^ mag.log2 * 2 ^ P ≤ mag * 2 ^ P := Nat.mul_le_mul_right _ hlog2
      rw [← Nat.pow_add] at a1
      have a2 : f.binade * 2 ^ (e + L) = 2 ^ (mag.log2 + P) := by rw [hbin, ← Nat.pow_add]; congr 1; omega
      rw [a2]
      exact a1
    have hk1 : 0 < e → f.binade ≤ k := fun h0 => by
      rcases Nat.lt_or_ge k f.binade with hlt | hge
      · exfalso
        have a0 := lo h0
        have a1 := Nat.mul_le_mul_right (2 ^ (e + L)) (show k + 1 ≤ f.binade by omega)
        rw [Nat.add_mul, Nat.one_mul] at a1
        omega
      · exact hge
    rcases Nat.lt_or_ge r (e * f.binade + k) with hlt | hge
    · exfalso
      by_cases hc : e = 0 ∨ f.binade < k
      · have hkp : 0 < k := by
          rcases hc with h | h
          · subst h; omega
          · omega
        have hmu : mu f (e * f.binade + (k - 1)) = (k - 1) * 2 ^ e := mu_stair f e (k - 1) (by omega) (by omega)
        have hle : mu f r ≤ mu f (e * f.binade + (k - 1)) := (mu_le_iff f _ _).2 (by omega)
        rw [hmu] at hle
        have a1 := Nat.mul_le_mul_right (2 ^ L) hle
        rw [Nat.mul_assoc, ← Nat.pow_add] at a1
        have a2 : k * 2 ^ (e + L) = (k - 1) * 2 ^ (e + L) + 2 ^ (e + L) := by
          rw [← Nat.succ_mul]
          congr 1
          omega
        omega
      · have hk3 : k = f.binade := by have := hk1 (by omega); omega
        have hmu : mu f (e * f.binade + k) = k * 2 ^ e := mu_stair f e k (by omega) hk2
        have hlt2 : mu f r < mu f (e * f.binade + k) := mu_mono f hlt
        rw [hmu] at hlt2
        have a1 : mu f r * 2 ^ L < k * 2 ^ e * 2 ^ L := Nat.mul_lt_mul_of_pos_right hlt2 (Nat.two_pow_pos _)
        rw [Nat.mul_assoc, ← Nat.pow_add, hk3] at a1
        have := lo (by omega)
        omega
    · exact hge
/-- what is not less than a number of the format rounds to nothing less -/
theorem rungTo_low (f : Format) (mag : Nat) (place B : Int) (r : Nat) (h1 : B ≤ place) (h2 : B ≤ f.leastPlace) (hr : r ≤ f.infRung) (hM : mu f r * 2 ^ (f.leastPlace - B).toNat ≤ mag * 2 ^ (place - B).toNat) : r ≤ rungTo f mag place := by
  unfold rungTo
  split
  · rename_i hm
    subst hm
    rw [Nat.zero_mul] at hM
    rcases Nat.mul_eq_zero.1 (Nat.le_zero.1 hM) with h | h
    · rcases Nat.eq_zero_or_pos r with h0 | h0
      · omega
      · have := mu_mono f h0
        omega
    · have := Nat.two_pow_pos (f.leastPlace - B).toNat; omega
  · rename_i hm
    refine Nat.le_min.2 ⟨?_, hr⟩
    obtain ⟨c1, c2⟩ := kept_err f mag place B h1 h2
    have hlog : mag < 2 ^ (mag.log2 + 1) := Nat.lt_log2_self
    have hlog2 : 2 ^ mag.log2 ≤ mag := Nat.log2_self_le hm
    have hlast : lastOf f mag place = max (place + mag.log2 - f.fractionBits) f.leastPlace := rfl
    have hbin : f.binade = 2 ^ f.fractionBits := rfl
    have hb := binade_pos f
    generalize keptOf f mag place = k at *
    have hl : f.leastPlace ≤ lastOf f mag place := by omega
    obtain ⟨e, he⟩ : ∃ e, (lastOf f mag place - f.leastPlace).toNat = e := ⟨_, rfl⟩
    obtain ⟨L, hL⟩ : ∃ L, (f.leastPlace - B).toNat = L := ⟨_, rfl⟩
    obtain ⟨P, hP⟩ : ∃ P, (place - B).toNat = P := ⟨_, rfl⟩
    rw [he, hL, hP] at c1 c2
    rw [hL, hP] at hM
    rw [he]
    have hpe : 0 < 2 ^ (e + L) := Nat.two_pow_pos _
    have up : mag * 2 ^ P < 2 * f.binade * 2 ^ (e + L) := by
      have a1 : mag * 2 ^ P < 2 ^ (mag.log2 + 1) * 2 ^ P := Nat.mul_lt_mul_of_pos_right hlog (Nat.two_pow_pos _)
      rw [← Nat.pow_add] at a1
      have a2 : 2 * f.binade * 2 ^ (e + L) = 2 ^ (1 + f.fractionBits + (e + L)) := by rw [hbin, Nat.pow_add 2 (1 + f.fractionBits), Nat.pow_add 2 1, Nat.pow_one]
      rw [a2]
      exact Nat.lt_of_lt_of_le a1 (Nat.pow_le_pow_right (by decide) (by omega))
    have hk2 : k ≤ 2 * f.binade := by
      rcases Nat.lt_or_ge (2 * f.binade) k with hlt | hge
      · exfalso
        have a1 := Nat.mul_le_mul_right (2 ^ (e + L)) (show 2 * f.binade + 1 ≤ k by omega)
        rw [Nat.add_mul, Nat.one_mul] at a1
        omega
      · exact hge
    have lo : 0 < e → f.binade * 2 ^ (e + L) ≤ mag * 2 ^ P := fun h0 => by
      have a1 : 2 ^ mag.log2 * 2 ^ P ≤ mag * 2 ^ P := Nat.mul_le_mul_right _ hlog2
      rw [← Nat.pow_add] at a1
      have a2 : f.binade * 2 ^ (e + L) = 2 ^ (mag.log2 + P) := by rw [hbin, ← Nat.pow_add]; congr 1; omega
      rw [a2]
      exact a1
    have hk1 : 0 < e → f.binade ≤ k := fun h0 => by
      rcases Nat.lt_or_ge k f.binade with hlt | hge
      · exfalso
        have a0 := lo h0
        have a1 := Nat.mul_le_mul_right (2 ^ (e + L)) (show k + 1 ≤ f.binade by omega)
        rw [Nat.add_mul, Nat.one_mul] at a1
        omega
      · exact hge
    rcases Nat.lt_or_ge (e * f.binade + k) r with hlt | hge
    · exfalso
      by_cases hk3 : k = 2 * f.binade
      · have hmu : mu f (e * f.binade + k) = k * 2 ^ e := mu_stair f e k (by omega) hk2
        have hlt2 : mu f (e * f.binade + k) < mu f r := mu_mono f hlt
        rw [hmu] at hlt2
        have a1 : k * 2 ^ e * 2 ^ L < mu f r * 2 ^ L := Nat.mul_lt_mul_of_pos_right hlt2 (Nat.two_pow_pos _)
        rw [Nat.mul_assoc, ← Nat.pow_add, hk3] at a1
        omega
      · have hmu : mu f (e * f.binade + (k + 1)) = (k + 1) * 2 ^ e := mu_stair f e (k + 1) (by omega) (by omega)
        have hle : mu f (e * f.binade + (k + 1)) ≤ mu f r := (mu_le_iff f _ _).2 (by omega)
        rw [hmu] at hle
        have a1 := Nat.mul_le_mul_right (2 ^ L) hle
        rw [Nat.mul_assoc, ← Nat.pow_add, Nat.add_mul, Nat.one_mul] at a1
        omega
    · exact hge
/-- a number of the format rounds to itself -/
theorem rungTo_exact (f : Format) (mag : Nat) (place B : Int) (r : Nat) (h1 : B ≤ place) (h2 : B ≤ f.leastPlace) (hr : r ≤ f.infRung) (hM : mag * 2 ^ (place - B).toNat = mu f r * 2 ^ (f.leastPlace - B).toNat) : rungTo f mag place = r :=
  Nat.le_antisymm (rungTo_mono f mag place B r h1 h2 (Nat.le_of_eq hM)) (rungTo_low f mag place B r h1 h2 hr (Nat.le_of_eq hM.symm))

/-- the word of n * 2^(t - 126) -/
def rungN (n t : Nat) : Nat := if n = 0 then 0 else (n.log2 + t) * 8388608 + n * 2 ^ (23 - n.log2)
theorem rungN_bd {n : Nat} (h : n < 16777216) (h0 : n ≠ 0) : n.log2 ≤ 23 ∧ 8388608 ≤ n * 2 ^ (23 - n.log2) ∧ n * 2 ^ (23 - n.log2) < 16777216 := by
  have h1 : n.log2 < 24 := (Nat.log2_lt h0).2 h
  have h2 : 2 ^ n.log2 ≤ n := Nat.log2_self_le h0
  have h3 : n < 2 ^ (n.log2 + 1) := Nat.lt_log2_self
  have h4 : 0 < 2 ^ (23 - n.log2) := Nat.two_pow_pos _
  have h5 : 2 ^ n.log2 * 2 ^ (23 - n.log2) = 8388608 := by rw [← Nat.pow_add, show n.log2 + (23 - n.log2) = 23 by omega]
  have h6 : 2 ^ (n.log2 + 1) * 2 ^ (23 - n.log2) = 16777216 := by rw [← Nat.pow_add, show n.log2 + 1 + (23 - n.log2) = 24 by omega]
  refine ⟨by omega, ?_, ?_⟩
  · rw [← h5]; exact Nat.mul_le_mul_right _ h2
  · rw [← h6]; exact Nat.mul_lt_mul_of_pos_right h3 h4
theorem mu_rungN {n : Nat} (t : Nat) (h : n < 16777216) : mu single (rungN n t) = n * 2 ^ (23 + t) := by
  by_cases h0 : n = 0
  · unfold rungN
    rw [if_pos h0, h0, mu_zero, Nat.zero_mul]
  · obtain ⟨h1, h2, h3⟩ := rungN_bd h h0
    have hb : single.binade = 8388608 := rfl
    have := mu_stair single (n.log2 + t) (n * 2 ^ (23 - n.log2)) (.inr (by rw [hb]; exact h2)) (by rw [hb]; omega)
    rw [hb] at this
    unfold rungN
    rw [if_neg h0, this, Nat.mul_assoc, ← Nat.pow_add, show 23 - n.log2 + (n.log2 + t) = 23 + t by omega]
theorem rungN_lt {n : Nat} (t : Nat) (h : n < 16777216) : rungN n t < (t + 25) * 8388608 := by
  by_cases h0 : n = 0
  · unfold rungN
    rw [if_pos h0]
    omega
  · obtain ⟨h1, h2, h3⟩ := rungN_bd h h0
    unfold rungN
    rw [if_neg h0]
    have := Nat.mul_le_mul_right 8388608 (show n.log2 + t ≤ 23 + t by omega)
    omega
theorem low_word {r : Nat} (h : r < 2147483648) : rungOf single r = r ∧ negOf single r = false := by
  have hs : single.signWeight = 2147483648 := rfl
  unfold rungOf negOf
  rw [hs, Nat.mod_eq_of_lt h, Nat.div_eq_of_lt h]
  exact ⟨rfl, rfl⟩
theorem key_low {r : Nat} (h : r < 2147483648) : key single r = r := by
  unfold key
  rw [(low_word h).1, (low_word h).2]
  rfl
/-- an integer below 2^24 as a single number -/
theorem ofInt_rung {n : Nat} (h : n < 16777216) : floatOfInt .f32 (n : Int) = rungN n 126 := by
  have h1 : floatOfInt .f32 (n : Int) = single.nearest (decide ((n : Int) < 0)) (n : Int).natAbs 0 := rfl
  rw [h1, nearest_eq, decide_eq_false (by omega), Int.natAbs_natCast]
  have hl : single.leastPlace = -149 := rfl
  have hi : single.infRung = 2139095040 := rfl
  have := rungTo_exact single n 0 (-149) (rungN n 126) (by decide) (by rw [hl]; decide) (by have := rungN_lt 126 h; rw [hi]; omega) (by
    rw [hl, mu_rungN 126 h]
    show n * 2 ^ 149 = n * 2 ^ (23 + 126) * 2 ^ 0
    rw [Nat.pow_zero, Nat.mul_one])
  rw [this]
  rfl
def qdiv (x y : Nat) : Nat := (single.div x y).getD 0
/-- a quotient by a finite number that is not 0 is no NaN -/
theorem div_some {x y : Nat} (hx : isFin single x = true) (hy : isFin single y = true) (hk : key single y ≠ 0) : ∃ r, single.div x y = some r ∧ isNan single r = false := by
  have he : 1 ≤ single.exponentBits := by decide
  obtain ⟨m, i, hr, -, -⟩ := read_fin ((fin_iff single he x).1 hx)
  obtain ⟨n, j, hq, -, hn⟩ := read_fin ((fin_iff single he y).1 hy)
  have hn0 : n ≠ 0 := by
    intro h0
    rw [h0, Nat.zero_mul] at hn
    have h1 : rungOf single y = 0 := by
      rcases Nat.eq_zero_or_pos (rungOf single y) with h | h
      · exact h
      · have := mu_mono single h
        omega
    unfold key at hk
    rw [h1] at hk
    simp at hk
  unfold Format.div
  rw [hr, hq]
  simp only [Datum.quotient, if_neg hn0, Option.map_some]
  exact ⟨_, rfl, notNan_write single he _ rfl⟩
theorem qdiv_run {x y : Nat} (hx : isFin single x = true) (hy : isFin single y = true) (hk : key single y ≠ 0) : floatBits .quo .f32 x y = some (qdiv x y) ∧ isNan single (qdiv x y) = false := by
  obtain ⟨r, h1, h2⟩ := div_some hx hy hk
  have h3 : qdiv x y = r := by unfold qdiv; rw [h1]; rfl
  rw [h3]
  exact ⟨h1, h2⟩

/-- a number from 0 to 1 with the sign of 1 -/
def unitP (p : Nat) : Prop := isFin single p = true ∧ negOf single p = false ∧ rungOf single p ≤ 1065353216
theorem word_parts {r : Nat} (h : r ≤ single.infRung) : negOf single (single.word false r) = false ∧ rungOf single (single.word false r) = r := by
  have := rung_word single false (Nat.lt_of_le_of_lt h single.infRung_lt)
  exact ⟨this.2, this.1⟩
theorem read_two {x y : Nat} (hx : isFin single x = true) (hy : isFin single y = true) (nx : negOf single x = false) (ny : negOf single y = false) :
    ∃ m e n j, single.read x = .number false m e ∧ single.read y = .number false n j ∧ single.leastPlace ≤ e ∧ single.leastPlace ≤ j ∧ m * 2 ^ (e - single.leastPlace).toNat = mu single (rungOf single x) ∧ n * 2 ^ (j - single.leastPlace).toNat = mu single (rungOf single y) := by
  have he : 1 ≤ single.exponentBits := by decide
  obtain ⟨m, e, h1, h2, h3⟩ := read_fin ((fin_iff single he x).1 hx)
  obtain ⟨n, j, g1, g2, g3⟩ := read_fin ((fin_iff single he y).1 hy)
  rw [nx] at h1
  rw [ny] at g1
  exact ⟨m, e, n, j, h1, g1, h2, g2, h3, g3⟩
theorem quot_arith {m n I J more G : Nat} (hn : 0 < n) (h : m * 2 ^ I ≤ n * 2 ^ J) (hG : G + I = J + more + 1) : 2 * (m * 2 ^ more / n) + (m * 2 ^ more % n != 0).toNat ≤ 2 ^ G := by
  have h1 : 2 * (m * 2 ^ more) ≤ n * 2 ^ G := by
    have h2 : 2 * (m * 2 ^ more) * 2 ^ I ≤ n * 2 ^ G * 2 ^ I := by
      have e1 : 2 * (m * 2 ^ more) * 2 ^ I = m * 2 ^ I * 2 ^ (more + 1) := by rw [Nat.pow_succ]; ac_rfl
      have e2 : n * 2 ^ G * 2 ^ I = n * 2 ^ J * 2 ^ (more + 1) := by
        rw [Nat.mul_assoc, ← Nat.pow_add, hG, Nat.mul_assoc n, ← Nat.pow_add, Nat.add_assoc]
      rw [e1, e2]
      exact Nat.mul_le_mul_right _ h
    exact Nat.le_of_mul_le_mul_right h2 (Nat.two_pow_pos I)
  generalize m * 2 ^ more = D at *
  have hd := Nat.div_add_mod D n
  have hm := Nat.mod_lt D hn
  generalize hq : D / n = q at *
  generalize hr : D % n = r at *
  by_cases h0 : r = 0
  · subst h0
    have : n * (2 * q) ≤ n * 2 ^ G := by
      have : n * (2 * q) = 2 * (n * q) := by ac_rfl
      omega
    have := Nat.le_of_mul_le_mul_left this hn
    simpa using this
  · have h3 : (r != 0).toNat = 1 := by simp [h0]
    rw [h3]
    have : n * (2 * q) < n * 2 ^ G := by
      have : n * (2 * q) = 2 * (n * q) := by ac_rfl
      omega
    have := Nat.lt_of_mul_lt_mul_left this
    omega
theorem div_word {x y : Nat} (hx : isFin single x = true) (hy : isFin single y = true) (nx : negOf single x = false) (ny : negOf single y = false) (hy0 : 0 < rungOf single y) (hle : rungOf single x ≤ rungOf single y) :
    unitP (qdiv x y) ∧ (x = 0 → qdiv x y = 0) := by
  have he : 1 ≤ single.exponentBits := by decide
  obtain ⟨m, e, n, j, h1, g1, h2, g2, h3, g3⟩ := read_two hx hy nx ny
  have hn0 : 0 < n := by
    rcases Nat.eq_zero_or_pos n with h | h
    · rw [h, Nat.zero_mul] at g3
      have := mu_mono single hy0
      omega
    · exact h
  have hlp : single.leastPlace = -149 := by decide +kernel
  have hmu : m * 2 ^ (e - single.leastPlace).toNat ≤ n * 2 ^ (j - single.leastPlace).toNat := by
    rw [h3, g3]
    exact (mu_le_iff _ _ _).2 hle
  rw [hlp] at h2 g2 hmu
  obtain ⟨I, hI⟩ : ∃ I : Nat, e = (I : Int) - 149 := ⟨(e + 149).toNat, by omega⟩
  obtain ⟨J, hJ⟩ : ∃ J : Nat, j = (J : Int) - 149 := ⟨(j + 149).toNat, by omega⟩
  rw [show (e - -149).toNat = I by omega, show (j - -149).toNat = J by omega] at hmu
  have hv : qdiv x y = single.word false (rungTo single (2 * (m <<< (25 + n.log2 - m.log2) / n) + (m <<< (25 + n.log2 - m.log2) % n != 0).toNat) (e - j - (25 + n.log2 - m.log2 : Nat) - 1)) := by
    unfold qdiv Format.div
    rw [h1, g1]
    show Option.getD (Option.map single.write (if n = 0 then if m = 0 then none else some (.infinity (false ^^ false)) else some (.number (false ^^ false) (2 * (m <<< (25 + n.log2 - m.log2) / n) + (m <<< (25 + n.log2 - m.log2) % n != 0).toNat) (e - j - (25 + n.log2 - m.log2 : Nat) - 1)))) 0 = _
    rw [if_neg (by omega)]
    show single.nearest (false ^^ false) _ _ = _
    rw [nearest_eq]
    rfl
  rw [Nat.shiftLeft_eq] at hv
  generalize hmr : 25 + n.log2 - m.log2 = more at *
  by_cases hm0 : m = 0
  · have hz : qdiv x y = 0 := by
      rw [hv, hm0, Nat.zero_mul, Nat.zero_div, Nat.zero_mod]
      rfl
    rw [hz]
    exact ⟨⟨by decide +kernel, by decide +kernel, by decide +kernel⟩, fun _ => rfl⟩
  · have hEI : I ≤ J + more + 1 := by
      apply Classical.byContradiction
      intro hno
      have a1 : 2 ^ m.log2 ≤ m := Nat.log2_self_le hm0
      have a2 : n < 2 ^ (n.log2 + 1) := Nat.lt_log2_self
      have a3 : 2 ^ (J + more) ≤ 2 ^ I := Nat.pow_le_pow_right (by decide) (by omega)
      have a4 : 2 ^ m.log2 * 2 ^ (J + more) ≤ n * 2 ^ J := Nat.le_trans (Nat.mul_le_mul a1 a3) hmu
      rw [Nat.pow_add, ← Nat.mul_assoc, Nat.mul_right_comm] at a4
      have a5 := Nat.le_of_mul_le_mul_right a4 (Nat.two_pow_pos J)
      rw [← Nat.pow_add] at a5
      have a6 : 2 ^ (n.log2 + 1) ≤ 2 ^ (m.log2 + more) := Nat.pow_le_pow_right (by decide) (by omega)
      omega
    obtain ⟨G, hG⟩ : ∃ G, G + I = J + more + 1 := ⟨J + more + 1 - I, by omega⟩
    have hq := quot_arith hn0 hmu hG
    have hbound : rungTo single (2 * (m * 2 ^ more / n) + (m * 2 ^ more % n != 0).toNat) (e - j - (more : Nat) - 1) ≤ 1065353216 := by
      refine rungTo_mono single _ _ (-149 - (G : Int)) _ ?_ (by omega) ?_
      · omega
      · have h5 : mu single 1065353216 = 2 ^ 149 := by decide +kernel
        have e1 : (single.leastPlace - (-149 - (G : Int))).toNat = G := by omega
        have e2 : (e - j - (more : Nat) - 1 - (-149 - (G : Int))).toNat = 149 := by omega
        rw [e1, e2, h5, Nat.mul_comm (2 ^ 149)]
        exact Nat.mul_le_mul_right _ hq
    have hi : single.infRung = 2139095040 := rfl
    obtain ⟨w1, w2⟩ := word_parts (r := rungTo single (2 * (m * 2 ^ more / n) + (m * 2 ^ more % n != 0).toNat) (e - j - (more : Nat) - 1)) (by omega)
    refine ⟨?_, fun h0 => ?_⟩
    · rw [hv]
      exact ⟨(fin_iff single he _).2 (by rw [w2]; omega), w1, by rw [w2]; exact hbound⟩
    · exfalso
      have hz : single.read 0 = .number false 0 (-149) := by decide +kernel
      rw [h0, hz] at h1
      injection h1 with _ h6 _
      exact hm0 h6.symm
theorem rungN_fin {n : Nat} (h : n < 16777216) : isFin single (rungN n 126) = true ∧ negOf single (rungN n 126) = false ∧ rungOf single (rungN n 126) = rungN n 126 := by
  have hlt := rungN_lt 126 h
  have hw := low_word (r := rungN n 126) (by omega)
  have hi : single.infRung = 2139095040 := rfl
  exact ⟨(fin_iff single (by decide) _).2 (by rw [hw.1, hi]; omega), hw.2, hw.1⟩
theorem rungN_mono {m n : Nat} (h : m ≤ n) (hn : n < 16777216) : rungN m 126 ≤ rungN n 126 := by
  rw [← mu_le_iff single, mu_rungN 126 (by omega), mu_rungN 126 hn]
  exact Nat.mul_le_mul_right _ h
theorem rungN_pos {n : Nat} (h : 1 ≤ n) (hn : n < 16777216) : 0 < rungN n 126 := by
  have := rungN_mono h hn
  have h1 : rungN 1 126 = 1065353216 := by decide +kernel
  omega
/-- a rung of 0: the number lies far below -/
theorem rung_high {mag : Nat} {place : Int} (h : mag ≠ 0) (hp : -149 < place + mag.log2 - 23) : 0 < rungTo single mag place := by
  have hl : single.leastPlace = -149 := rfl
  have hf : single.fractionBits = 23 := rfl
  have hb : single.binade = 8388608 := rfl
  have hi : single.infRung = 2139095040 := rfl
  unfold rungTo
  rw [if_neg h]
  have h1 : lastOf single mag place = place + mag.log2 - 23 := by
    unfold lastOf
    rw [hl, hf]
    omega
  rw [h1, hl, hb, hi]
  have h2 : 1 ≤ (place + mag.log2 - 23 - -149).toNat := by omega
  have := Nat.mul_le_mul_right 8388608 h2
  omega
theorem log_le {m k : Nat} (h : 2 ^ k ≤ m) : k ≤ m.log2 := by
  have h0 : m ≠ 0 := by
    have := Nat.two_pow_pos k
    omega
  exact (Nat.le_log2 h0).2 h
/-- the share of a part -/
theorem share_run {p q : Nat} (h1 : 1 ≤ p) (h2 : p ≤ q) (h3 : q < 16777216) : ∃ s, floatBits .quo .f32 (floatOfInt .f32 (p : Int)) (floatOfInt .f32 (q : Int)) = some s ∧ (single.order s 0 == some .gt) = true ∧ (single.order s 1065353216 == some .lt || single.order s 1065353216 == some .eq) = true := by
  have he : 1 ≤ single.exponentBits := by decide
  obtain ⟨f1, f2, f3⟩ := rungN_fin (show p < 16777216 by omega)
  obtain ⟨g1, g2, g3⟩ := rungN_fin h3
  have hpos := rungN_pos (show 1 ≤ q by omega) h3
  have hmono := rungN_mono h2 h3
  rw [ofInt_rung (show p < 16777216 by omega), ofInt_rung h3]
  have hd := (div_word f1 g1 f2 g2 (by omega) (by omega)).1
  have hk : key single (rungN q 126) ≠ 0 := by
    unfold key
    rw [g2, g3]
    simp
    omega
  obtain ⟨r1, r2⟩ := qdiv_run f1 g1 hk
  refine ⟨qdiv (rungN p 126) (rungN q 126), r1, ?_, ?_⟩
  · rw [gt_key he r2 (by decide +kernel)]
    have hv : 0 < rungOf single (qdiv (rungN p 126) (rungN q 126)) := by
      obtain ⟨m, e, n, j, a1, b1, a2, b2, a3, b3⟩ := read_two f1 g1 f2 g2
      rw [f3, mu_rungN 126 (by omega)] at a3
      rw [g3, mu_rungN 126 h3] at b3
      have hlp : single.leastPlace = -149 := rfl
      rw [hlp] at a2 b2 a3 b3
      obtain ⟨I, rfl⟩ : ∃ I : Nat, e = (I : Int) - 149 := ⟨(e + 149).toNat, by omega⟩
      obtain ⟨J, rfl⟩ : ∃ J : Nat, j = (J : Int) - 149 := ⟨(j + 149).toNat, by omega⟩
      rw [show ((I : Int) - 149 - -149).toNat = I by omega] at a3
      rw [show ((J : Int) - 149 - -149).toNat = J by omega] at b3
      have hm0 : m ≠ 0 := by
        intro h
        rw [h, Nat.zero_mul] at a3
        have := Nat.mul_le_mul h1 (Nat.two_pow_pos (23 + 126))
        omega
      have hn0 : n ≠ 0 := by
        intro h
        rw [h, Nat.zero_mul] at b3
        have := Nat.mul_le_mul (show 1 ≤ q by omega) (Nat.two_pow_pos (23 + 126))
        omega
      have hmI : 149 ≤ m.log2 + I := by
        have k1 : 2 ^ 149 ≤ m * 2 ^ I := by
          rw [a3]
          exact Nat.le_mul_of_pos_left _ h1
        have k2 : m < 2 ^ (m.log2 + 1) := Nat.lt_log2_self
        have k3 : m * 2 ^ I < 2 ^ (m.log2 + 1) * 2 ^ I := Nat.mul_lt_mul_of_pos_right k2 (Nat.two_pow_pos _)
        rw [← Nat.pow_add] at k3
        have k4 := (Nat.pow_lt_pow_iff_right (a := 2) (by omega)).1 (Nat.lt_of_le_of_lt k1 k3)
        omega
      have hnJ : n.log2 + J < 173 := by
        have k1 : n * 2 ^ J < 2 ^ 173 := by
          rw [b3]
          have := Nat.mul_lt_mul_of_pos_right h3 (Nat.two_pow_pos (23 + 126))
          exact Nat.lt_of_lt_of_le this (by decide)
        have k2 : 2 ^ n.log2 ≤ n := Nat.log2_self_le hn0
        have k3 := Nat.mul_le_mul_right (2 ^ J) k2
        rw [← Nat.pow_add] at k3
        exact (Nat.pow_lt_pow_iff_right (a := 2) (by omega)).1 (Nat.lt_of_le_of_lt k3 k1)
      have hq : qdiv (rungN p 126) (rungN q 126) = single.word false (rungTo single (2 * (m <<< (25 + n.log2 - m.log2) / n) + (m <<< (25 + n.log2 - m.log2) % n != 0).toNat) ((I : Int) - 149 - ((J : Int) - 149) - (25 + n.log2 - m.log2 : Nat) - 1)) := by
        unfold qdiv Format.div
        rw [a1, b1]
        show Option.getD (Option.map single.write (if n = 0 then if m = 0 then none else some (.infinity (false ^^ false)) else some (.number (false ^^ false) (2 * (m <<< (25 + n.log2 - m.log2) / n) + (m <<< (25 + n.log2 - m.log2) % n != 0).toNat) ((I : Int) - 149 - ((J : Int) - 149) - (25 + n.log2 - m.log2 : Nat) - 1)))) 0 = _
        rw [if_neg hn0]
        show single.nearest (false ^^ false) _ _ = _
        rw [nearest_eq]
        rfl
      obtain ⟨w1, w2⟩ := word_parts (r := rungTo single (2 * (m <<< (25 + n.log2 - m.log2) / n) + (m <<< (25 + n.log2 - m.log2) % n != 0).toNat) ((I : Int) - 149 - ((J : Int) - 149) - (25 + n.log2 - m.log2 : Nat) - 1)) (rungTo_le _ _ _)
      rw [hq, w2]
      have hM : m.log2 + (25 + n.log2 - m.log2) ≥ 25 + n.log2 := by omega
      have hD : 2 ^ 24 ≤ m <<< (25 + n.log2 - m.log2) / n := by
        rw [Nat.le_div_iff_mul_le (by omega), Nat.shiftLeft_eq]
        have k2 : n < 2 ^ (n.log2 + 1) := Nat.lt_log2_self
        have k3 : 2 ^ m.log2 ≤ m := Nat.log2_self_le hm0
        have k4 := Nat.mul_le_mul_right (2 ^ (25 + n.log2 - m.log2)) k3
        rw [← Nat.pow_add] at k4
        have k5 : 2 ^ (25 + n.log2) ≤ 2 ^ (m.log2 + (25 + n.log2 - m.log2)) := Nat.pow_le_pow_right (by omega) hM
        have k6 : 2 ^ 24 * n ≤ 2 ^ 24 * 2 ^ (n.log2 + 1) := Nat.mul_le_mul_left _ (by omega)
        rw [← Nat.pow_add, show 24 + (n.log2 + 1) = 25 + n.log2 by omega] at k6
        omega
      by_cases hmo : m.log2 ≤ 25 + n.log2
      · refine rung_high (by omega) ?_
        have hlg := log_le (k := 25) (m := 2 * (m <<< (25 + n.log2 - m.log2) / n) + (m <<< (25 + n.log2 - m.log2) % n != 0).toNat) (by omega)
        omega
      · have hz : 25 + n.log2 - m.log2 = 0 := by omega
        refine rung_high (by omega) ?_
        have hlg := log_le (k := m.log2 - n.log2) (m := 2 * (m <<< (25 + n.log2 - m.log2) / n) + (m <<< (25 + n.log2 - m.log2) % n != 0).toNat) (by
          have k2 : n < 2 ^ (n.log2 + 1) := Nat.lt_log2_self
          have k3 : 2 ^ m.log2 ≤ m := Nat.log2_self_le hm0
          have k7 : 2 ^ (m.log2 - n.log2 - 1) ≤ m <<< (25 + n.log2 - m.log2) / n := by
            rw [Nat.le_div_iff_mul_le (by omega), Nat.shiftLeft_eq, hz, Nat.pow_zero, Nat.mul_one]
            have k6 : 2 ^ (m.log2 - n.log2 - 1) * n ≤ 2 ^ (m.log2 - n.log2 - 1) * 2 ^ (n.log2 + 1) := Nat.mul_le_mul_left _ (by omega)
            rw [← Nat.pow_add, show m.log2 - n.log2 - 1 + (n.log2 + 1) = m.log2 by omega] at k6
            omega
          have k8 : 2 ^ (m.log2 - n.log2) = 2 * 2 ^ (m.log2 - n.log2 - 1) := by
            obtain ⟨t, ht⟩ : ∃ t, m.log2 - n.log2 = t + 1 := ⟨m.log2 - n.log2 - 1, by omega⟩
            rw [ht, Nat.add_sub_cancel, Nat.pow_succ, Nat.mul_comm]
          omega)
        rw [hz]
        rw [hz] at hlg
        omega
    unfold key
    rw [hd.2.1]
    have hk0 : key single 0 = 0 := by decide +kernel
    unfold key at hk0
    rw [hk0]
    simp
    omega
  · rw [le_key he r2 (by decide +kernel)]
    have hk1 : key single 1065353216 = 1065353216 := by decide +kernel
    rw [hk1]
    unfold key
    rw [hd.2.1]
    have := hd.2.2
    simp
    omega
end Go.Proofs.Ytbpigeipjeegiaa
