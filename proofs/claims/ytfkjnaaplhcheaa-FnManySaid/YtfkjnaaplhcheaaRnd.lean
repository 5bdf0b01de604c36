/-
  Rounding: what a word is worth, in units of its format's last place; the nearest word; order; which results are no NaN.
-/
import Derived.Test.YtfkjnaaplhcheaaFl
namespace Go.Proofs.Ytfkjnaaplhcheaa
open Go Ieee

/-- what a rung is worth, in units of the last place of the smallest numbers -/
def mu (f : Format) (r : Nat) : Nat := if r < f.binade then r else (f.binade + r % f.binade) * 2 ^ (r / f.binade - 1)
def rungOf (f : Format) (x : Nat) : Nat := x % f.signWeight
def negOf (f : Format) (x : Nat) : Bool := x / f.signWeight % 2 == 1
theorem binade_pos (f : Format) : 0 < f.binade := Nat.two_pow_pos _
theorem binade_le_inf (f : Format) (h : 1 ≤ f.exponentBits) : f.binade ≤ f.infRung := by
  unfold Format.infRung
  have : 2 ≤ 2 ^ f.exponentBits := by
    calc 2 = 2 ^ 1 := rfl
      _ ≤ 2 ^ f.exponentBits := Nat.pow_le_pow_right (by decide) h
  exact Nat.le_mul_of_pos_left _ (by omega)

theorem read_eq (f : Format) (x : Nat) : f.read x =
    if rungOf f x < f.binade then .number (negOf f x) (rungOf f x) f.leastPlace
    else if rungOf f x < f.infRung then .number (negOf f x) (f.binade + rungOf f x % f.binade) (f.leastPlace + (rungOf f x / f.binade - 1 : Nat))
    else if rungOf f x = f.infRung then .infinity (negOf f x) else .nan (negOf f x) (rungOf f x - f.infRung) := rfl

theorem rung_word (f : Format) (s : Bool) {r : Nat} (h : r < f.signWeight) : rungOf f (f.word s r) = r ∧ negOf f (f.word s r) = s := by
  unfold rungOf negOf Format.word
  have h0 : 0 < f.signWeight := by omega
  cases s
  · simp [Nat.mod_eq_of_lt h, Nat.div_eq_of_lt h]
  · simp only [if_true]
    refine ⟨by rw [Nat.add_mod_left, Nat.mod_eq_of_lt h], ?_⟩
    rw [Nat.add_div_left _ h0, Nat.div_eq_of_lt h]
    rfl

theorem fin_iff (f : Format) (he : 1 ≤ f.exponentBits) (x : Nat) : isFin f x = true ↔ rungOf f x < f.infRung := by
  unfold isFin
  rw [read_eq]
  have hb := binade_le_inf f he
  by_cases h1 : rungOf f x < f.binade
  · simp [h1]; omega
  · by_cases h2 : rungOf f x < f.infRung
    · simp [h1, h2]
    · rw [if_neg h1, if_neg h2]
      by_cases h3 : rungOf f x = f.infRung
      · rw [if_pos h3]; simp; omega
      · rw [if_neg h3]; simp; omega
theorem nan_iff (f : Format) (he : 1 ≤ f.exponentBits) (x : Nat) : isNan f x = true ↔ f.infRung < rungOf f x := by
  unfold isNan Datum.isNaN
  rw [read_eq]
  have hb := binade_le_inf f he
  by_cases h1 : rungOf f x < f.binade
  · simp [h1]; omega
  · by_cases h2 : rungOf f x < f.infRung
    · simp [h1, h2]; omega
    · rw [if_neg h1, if_neg h2]
      by_cases h3 : rungOf f x = f.infRung
      · rw [if_pos h3]; simp; omega
      · rw [if_neg h3]; simp; omega

/-- the rung of the nearest word, and infinity above -/
def lastOf (f : Format) (mag : Nat) (place : Int) : Int := max (place + mag.log2 - f.fractionBits) f.leastPlace
def keptOf (f : Format) (mag : Nat) (place : Int) : Nat := Toward.even.cut false (mag <<< (place - lastOf f mag place).toNat) (lastOf f mag place - place).toNat
def rungTo (f : Format) (mag : Nat) (place : Int) : Nat := if mag = 0 then 0 else min ((lastOf f mag place - f.leastPlace).toNat * f.binade + keptOf f mag place) f.infRung
theorem cut_neg (s : Bool) (n d : Nat) : Toward.even.cut s n d = Toward.even.cut false n d := rfl
theorem nearest_eq (f : Format) (s : Bool) (mag : Nat) (place : Int) : f.nearest s mag place = f.word s (rungTo f mag place) := by
  unfold Format.nearest rungTo
  split
  · rfl
  · rfl
theorem rungTo_le (f : Format) (mag : Nat) (place : Int) : rungTo f mag place ≤ f.infRung := by
  unfold rungTo
  split
  · exact Nat.zero_le _
  · exact Nat.min_le_right _ _
theorem rungTo_lt (f : Format) (mag : Nat) (place : Int) : rungTo f mag place < f.signWeight := Nat.lt_of_le_of_lt (rungTo_le f mag place) f.infRung_lt

theorem notNan_write (f : Format) (he : 1 ≤ f.exponentBits) (d : Datum) (h : d.isNaN = false) : isNan f (f.write d) = false := by
  rw [Bool.eq_false_iff]
  intro hn
  rw [nan_iff f he] at hn
  cases d with
  | number s m i =>
    have := (rung_word f s (rungTo_lt f m i)).1
    have h2 : f.write (.number s m i) = f.word s (rungTo f m i) := nearest_eq f s m i
    rw [h2, this] at hn
    have := rungTo_le f m i
    omega
  | infinity s =>
    have := (rung_word f s f.infRung_lt).1
    have h2 : f.write (.infinity s) = f.word s f.infRung := rfl
    rw [h2, this] at hn
    omega
  | nan s t => simp [Datum.isNaN] at h

/-- a rounded quotient lies within half a unit -/
theorem cut_even (n d : Nat) : 2 * (Toward.even.cut false n d * 2 ^ d) ≤ 2 * n + 2 ^ d ∧ 2 * n ≤ 2 * (Toward.even.cut false n d * 2 ^ d) + 2 ^ d := by
  unfold Toward.cut
  simp only [Nat.shiftLeft_eq, Nat.one_mul]
  by_cases hd : d ≤ n.log2 + 2
  · rw [Nat.min_eq_left hd]
    have hg : 0 < 2 ^ d := Nat.two_pow_pos _
    have hdm := Nat.div_add_mod n (2 ^ d)
    have hm := Nat.mod_lt n hg
    generalize hq : n / 2 ^ d = q at *
    generalize hr : n % 2 ^ d = r at *
    generalize 2 ^ d = g at *
    have e1 : (q + 1) * g = g * q + g := by rw [Nat.add_mul, Nat.one_mul, Nat.mul_comm]
    have e0 : (q + 0) * g = g * q := by rw [Nat.add_zero, Nat.mul_comm]
    by_cases hc : (decide (g < 2 * r) || (g == 2 * r && q % 2 == 1)) = true
    · rw [hc]
      simp only [Bool.toNat_true]
      rw [e1]
      have : g ≤ 2 * r := by
        rcases Bool.or_eq_true _ _ ▸ hc with h | h
        · have := of_decide_eq_true h; omega
        · have := (Bool.and_eq_true _ _ ▸ h).1
          have := beq_iff_eq.1 this
          omega
      omega
    · rw [Bool.not_eq_true] at hc
      rw [hc]
      simp only [Bool.toNat_false]
      rw [e0]
      have : 2 * r ≤ g := by
        rw [Bool.or_eq_false_iff] at hc
        have := of_decide_eq_false hc.1
        omega
      omega
  · rw [Nat.min_eq_right (by omega)]
    have hn : n < 2 ^ (n.log2 + 1) := Nat.lt_log2_self
    have h2 : 2 ^ (n.log2 + 2) = 2 * 2 ^ (n.log2 + 1) := by rw [Nat.pow_succ, Nat.mul_comm]
    have h3 : 2 ^ (n.log2 + 2) ≤ 2 ^ d := Nat.pow_le_pow_right (by decide) (by omega)
    have hq : n / 2 ^ (n.log2 + 2) = 0 := Nat.div_eq_of_lt (by omega)
    have hr : n % 2 ^ (n.log2 + 2) = n := Nat.mod_eq_of_lt (by omega)
    rw [hq, hr]
    have hc : (decide (2 ^ (n.log2 + 2) < 2 * n) || (2 ^ (n.log2 + 2) == 2 * n && 0 % 2 == 1)) = false := by
      simp
      omega
    rw [hc]
    simp
    omega
theorem cut_zero (n : Nat) : Toward.even.cut false n 0 = n := by
  unfold Toward.cut
  simp [Nat.mod_one]

/-- wide enough: a single as a double is no infinity -/
theorem wide (x : Nat) (h : isNan single x = false) : ∃ r, floatToFloatBits .f32 x .f64 = some r ∧ isNan double r = false := by
  unfold floatToFloatBits
  rw [if_neg (by decide)]
  unfold FloatKind.decode FloatKind.encode
  show ∃ r, (match single.read x with | .nan _ _ => none | .infinity s => some (double.write (.infinity s)) | .number s m e => if (double.read (double.write (.number s m e))).isInfinity = true then none else some (double.write (.number s m e))) = some r ∧ isNan double r = false
  rw [read_eq]
  have c1 : single.binade = 8388608 := rfl
  have c2 : single.infRung = 2139095040 := rfl
  have c3 : single.leastPlace = -149 := rfl
  have hn : ¬ single.infRung < rungOf single x := fun h' => by
    rw [(nan_iff single (by decide) x).2 h'] at h
    cases h
  have key : ∀ (s : Bool) (m : Nat) (e : Int), m < 16777216 → -149 ≤ e → e ≤ 104 → (double.read (double.write (.number s m e))).isInfinity = false := by
    intro s m e hm h1 h2
    have hw : double.write (.number s m e) = double.word s (rungTo double m e) := nearest_eq double s m e
    have hlt : rungTo double m e < double.infRung := by
      unfold rungTo
      split
      · decide +kernel
      · rename_i hm0
        refine Nat.lt_of_le_of_lt (Nat.min_le_left _ _) ?_
        have d1 : double.binade = 4503599627370496 := rfl
        have d2 : double.infRung = 9218868437227405312 := rfl
        have d3 : double.leastPlace = -1074 := rfl
        have d4 : (double.fractionBits : Int) = 52 := rfl
        have hl : m.log2 ≤ 23 := by
          have := (Nat.log2_lt hm0).2 (show m < 2 ^ 24 from hm)
          omega
        have hlo : 2 ^ m.log2 ≤ m := Nat.log2_self_le hm0
        have hhi : m < 2 ^ (m.log2 + 1) := Nat.lt_log2_self
        have hlast : lastOf double m e = e + m.log2 - 52 := by
          unfold lastOf
          rw [d3, d4]
          omega
        have hk : keptOf double m e < 9007199254740992 := by
          unfold keptOf
          rw [hlast]
          have z : (e + (m.log2 : Int) - 52 - e).toNat = 0 := by omega
          have y : (e - (e + (m.log2 : Int) - 52)).toNat = 52 - m.log2 := by omega
          rw [z, y, cut_zero, Nat.shiftLeft_eq]
          have : m * 2 ^ (52 - m.log2) < 2 ^ (m.log2 + 1) * 2 ^ (52 - m.log2) := Nat.mul_lt_mul_of_pos_right hhi (Nat.two_pow_pos _)
          rw [← Nat.pow_add, show m.log2 + 1 + (52 - m.log2) = 53 from by omega] at this
          exact this
        rw [hlast, d1, d2, d3]
        have : (e + (m.log2 : Int) - 52 - -1074).toNat ≤ 1149 := by omega
        generalize (e + (m.log2 : Int) - 52 - -1074).toNat = q at *
        omega
    rw [hw, read_eq, (rung_word double s (rungTo_lt double m e)).1, (rung_word double s (rungTo_lt double m e)).2]
    split
    · rfl
    · rfl
  by_cases h1 : rungOf single x < single.binade
  · rw [if_pos h1]
    rw [c1] at h1
    have hk := key (negOf single x) (rungOf single x) single.leastPlace (by omega) (by rw [c3]; omega) (by rw [c3]; omega)
    exact ⟨_, by simp only [hk]; rfl, notNan_write double (by decide) _ rfl⟩
  · rw [if_neg h1]
    by_cases h2 : rungOf single x < single.infRung
    · rw [if_pos h2]
      rw [c2] at h2
      rw [c1] at h1
      have hk := key (negOf single x) (single.binade + rungOf single x % single.binade) (single.leastPlace + (rungOf single x / single.binade - 1 : Nat)) (by rw [c1]; omega) (by rw [c3]; omega) (by rw [c3, c1]; omega)
      exact ⟨_, by simp only [hk]; rfl, notNan_write double (by decide) _ rfl⟩
    · rw [if_neg h2, if_pos (by omega)]
      exact ⟨_, rfl, notNan_write double (by decide) _ rfl⟩
end Go.Proofs.Ytfkjnaaplhcheaa
