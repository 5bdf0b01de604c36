/-
  The order of numbers by whole numbers: every number that is no NaN has a key, and numbers stand to one another as their keys. Which sums, differences and products are no NaN.
-/
import Derived.Test.YtfkjnaaplhcheaaRnd
namespace Go.Proofs.Ytfkjnaaplhcheaa
open Go Ieee

/-- the key: the rung, negative with the sign -/
def key (f : Format) (x : Nat) : Int := if negOf f x then -(rungOf f x : Int) else rungOf f x

theorem mu_succ (f : Format) (r : Nat) : mu f r < mu f (r + 1) := by
  have hb := binade_pos f
  unfold mu
  by_cases h1 : r + 1 < f.binade
  · rw [if_pos h1, if_pos (by omega)]
    omega
  · by_cases h2 : r < f.binade
    · have : r + 1 = f.binade := by omega
      rw [if_pos h2, if_neg h1, this, Nat.mod_self, Nat.div_self hb]
      simp
      omega
    · rw [if_neg h2, if_neg h1]
      have hd : r / f.binade * f.binade + r % f.binade = r := by rw [Nat.mul_comm]; exact Nat.div_add_mod r f.binade
      have hm := Nat.mod_lt r hb
      have hq : 1 ≤ r / f.binade := (Nat.le_div_iff_mul_le hb).2 (by omega)
      by_cases h3 : r % f.binade + 1 < f.binade
      · have e1 : (r + 1) % f.binade = r % f.binade + 1 := by
          rw [← hd, Nat.add_assoc, Nat.mul_comm, Nat.mul_add_mod, Nat.mod_eq_of_lt h3, Nat.mul_add_mod, Nat.mod_eq_of_lt hm]
        have e2 : (r + 1) / f.binade = r / f.binade := by
          rw [← hd, Nat.add_assoc, Nat.mul_comm, Nat.mul_add_div hb, Nat.div_eq_of_lt h3, Nat.mul_add_div hb, Nat.div_eq_of_lt hm]
        rw [e1, e2]
        exact Nat.mul_lt_mul_of_pos_right (by omega) (Nat.two_pow_pos _)
      · have h4 : r % f.binade + 1 = f.binade := by omega
        have hr1 : r + 1 = (r / f.binade + 1) * f.binade := by rw [Nat.add_mul, Nat.one_mul]; omega
        have e1 : (r + 1) % f.binade = 0 := by rw [hr1]; exact Nat.mul_mod_left _ _
        have e2 : (r + 1) / f.binade = r / f.binade + 1 := by rw [hr1]; exact Nat.mul_div_cancel _ hb
        rw [e1, e2]
        have e3 : 2 ^ (r / f.binade + 1 - 1) = 2 * 2 ^ (r / f.binade - 1) := by
          rw [← Nat.pow_succ']
          congr 1
          omega
        rw [e3, Nat.add_zero, ← Nat.mul_assoc]
        exact Nat.mul_lt_mul_of_pos_right (by omega) (Nat.two_pow_pos _)
theorem mu_mono (f : Format) {r s : Nat} (h : r < s) : mu f r < mu f s := by
  induction s with
  | zero => omega
  | succ s ih =>
    rcases Nat.lt_or_ge r s with h1 | h1
    · exact Nat.lt_trans (ih h1) (mu_succ f s)
    · have : r = s := by omega
      subst this
      exact mu_succ f r
theorem mu_zero (f : Format) : mu f 0 = 0 := by
  unfold mu
  rw [if_pos (binade_pos f)]
theorem mu_le_iff (f : Format) (r s : Nat) : mu f r ≤ mu f s ↔ r ≤ s := by
  constructor
  · intro h
    rcases Nat.lt_or_ge s r with h1 | h1
    · have := mu_mono f h1; omega
    · exact h1
  · intro h
    rcases Nat.lt_or_ge r s with h1 | h1
    · exact Nat.le_of_lt (mu_mono f h1)
    · have : r = s := by omega
      rw [this]
      exact Nat.le_refl _

/-- a finite word's datum: its worth in units, with its sign -/
theorem read_fin {f : Format} {x : Nat} (h : rungOf f x < f.infRung) : ∃ m e, f.read x = .number (negOf f x) m e ∧ f.leastPlace ≤ e ∧ m * 2 ^ (e - f.leastPlace).toNat = mu f (rungOf f x) := by
  rw [read_eq]
  unfold mu
  by_cases h1 : rungOf f x < f.binade
  · rw [if_pos h1, if_pos h1]
    exact ⟨_, _, rfl, Int.le_refl _, by simp⟩
  · rw [if_neg h1, if_pos h, if_neg h1]
    refine ⟨_, _, rfl, by omega, ?_⟩
    congr 2
    omega
def smu (f : Format) (x : Nat) : Int := if negOf f x then -(mu f (rungOf f x) : Int) else mu f (rungOf f x)

theorem signed_scale (s : Bool) (m a b : Nat) : signed s m (a + b) = signed s m a * 2 ^ b := by
  unfold signed
  rw [Nat.shiftLeft_eq, Nat.shiftLeft_eq, Nat.pow_add, ← Nat.mul_assoc]
  split
  · rw [Int.neg_mul]
    push_cast
    rfl
  · push_cast
    rfl
theorem compare_scale (a b : Int) (k : Nat) : compare (a * 2 ^ k) (b * 2 ^ k) = compare a b := by
  have hp : (0 : Int) < 2 ^ k := Int.pow_pos (by decide)
  rcases Int.lt_trichotomy a b with h | h | h
  · rw [Int.compare_eq_lt.2 h, Int.compare_eq_lt.2 (Int.mul_lt_mul_of_pos_right h hp)]
  · subst h
    rw [Int.compare_eq_eq.2 rfl, Int.compare_eq_eq.2 rfl]
  · rw [Int.compare_eq_gt.2 h, Int.compare_eq_gt.2 (Int.mul_lt_mul_of_pos_right h hp)]
theorem order_units {f : Format} {x y : Nat} (hx : rungOf f x < f.infRung) (hy : rungOf f y < f.infRung) : f.order x y = some (compare (smu f x) (smu f y)) := by
  obtain ⟨m, e, hr, he, hm⟩ := read_fin hx
  obtain ⟨n, d, hs, hd, hn⟩ := read_fin hy
  unfold Format.order Datum.order
  rw [hr, hs]
  simp only
  have hb : f.leastPlace ≤ min e d := by omega
  have e1 : (e - f.leastPlace).toNat = (e - min e d).toNat + (min e d - f.leastPlace).toNat := by omega
  have e2 : (d - f.leastPlace).toNat = (d - min e d).toNat + (min e d - f.leastPlace).toNat := by omega
  have s1 : smu f x = signed (negOf f x) m (e - min e d).toNat * 2 ^ (min e d - f.leastPlace).toNat := by
    rw [← signed_scale, ← e1]
    unfold smu signed
    rw [Nat.shiftLeft_eq, hm]
  have s2 : smu f y = signed (negOf f y) n (d - min e d).toNat * 2 ^ (min e d - f.leastPlace).toNat := by
    rw [← signed_scale, ← e2]
    unfold smu signed
    rw [Nat.shiftLeft_eq, hn]
  rw [s1, s2, compare_scale]
theorem compare_congr {a b c d : Int} (h1 : a < b ↔ c < d) (h2 : b < a ↔ d < c) : compare a b = compare c d := by
  rcases Int.lt_trichotomy a b with h | h | h
  · rw [Int.compare_eq_lt.2 h, Int.compare_eq_lt.2 (h1.1 h)]
  · have e : c = d := by
      have n1 : ¬ c < d := fun h' => by have := h1.2 h'; omega
      have n2 : ¬ d < c := fun h' => by have := h2.2 h'; omega
      omega
    rw [Int.compare_eq_eq.2 h, Int.compare_eq_eq.2 e]
  · rw [Int.compare_eq_gt.2 h, Int.compare_eq_gt.2 (h2.1 h)]
theorem smu_lt {f : Format} {x y : Nat} : smu f x < smu f y ↔ key f x < key f y := by
  unfold smu key
  have a1 := mu_le_iff f (rungOf f x) (rungOf f y)
  have a2 := mu_le_iff f (rungOf f y) (rungOf f x)
  have a3 := mu_le_iff f (rungOf f x) 0
  have a4 := mu_le_iff f (rungOf f y) 0
  rw [mu_zero] at a3 a4
  generalize mu f (rungOf f x) = a at *
  generalize mu f (rungOf f y) = b at *
  generalize rungOf f x = r at *
  generalize rungOf f y = s at *
  cases negOf f x <;> cases negOf f y <;> simp <;> omega
theorem notNan_le {f : Format} (he : 1 ≤ f.exponentBits) {x : Nat} (h : isNan f x = false) : rungOf f x ≤ f.infRung := by
  rcases Nat.lt_or_ge f.infRung (rungOf f x) with h1 | h1
  · rw [(nan_iff f he x).2 h1] at h
    cases h
  · exact h1
theorem inf_pos {f : Format} (he : 1 ≤ f.exponentBits) : 0 < f.infRung := Nat.lt_of_lt_of_le (binade_pos f) (binade_le_inf f he)
theorem read_inf {f : Format} (he : 1 ≤ f.exponentBits) {x : Nat} (h : rungOf f x = f.infRung) : f.read x = .infinity (negOf f x) := by
  have := binade_le_inf f he
  rw [read_eq, if_neg (by omega), if_neg (by omega), if_pos h]
/-- NUMBERS STAND TO ONE ANOTHER AS THEIR KEYS -/
theorem order_key {f : Format} (he : 1 ≤ f.exponentBits) {x y : Nat} (hx : isNan f x = false) (hy : isNan f y = false) : f.order x y = some (compare (key f x) (key f y)) := by
  have lx := notNan_le he hx
  have ly := notNan_le he hy
  have hp := inf_pos he
  by_cases h1 : rungOf f x < f.infRung
  · by_cases h2 : rungOf f y < f.infRung
    · rw [order_units h1 h2, compare_congr smu_lt smu_lt]
    · have e2 : rungOf f y = f.infRung := by omega
      obtain ⟨m, e, hr, -, -⟩ := read_fin h1
      unfold Format.order Datum.order
      rw [hr, read_inf he e2]
      simp only
      unfold key
      rw [e2]
      cases negOf f x <;> cases negOf f y <;> simp <;> (first | (symm; rw [Int.compare_eq_lt]; omega) | (symm; rw [Int.compare_eq_gt]; omega))
  · have e1 : rungOf f x = f.infRung := by omega
    by_cases h2 : rungOf f y < f.infRung
    · obtain ⟨m, e, hr, -, -⟩ := read_fin h2
      unfold Format.order Datum.order
      rw [hr, read_inf he e1]
      simp only
      unfold key
      rw [e1]
      cases negOf f x <;> cases negOf f y <;> simp <;> (first | (symm; rw [Int.compare_eq_lt]; omega) | (symm; rw [Int.compare_eq_gt]; omega))
    · have e2 : rungOf f y = f.infRung := by omega
      unfold Format.order Datum.order
      rw [read_inf he e1, read_inf he e2]
      simp only
      unfold key
      rw [e1, e2]
      have c0 : ∀ a : Int, compare a a = .eq := fun a => Int.compare_eq_eq.2 rfl
      have c1 : compare ((f.infRung : Nat) : Int) (-((f.infRung : Nat) : Int)) = .gt := Int.compare_eq_gt.2 (by omega)
      have c2 : compare (-((f.infRung : Nat) : Int)) ((f.infRung : Nat) : Int) = .lt := Int.compare_eq_lt.2 (by omega)
      cases negOf f x <;> cases negOf f y <;> simp only [if_true, Bool.false_eq_true, if_false, c0, c1, c2] <;> rfl

/-! ### tests in terms of keys -/
section
variable {f : Format} (he : 1 ≤ f.exponentBits) {x y : Nat} (hx : isNan f x = false) (hy : isNan f y = false)
include he hx hy
theorem lt_key : (f.order x y == some .lt) = decide (key f x < key f y) := by
  rw [order_key he hx hy]
  rcases Int.lt_trichotomy (key f x) (key f y) with h | h | h
  · rw [Int.compare_eq_lt.2 h, decide_eq_true h]; rfl
  · rw [Int.compare_eq_eq.2 h, decide_eq_false (by omega)]; rfl
  · rw [Int.compare_eq_gt.2 h, decide_eq_false (by omega)]; rfl
theorem gt_key : (f.order x y == some .gt) = decide (key f y < key f x) := by
  rw [order_key he hx hy]
  rcases Int.lt_trichotomy (key f x) (key f y) with h | h | h
  · rw [Int.compare_eq_lt.2 h, decide_eq_false (by omega)]; rfl
  · rw [Int.compare_eq_eq.2 h, decide_eq_false (by omega)]; rfl
  · rw [Int.compare_eq_gt.2 h, decide_eq_true h]; rfl
theorem eq_key : (f.order x y == some .eq) = decide (key f x = key f y) := by
  rw [order_key he hx hy]
  rcases Int.lt_trichotomy (key f x) (key f y) with h | h | h
  · rw [Int.compare_eq_lt.2 h, decide_eq_false (by omega)]; rfl
  · rw [Int.compare_eq_eq.2 h, decide_eq_true h]; rfl
  · rw [Int.compare_eq_gt.2 h, decide_eq_false (by omega)]; rfl
theorem le_key : (f.order x y == some .lt || f.order x y == some .eq) = decide (key f x ≤ key f y) := by
  rw [lt_key he hx hy, eq_key he hx hy, ← Bool.decide_or]
  apply decide_eq_decide.2
  omega
theorem ge_key : (f.order x y == some .gt || f.order x y == some .eq) = decide (key f y ≤ key f x) := by
  rw [gt_key he hx hy, eq_key he hx hy, ← Bool.decide_or]
  apply decide_eq_decide.2
  omega
end

/-! ### which results are no NaN -/
theorem notNan_word {f : Format} (he : 1 ≤ f.exponentBits) {d : Datum} (h : d.isNaN = false) : isNan f (f.write d) = false := notNan_write f he d h
theorem read_notNan {f : Format} {x : Nat} (h : isNan f x = false) : (∃ m e, f.read x = .number (negOf f x) m e) ∨ f.read x = .infinity (negOf f x) := by
  have hh := h
  unfold isNan Datum.isNaN at hh
  rw [read_eq] at hh ⊢
  by_cases h1 : rungOf f x < f.binade
  · rw [if_pos h1]; exact .inl ⟨_, _, rfl⟩
  · rw [if_neg h1] at hh ⊢
    by_cases h2 : rungOf f x < f.infRung
    · rw [if_pos h2]; exact .inl ⟨_, _, rfl⟩
    · rw [if_neg h2] at hh ⊢
      by_cases h3 : rungOf f x = f.infRung
      · rw [if_pos h3]; exact .inr rfl
      · rw [if_neg h3] at hh; cases hh
theorem read_isFin {f : Format} {x : Nat} (h : isFin f x = true) : ∃ m e, f.read x = .number (negOf f x) m e := by
  rcases read_notNan (fin_not_nan h) with h1 | h1
  · exact h1
  · unfold isFin at h
    rw [h1] at h
    cases h
/-- a sum of which one part is finite and the other no NaN -/
theorem add_some {f : Format} (he : 1 ≤ f.exponentBits) {x y : Nat} (hx : isNan f x = false) (hy : isFin f y = true) : ∃ r, f.add x y = some r ∧ isNan f r = false := by
  obtain ⟨n, d, hs⟩ := read_isFin hy
  unfold Format.add
  rcases read_notNan hx with ⟨m, e, hr⟩ | hr <;> rw [hr, hs]
  · exact ⟨_, rfl, notNan_write f he _ rfl⟩
  · exact ⟨_, rfl, notNan_write f he _ rfl⟩
theorem sub_some {f : Format} (he : 1 ≤ f.exponentBits) {x y : Nat} (hx : isNan f x = false) (hy : isFin f y = true) : ∃ r, f.sub x y = some r ∧ isNan f r = false := by
  obtain ⟨n, d, hs⟩ := read_isFin hy
  unfold Format.sub
  rcases read_notNan hx with ⟨m, e, hr⟩ | hr <;> rw [hr, hs]
  · exact ⟨_, rfl, notNan_write f he _ rfl⟩
  · exact ⟨_, rfl, notNan_write f he _ rfl⟩
theorem mul_some {f : Format} (he : 1 ≤ f.exponentBits) {x y : Nat} (hx : isFin f x = true) (hy : isFin f y = true) : ∃ r, f.mul x y = some r ∧ isNan f r = false := by
  obtain ⟨m, e, hr⟩ := read_isFin hx
  obtain ⟨n, d, hs⟩ := read_isFin hy
  unfold Format.mul
  rw [hr, hs]
  exact ⟨_, rfl, notNan_write f he _ rfl⟩
end Go.Proofs.Ytfkjnaaplhcheaa

