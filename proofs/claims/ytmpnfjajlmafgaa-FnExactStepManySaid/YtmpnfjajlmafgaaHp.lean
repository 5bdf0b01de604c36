/-
  HolmMany and StepMany, plain: the greatest and the least of capped numbers, told one after another, are those of the numbers, capped.
-/
import Derived.Test.YtmpnfjajlmafgaaAo
import Derived.Test.YtmpnfjajlmafgaaNb
import Derived.Test.YtmpnfjajlmafgaaNn
namespace Go.Proofs.Ytmpnfjajlmafgaa
open Go Go.RowKit Ieee

theorem lt_key' {x y : Nat} (hx : isNan single x = false) (hy : isNan single y = false) : FloatKind.f32.format.order x y = some .lt ↔ key single x < key single y := by
  have h := lt_key (f := single) (by decide) hx hy
  constructor
  · intro h1
    have h2 : (single.order x y == some .lt) = true := by
      show (FloatKind.f32.format.order x y == some .lt) = true
      rw [h1]
      rfl
    rw [h2] at h
    exact of_decide_eq_true h.symm
  · intro h1
    rw [decide_eq_true h1] at h
    exact eq_of_beq h
theorem gt_key' {x y : Nat} (hx : isNan single x = false) (hy : isNan single y = false) : FloatKind.f32.format.order x y = some .gt ↔ key single y < key single x := by
  have h := gt_key (f := single) (by decide) hx hy
  constructor
  · intro h1
    have h2 : (single.order x y == some .gt) = true := by
      show (FloatKind.f32.format.order x y == some .gt) = true
      rw [h1]
      rfl
    rw [h2] at h
    exact of_decide_eq_true h.symm
  · intro h1
    rw [decide_eq_true h1] at h
    exact eq_of_beq h
def wordN (x : Nat) : Prop := isNan single x = false ∧ x < 4294967296
theorem one_word {x : Nat} (hx : x < 4294967296) (h : key single x = 1065353216) : x = 1065353216 := by
  have hn : negOf single x = false := by
    cases h1 : negOf single x with
    | false => rfl
    | true =>
      unfold key at h
      rw [h1] at h
      simp at h
      omega
  have h2 := word_nn hx hn
  unfold key at h
  rw [hn] at h
  simp at h
  omega
theorem cap_key {x : Nat} (hx : isNan single x = false) : (key single x ≤ 1065353216 ∧ capF x = x) ∨ (1065353216 < key single x ∧ capF x = 1065353216) := by
  have h := gt_key' hx one_notNan
  rw [key_one] at h
  unfold capF
  by_cases h1 : 1065353216 < key single x
  · exact .inr ⟨h1, if_pos (h.2 h1)⟩
  · exact .inl ⟨by omega, if_neg fun h2 => h1 (h.1 h2)⟩
theorem cap_word {x : Nat} (hx : wordN x) : wordN (capF x) := by
  rcases cap_key hx.1 with ⟨-, h⟩ | ⟨-, h⟩
  · rw [h]; exact hx
  · rw [h]; exact ⟨one_notNan, by decide⟩

/-- the greatest so far -/
def mostI (f : Nat → Nat) : Nat → Nat
  | 0 => 0
  | k + 1 => if k = 0 ∨ FloatKind.f32.format.order (f k) (mostI f k) = some .gt then f k else mostI f k
/-- the least so far -/
def leastI (f : Nat → Nat) : Nat → Nat
  | 0 => 0
  | k + 1 => if k = 0 ∨ FloatKind.f32.format.order (f k) (leastI f k) ≠ some .gt then f k else leastI f k
theorem mostI_word {f : Nat → Nat} {n : Nat} (h : ∀ k, k < n → wordN (f k)) : ∀ k, k < n → wordN (mostI f (k + 1))
  | 0, hk => by
    show wordN (if 0 = 0 ∨ _ then _ else _)
    rw [if_pos (.inl rfl)]
    exact h 0 hk
  | k + 1, hk => by
    show wordN (if k + 1 = 0 ∨ _ then _ else _)
    split
    · exact h _ hk
    · exact mostI_word h k (by omega)
theorem leastI_word {f : Nat → Nat} {n : Nat} (h : ∀ k, k < n → wordN (f k)) : ∀ k, k < n → wordN (leastI f (k + 1))
  | 0, hk => by
    show wordN (if 0 = 0 ∨ _ then _ else _)
    rw [if_pos (.inl rfl)]
    exact h 0 hk
  | k + 1, hk => by
    show wordN (if k + 1 = 0 ∨ _ then _ else _)
    split
    · exact h _ hk
    · exact leastI_word h k (by omega)
theorem most_cap {f : Nat → Nat} {n : Nat} (h : ∀ k, k < n → wordN (f k)) : ∀ k, k < n → mostI (fun i => capF (f i)) (k + 1) = capF (mostI f (k + 1))
  | 0, hk => rfl
  | k + 1, hk => by
    have ih := most_cap h k (by omega)
    have hm := mostI_word h k (by omega)
    have hx := h (k + 1) hk
    show (if k + 1 = 0 ∨ FloatKind.f32.format.order (capF (f (k + 1))) (mostI (fun i => capF (f i)) (k + 1)) = some .gt then capF (f (k + 1)) else mostI (fun i => capF (f i)) (k + 1)) = capF (if k + 1 = 0 ∨ FloatKind.f32.format.order (f (k + 1)) (mostI f (k + 1)) = some .gt then f (k + 1) else mostI f (k + 1))
    rw [ih]
    generalize mostI f (k + 1) = m at *
    generalize f (k + 1) = x at *
    have g1 := gt_key' hx.1 hm.1
    have g2 := gt_key' (cap_word hx).1 (cap_word hm).1
    have z : ¬ (k + 1 = 0) := by omega
    simp only [g1, g2]
    rcases cap_key hx.1 with ⟨a1, a2⟩ | ⟨a1, a2⟩ <;> rcases cap_key hm.1 with ⟨b1, b2⟩ | ⟨b1, b2⟩ <;> rw [a2, b2]
    · by_cases hc : key single m < key single x
      · rw [if_pos (Or.inr hc), a2]
      · rw [if_neg (show ¬ (k + 1 = 0 ∨ key single m < key single x) by omega), b2]
    · rw [if_neg (by rw [key_one]; omega), if_neg (by omega), b2]
    · rw [if_pos (show k + 1 = 0 ∨ key single m < key single x by omega), a2, key_one]
      by_cases hc : key single m < 1065353216
      · rw [if_pos (.inr hc)]
      · rw [if_neg (by omega)]
        exact one_word hm.2 (by omega)
    · rw [if_neg (by omega)]
      split
      · rw [a2]
      · rw [b2]
theorem least_cap {f : Nat → Nat} {n : Nat} (h : ∀ k, k < n → wordN (f k)) : ∀ k, k < n → leastI (fun i => capF (f i)) (k + 1) = capF (leastI f (k + 1))
  | 0, hk => rfl
  | k + 1, hk => by
    have ih := least_cap h k (by omega)
    have hm := leastI_word h k (by omega)
    have hx := h (k + 1) hk
    show (if k + 1 = 0 ∨ FloatKind.f32.format.order (capF (f (k + 1))) (leastI (fun i => capF (f i)) (k + 1)) ≠ some .gt then capF (f (k + 1)) else leastI (fun i => capF (f i)) (k + 1)) = capF (if k + 1 = 0 ∨ FloatKind.f32.format.order (f (k + 1)) (leastI f (k + 1)) ≠ some .gt then f (k + 1) else leastI f (k + 1))
    rw [ih]
    generalize leastI f (k + 1) = m at *
    generalize f (k + 1) = x at *
    have g1 := gt_key' hx.1 hm.1
    have g2 := gt_key' (cap_word hx).1 (cap_word hm).1
    have z : ¬ (k + 1 = 0) := by omega
    simp only [ne_eq, g1, g2]
    rcases cap_key hx.1 with ⟨a1, a2⟩ | ⟨a1, a2⟩ <;> rcases cap_key hm.1 with ⟨b1, b2⟩ | ⟨b1, b2⟩ <;> rw [a2, b2]
    · by_cases hc : key single m < key single x
      · rw [if_neg (show ¬ (k + 1 = 0 ∨ ¬ key single m < key single x) by omega), b2]
      · rw [if_pos (Or.inr hc), a2]
    · rw [if_pos (by rw [key_one]; omega), if_pos (by omega), a2]
    · rw [if_neg (show ¬ (k + 1 = 0 ∨ ¬ key single m < key single x) by omega), b2, key_one]
      by_cases hc : key single m < 1065353216
      · rw [if_neg (by omega)]
      · rw [if_pos (.inr hc)]
        exact (one_word hm.2 (by omega)).symm
    · rw [if_pos (.inr (by omega))]
      split
      · rw [a2]
      · rw [b2]
end Go.Proofs.Ytmpnfjajlmafgaa
