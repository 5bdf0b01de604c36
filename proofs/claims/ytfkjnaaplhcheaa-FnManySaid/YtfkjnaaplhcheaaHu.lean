/-
  Shares of 64ths: their multiples are exact; the numbers of PlainMany, HolmMany, StepMany stay in order.
  spec.StepMany.
-/
import Derived.Test.YtfkjnaaplhcheaaNo
import Derived.Test.YtfkjnaaplhcheaaQr
import Derived.Test.YtfkjnaaplhcheaaHt
import Derived.Test.YtfkjnaaplhcheaaNy
namespace Go.Proofs.Ytfkjnaaplhcheaa
open Go Go.RowKit Go.Sort Ieee

theorem gt_pw {x y : Nat} (hx : x < 2139095040) (hy : y < 2139095040) : FloatKind.f32.format.order x y = some .gt ↔ y < x := by
  rw [gt_key' (pw_parts hx).2.1 (pw_parts hy).2.1, (pw_parts hx).2.2, (pw_parts hy).2.2]
  omega
theorem lt_pw {x y : Nat} (hx : x < 2139095040) (hy : y < 2139095040) : FloatKind.f32.format.order x y = some .lt ↔ x < y := by
  rw [lt_key' (pw_parts hx).2.1 (pw_parts hy).2.1, (pw_parts hx).2.2, (pw_parts hy).2.2]
  omega
theorem cap_min {x : Nat} (h : x < 2139095040) : capF x = min x 1065353216 := by
  obtain ⟨-, h2, h3⟩ := pw_parts h
  rcases cap_key h2 with ⟨a, b⟩ | ⟨a, b⟩ <;> rw [b] <;> omega
theorem n_mono {a : Nat} : ∀ d, a + d ≤ 640 → shN a ≤ shN (a + d)
  | 0, _ => Nat.le_refl _
  | d + 1, h => Nat.le_trans (n_mono d (by omega)) (Nat.le_of_lt (n_up (a + d) (by omega)).1)
theorem n_le {a b : Nat} (h : a ≤ b) (hb : b ≤ 640) : shN a ≤ shN b := by
  have := n_mono (a := a) (b - a) (by omega)
  rwa [show a + (b - a) = b by omega] at this
theorem n_lt {a b : Nat} (h : a < b) (hb : b ≤ 640) : shN a < shN b := Nat.lt_of_lt_of_le (n_up a (by omega)).1 (n_le h hb)
theorem n_lt_iff {a b : Nat} (ha : a ≤ 640) (hb : b ≤ 640) : shN a < shN b ↔ a < b := by
  constructor
  · intro h
    rcases Nat.lt_or_ge a b with h1 | h1
    · exact h1
    · have := n_le h1 ha
      omega
  · exact fun h => n_lt h hb
theorem n_pw {a : Nat} (h : a ≤ 640) : shN a < 2139095040 := by
  cases a with
  | zero => rw [n_zero.1]; decide
  | succ a => exact (n_up a (by omega)).2
theorem g_pw {a m : Nat} (h1 : 1 ≤ m) (h2 : m < 11) (h : a ≤ 640) : gN a m < 2139095040 := Nat.lt_of_le_of_lt (g_brk h1 h2 h).2.1 (n_pw (ceil_le h1 h))
theorem g_one (j : Nat) (hj : j < 65) : gN j 1 = shN j := by
  have h := g_brk (j := j) (Nat.le_refl 1) (by omega) (by omega)
  rw [Nat.div_one, Nat.div_one] at h
  exact Nat.le_antisymm h.2.1 h.1
theorem g_up_to {j m b : Nat} (h1 : 1 ≤ m) (h2 : m < 11) (hj : j ≤ 640) (h : j ≤ b * m) (hb : b ≤ 640) : gN j m ≤ shN b := by
  refine Nat.le_trans (g_brk h1 h2 hj).2.1 (n_le ?_ hb)
  have h3 : (j + (m - 1)) / m < b + 1 := by
    refine (Nat.div_lt_iff_lt_mul (by omega)).2 ?_
    rw [Nat.add_mul]
    omega
  omega
theorem g_from {j m b : Nat} (h1 : 1 ≤ m) (h2 : m < 11) (hj : j ≤ 640) (h : b * m ≤ j) : shN b ≤ gN j m := by
  have h4 := Nat.div_le_self j m
  exact Nat.le_trans (n_le ((Nat.le_div_iff_mul_le (by omega)).2 h) (by omega)) (g_brk h1 h2 hj).1
theorem g_between (k : Nat) (hk : k < 65) (n : Nat) (hn : n < 11) (p : Nat) (hp : p < n) : gN (k * n) (p + 1) ≤ shN (k * (n - p)) ∧ shN k ≤ gN (k * n) (p + 1) := by
  have h1 : k * n ≤ 640 := Nat.le_trans (Nat.mul_le_mul (show k ≤ 64 by omega) (show n ≤ 10 by omega)) (by decide)
  have h2 : k * (n - p) ≤ 640 := Nat.le_trans (Nat.mul_le_mul_left k (show n - p ≤ n by omega)) h1
  refine ⟨g_up_to (by omega) (by omega) h1 ?_ h2, g_from (by omega) (by omega) h1 (Nat.mul_le_mul_left k (by omega))⟩
  rw [Nat.mul_assoc]
  refine Nat.mul_le_mul_left k ?_
  obtain ⟨q, rfl⟩ : ∃ q, n = p + q + 1 := ⟨n - p - 1, by omega⟩
  rw [show p + q + 1 - p = q + 1 by omega, Nat.mul_add, Nat.add_mul]
  have := Nat.zero_le (q * p)
  omega

theorem most_is {f : Nat → Nat} : ∀ k, ∃ j, j ≤ k ∧ mostI f (k + 1) = f j
  | 0 => ⟨0, Nat.le_refl _, by show (if 0 = 0 ∨ _ then _ else _) = _; rw [if_pos (.inl rfl)]⟩
  | k + 1 => by
    obtain ⟨j, h1, h2⟩ := most_is (f := f) k
    show ∃ j, j ≤ k + 1 ∧ (if k + 1 = 0 ∨ FloatKind.f32.format.order (f (k + 1)) (mostI f (k + 1)) = some .gt then f (k + 1) else mostI f (k + 1)) = f j
    by_cases hc : k + 1 = 0 ∨ FloatKind.f32.format.order (f (k + 1)) (mostI f (k + 1)) = some .gt
    · rw [if_pos hc]
      exact ⟨k + 1, Nat.le_refl _, rfl⟩
    · rw [if_neg hc]
      exact ⟨j, by omega, h2⟩
theorem most_ge {f : Nat → Nat} {n : Nat} (hf : ∀ k, k < n → f k < 2139095040) : ∀ k, k < n → ∀ j, j ≤ k → f j ≤ mostI f (k + 1)
  | 0, h, j, hj => by
    obtain rfl : j = 0 := by omega
    show f 0 ≤ (if 0 = 0 ∨ _ then _ else _)
    rw [if_pos (.inl rfl)]
    exact Nat.le_refl _
  | k + 1, h, j, hj => by
    have ih := most_ge hf k (by omega)
    obtain ⟨q, hq, he⟩ := most_is (f := f) k
    have hw : mostI f (k + 1) < 2139095040 := by rw [he]; exact hf q (by omega)
    have hg := gt_pw (hf (k + 1) h) hw
    show f j ≤ (if k + 1 = 0 ∨ FloatKind.f32.format.order (f (k + 1)) (mostI f (k + 1)) = some .gt then f (k + 1) else mostI f (k + 1))
    by_cases hc : k + 1 = 0 ∨ FloatKind.f32.format.order (f (k + 1)) (mostI f (k + 1)) = some .gt
    · rw [if_pos hc]
      have h3 := hg.1 (hc.resolve_left (by omega))
      by_cases hj1 : j = k + 1
      · rw [hj1]; exact Nat.le_refl _
      · have := ih j (by omega)
        omega
    · rw [if_neg hc]
      have h3 : ¬ mostI f (k + 1) < f (k + 1) := fun h4 => hc (.inr (hg.2 h4))
      by_cases hj1 : j = k + 1
      · rw [hj1]; omega
      · exact ih j (by omega)
theorem least_is {f : Nat → Nat} : ∀ k, ∃ j, j ≤ k ∧ leastI f (k + 1) = f j
  | 0 => ⟨0, Nat.le_refl _, by show (if 0 = 0 ∨ _ then _ else _) = _; rw [if_pos (.inl rfl)]⟩
  | k + 1 => by
    obtain ⟨j, h1, h2⟩ := least_is (f := f) k
    show ∃ j, j ≤ k + 1 ∧ (if k + 1 = 0 ∨ FloatKind.f32.format.order (f (k + 1)) (leastI f (k + 1)) ≠ some .gt then f (k + 1) else leastI f (k + 1)) = f j
    by_cases hc : k + 1 = 0 ∨ FloatKind.f32.format.order (f (k + 1)) (leastI f (k + 1)) ≠ some .gt
    · rw [if_pos hc]
      exact ⟨k + 1, Nat.le_refl _, rfl⟩
    · rw [if_neg hc]
      exact ⟨j, by omega, h2⟩
theorem least_le {f : Nat → Nat} {n : Nat} (hf : ∀ k, k < n → f k < 2139095040) : ∀ k, k < n → ∀ j, j ≤ k → leastI f (k + 1) ≤ f j
  | 0, h, j, hj => by
    obtain rfl : j = 0 := by omega
    show (if 0 = 0 ∨ _ then _ else _) ≤ f 0
    rw [if_pos (.inl rfl)]
    exact Nat.le_refl _
  | k + 1, h, j, hj => by
    have ih := least_le hf k (by omega)
    obtain ⟨q, hq, he⟩ := least_is (f := f) k
    have hw : leastI f (k + 1) < 2139095040 := by rw [he]; exact hf q (by omega)
    have hg := gt_pw (hf (k + 1) h) hw
    show (if k + 1 = 0 ∨ FloatKind.f32.format.order (f (k + 1)) (leastI f (k + 1)) ≠ some .gt then f (k + 1) else leastI f (k + 1)) ≤ f j
    by_cases hc : k + 1 = 0 ∨ FloatKind.f32.format.order (f (k + 1)) (leastI f (k + 1)) ≠ some .gt
    · rw [if_pos hc]
      have h3 : ¬ leastI f (k + 1) < f (k + 1) := fun h4 => (hc.resolve_left (by omega)) (hg.2 h4)
      by_cases hj1 : j = k + 1
      · rw [hj1]; exact Nat.le_refl _
      · have := ih j (by omega)
        omega
    · rw [if_neg hc]
      have h3 : leastI f (k + 1) < f (k + 1) := hg.1 (Decidable.byContradiction fun h4 => hc (.inr h4))
      by_cases hj1 : j = k + 1
      · rw [hj1]; omega
      · exact ih j (by omega)
theorem most_up {f : Nat → Nat} {n : Nat} (hf : ∀ k, k < n → f k < 2139095040) {a b : Nat} (h : a ≤ b) (hb : b < n) : mostI f (a + 1) ≤ mostI f (b + 1) := by
  obtain ⟨q, hq, he⟩ := most_is (f := f) a
  rw [he]
  exact most_ge hf b hb q (by omega)
theorem least_down {f : Nat → Nat} {n : Nat} (hf : ∀ k, k < n → f k < 2139095040) {a b : Nat} (h : a ≤ b) (hb : b < n) : leastI f (b + 1) ≤ leastI f (a + 1) := by
  obtain ⟨q, hq, he⟩ := least_is (f := f) a
  rw [he]
  exact least_le hf b hb q (by omega)

theorem outTo_at {g : Nat → Nat} {d : Array Nat} {n : Nat} (hd : ∀ p q, p < n → q < n → d[p]! = d[q]! → p = q) : ∀ k, k ≤ n → ∀ j, j < k → outTo g d k d[j]! = g (j + 1)
  | 0, _, j, hj => absurd hj (by omega)
  | k + 1, hk, j, hj => by
    show (if d[j]! = d[k]! then g (k + 1) else outTo g d k d[j]!) = _
    by_cases h : d[j]! = d[k]!
    · rw [if_pos h, hd j k (by omega) (by omega) h]
    · rw [if_neg h]
      exact outTo_at hd k (by omega) j (by
        have : j ≠ k := fun e => h (by rw [e])
        omega)
theorem outF_at {g D : Nat → Nat} {n : Nat} (hd : ∀ p q, p < n → q < n → D p = D q → p = q) : ∀ k, k ≤ n → ∀ j, j < k → outF g D k (D j) = g (j + 1)
  | 0, _, j, hj => absurd hj (by omega)
  | k + 1, hk, j, hj => by
    show (if D j = D k then g (k + 1) else outF g D k (D j)) = _
    by_cases h : D j = D k
    · rw [if_pos h, hd j k (by omega) (by omega) h]
    · rw [if_neg h]
      exact outF_at hd k (by omega) j (by
        have : j ≠ k := fun e => h (by rw [e])
        omega)
theorem OrdTo.inj {K : Nat → Nat} {n : Nat} {d : Array Nat} (h : OrdTo K n d) : ∀ p q, p < n → q < n → d[p]! = d[q]! → p = q := fun p q hp hq e => by
  rcases Nat.lt_trichotomy p q with h1 | h1 | h1
  · have := h.s p q (Nat.zero_le _) h1 hq
    rw [e] at this
    omega
  · exact h1
  · have := h.s q p (Nat.zero_le _) h1 hp
    rw [e] at this
    omega
theorem OrdTo.pos {K : Nat → Nat} {n : Nat} {d : Array Nat} (h : OrdTo K n d) {i : Nat} (hi : i < n) : ∃ p, p < n ∧ d[p]! = i := by
  obtain ⟨q, -, h2, h3⟩ := (h.m.2.1 i).1 ⟨i, Nat.zero_le _, hi, range_at hi⟩
  exact ⟨q, h2, h3⟩
/-- the shares, read -/
theorem sh_get {ks : List Nat} {i : Nat} (h : i < ks.length) : (ks.map shN).getD i 0 = shN (ks.getD i 0) := by
  rw [List.getD_eq_getElem?_getD, List.getD_eq_getElem?_getD, List.getElem?_eq_getElem (by simpa using h), List.getElem?_eq_getElem h]
  simp
theorem ks_lt {ks : List Nat} (hk : ∀ k ∈ ks, k < 65) {i : Nat} (h : i < ks.length) : ks.getD i 0 < 65 := by
  rw [List.getD_eq_getElem?_getD, List.getElem?_eq_getElem h]
  exact hk _ (List.getElem_mem h)
theorem k10 {k n m : Nat} (hk : k < 65) (hm : m ≤ n) (hn : n ≤ 10) : k * m ≤ 640 := Nat.le_trans (Nat.mul_le_mul (show k ≤ 64 by omega) (show m ≤ 10 by omega)) (by decide)
section
variable {ks : List Nat} (hk : ∀ k ∈ ks, k < 65) (h1 : 1 ≤ ks.length) (h10 : ks.length ≤ 10)
include hk h10
theorem plain_at {i : Nat} (hi : i < ks.length) : (plainL (ks.map shN)).getD i 0 = min (shN (ks.getD i 0 * ks.length)) 1065353216 := by
  have hk' := ks_lt hk hi
  rw [← cap_min (n_pw (k10 hk' (Nat.le_refl _) h10)), ← n_mul _ hk' ks.length (by omega)]
  unfold plainL
  rw [List.getD_eq_getElem?_getD, List.getElem?_eq_getElem (by simpa using hi)]
  simp [List.getD_eq_getElem?_getD, List.getElem?_eq_getElem hi]
theorem holmX_at {d : Array Nat} (h : OrdTo (keyI (ks.map shN)) ks.length d) {p : Nat} (hp : p < ks.length) : holmX (ks.map shN) d p = shN (ks.getD d[p]! 0 * (ks.length - p)) := by
  have hd := h.lt hp
  unfold holmX
  rw [sh_get hd, List.length_map, n_mul _ (ks_lt hk hd) _ (by omega)]
theorem holmX_pw {d : Array Nat} (h : OrdTo (keyI (ks.map shN)) ks.length d) : ∀ p, p < ks.length → holmX (ks.map shN) d p < 2139095040 := fun p hp => by
  rw [holmX_at hk h10 h hp]
  exact n_pw (k10 (ks_lt hk (h.lt hp)) (by omega) h10)
theorem stepX_at {d : Array Nat} (h : OrdTo (keyI (ks.map shN)) ks.length d) {p : Nat} (hp : p < ks.length) : stepX (ks.map shN) d (ks.length - 1 - p) = gN (ks.getD d[p]! 0 * ks.length) (p + 1) := by
  have hd := h.lt hp
  unfold stepX stepV backD
  rw [List.length_map, show ks.length - 1 - (ks.length - 1 - p) = p by omega, show ks.length - (ks.length - 1 - p) = p + 1 by omega, sh_get hd, n_mul _ (ks_lt hk hd) _ (by omega)]
  rfl
theorem stepX_pw {d : Array Nat} (h : OrdTo (keyI (ks.map shN)) ks.length d) : ∀ p, p < ks.length → stepX (ks.map shN) d p < 2139095040 := fun p hp => by
  have := stepX_at hk h10 h (p := ks.length - 1 - p) (by omega)
  rw [show ks.length - 1 - (ks.length - 1 - p) = p by omega] at this
  rw [this]
  exact g_pw (by omega) (by omega) (k10 (ks_lt hk (h.lt (by omega))) (Nat.le_refl _) h10)
omit hk h10 in
theorem getD_range_map {f : Nat → Nat} {n i : Nat} (hi : i < n) : ((List.range n).map f).getD i 0 = f i := by
  rw [List.getD_eq_getElem?_getD, List.getElem?_eq_getElem (by simpa using hi)]
  simp
theorem holm_at {d : Array Nat} (h : OrdTo (keyI (ks.map shN)) ks.length d) {p : Nat} (hp : p < ks.length) : (holmL (ks.map shN) d).getD d[p]! 0 = min (mostI (holmX (ks.map shN) d) (p + 1)) 1065353216 := by
  unfold holmL outL
  rw [List.length_map, getD_range_map (h.lt hp), outTo_at h.inj _ (Nat.le_refl _) p hp]
  unfold mostG
  refine cap_min ?_
  obtain ⟨q, hq, he⟩ := most_is (f := holmX (ks.map shN) d) p
  rw [he]
  exact holmX_pw hk h10 h q (by omega)
theorem step_at {d : Array Nat} (h : OrdTo (keyI (ks.map shN)) ks.length d) {p : Nat} (hp : p < ks.length) : (stepL (ks.map shN) d).getD d[p]! 0 = min (leastI (stepX (ks.map shN) d) (ks.length - 1 - p + 1)) 1065353216 := by
  unfold stepL outFL
  rw [List.length_map, getD_range_map (h.lt hp)]
  have e : d[p]! = backD d ks.length (ks.length - 1 - p) := by
    unfold backD
    rw [show ks.length - 1 - (ks.length - 1 - p) = p by omega]
  rw [e, outF_at (n := ks.length) (fun a b ha hb hab => by
    have := h.inj (ks.length - 1 - a) (ks.length - 1 - b) (by omega) (by omega) hab
    omega) _ (Nat.le_refl _) _ (by omega)]
  unfold leastG
  refine cap_min ?_
  obtain ⟨q, hq, he⟩ := least_is (f := stepX (ks.map shN) d) (ks.length - 1 - p)
  rw [he]
  exact stepX_pw hk h10 h q (by omega)
omit h10 in
theorem key_sh {i : Nat} (hi : i < ks.length) : keyI (ks.map shN) i = shN (ks.getD i 0) * 64 + i := by
  unfold keyI
  rw [sh_get hi, (pw_parts (n_pw (a := ks.getD i 0) (by have := ks_lt hk hi; omega))).2.2]
  rfl
theorem ks_up {d : Array Nat} (h : OrdTo (keyI (ks.map shN)) ks.length d) {p q : Nat} (hpq : p ≤ q) (hq : q < ks.length) : ks.getD d[p]! 0 ≤ ks.getD d[q]! 0 := by
  by_cases e : p = q
  · rw [e]; exact Nat.le_refl _
  · have h3 := h.s p q (Nat.zero_le _) (by omega) hq
    rw [key_sh hk (h.lt (by omega)), key_sh hk (h.lt hq)] at h3
    have h4 := h.lt (p := p) (by omega)
    have h5 := h.lt hq
    rcases Nat.lt_or_ge (ks.getD d[q]! 0) (ks.getD d[p]! 0) with h6 | h6
    · exfalso
      have h7 := n_lt h6 (by have := ks_lt hk h4; omega)
      omega
    · exact h6
theorem pos_lt {d : Array Nat} (h : OrdTo (keyI (ks.map shN)) ks.length d) {p q : Nat} (hp : p < ks.length) (_hq : q < ks.length) (hlt : ks.getD d[p]! 0 < ks.getD d[q]! 0) : p < q := by
  rcases Nat.lt_or_ge p q with h3 | h3
  · exact h3
  · have := ks_up hk h10 h h3 hp
    omega
/-- plain, holm, step: a share's own three numbers -/
theorem three_at {d d' : Array Nat} (h : OrdTo (keyI (ks.map shN)) ks.length d) (h' : OrdTo (keyI (ks.map shN)) ks.length d') {i : Nat} (hi : i < ks.length) :
    (plainL (ks.map shN)).getD i 0 ≤ 1065353216 ∧ (holmL (ks.map shN) d).getD i 0 ≤ (plainL (ks.map shN)).getD i 0 ∧ (stepL (ks.map shN) d').getD i 0 ≤ (holmL (ks.map shN) d).getD i 0 ∧ shN (ks.getD i 0) ≤ (stepL (ks.map shN) d').getD i 0
    ∧ (∃ a, a ≤ 64 ∧ (holmL (ks.map shN) d).getD i 0 = shN a) ∧ ∃ j m, j ≤ 640 ∧ 1 ≤ m ∧ m < 11 ∧ (stepL (ks.map shN) d').getD i 0 = gN j m := by
  obtain ⟨p, hp, rfl⟩ := h.pos hi
  have hkp := ks_lt hk hi
  have e : d[p]! = d'[p]! := h.same h' p hp
  have hH := holm_at hk h10 h hp
  have hS := step_at hk h10 h' hp
  rw [← e] at hS
  have hP := plain_at hk h10 hi
  obtain ⟨q, hq, hm⟩ := most_is (f := holmX (ks.map shN) d) p
  have hmp := most_ge (holmX_pw hk h10 h) p hp p (Nat.le_refl _)
  rw [hm, holmX_at hk h10 h (show q < ks.length by omega)] at hH
  rw [hm, holmX_at hk h10 h (show q < ks.length by omega), holmX_at hk h10 h hp] at hmp
  have hkq := ks_up hk h10 h hq hp
  have hkq5 := ks_lt hk (h.lt (show q < ks.length by omega))
  have hX : shN (ks.getD d[q]! 0 * (ks.length - q)) ≤ shN (ks.getD d[p]! 0 * ks.length) := n_le (Nat.mul_le_mul hkq (by omega)) (k10 hkp (Nat.le_refl _) h10)
  obtain ⟨r, hr, hl⟩ := least_is (f := stepX (ks.map shN) d') (ks.length - 1 - p)
  have hlp := least_le (stepX_pw hk h10 h') (ks.length - 1 - p) (by omega) (ks.length - 1 - p) (Nat.le_refl _)
  have hrr := stepX_at hk h10 h' (p := ks.length - 1 - r) (by omega)
  rw [show ks.length - 1 - (ks.length - 1 - r) = r by omega] at hrr
  rw [hl, hrr] at hS hlp
  rw [stepX_at hk h10 h' hp, ← e] at hlp
  have hkr := ks_up hk h10 h' (show p ≤ ks.length - 1 - r by omega) (by omega)
  rw [← e] at hkr
  have hr5 := ks_lt hk (h'.lt (show ks.length - 1 - r < ks.length by omega))
  have b1 := g_between _ hkp ks.length (by omega) p hp
  have b2 := g_between _ hr5 ks.length (by omega) (ks.length - 1 - r) (by omega)
  have b3 : shN (ks.getD d[p]! 0) ≤ shN (ks.getD d'[ks.length - 1 - r]! 0) := n_le hkr (by omega)
  have b4 : shN (ks.getD d[p]! 0) ≤ shN 64 := n_le (by omega) (by omega)
  rw [n_zero.2] at b4
  refine ⟨by rw [hP]; omega, by rw [hH, hP]; omega, by rw [hS, hH]; omega, by rw [hS]; omega, ?_, ?_⟩
  · rw [hH]
    rcases Nat.lt_or_ge 64 (ks.getD d[q]! 0 * (ks.length - q)) with c | c
    · refine ⟨64, Nat.le_refl _, ?_⟩
      have := n_lt c (k10 hkq5 (show ks.length - q ≤ ks.length by omega) h10)
      rw [n_zero.2] at this ⊢
      omega
    · refine ⟨_, c, ?_⟩
      have := n_le c (by omega)
      rw [n_zero.2] at this
      omega
  · rw [hS]
    rcases Nat.lt_or_ge 1065353216 (gN (ks.getD d'[ks.length - 1 - r]! 0 * ks.length) (ks.length - 1 - r + 1)) with c | c
    · exact ⟨64, 1, by omega, by omega, by omega, by rw [g_one 64 (by omega), n_zero.2]; omega⟩
    · exact ⟨ks.getD d'[ks.length - 1 - r]! 0 * ks.length, ks.length - 1 - r + 1, k10 hr5 (Nat.le_refl _) h10, by omega, by omega, by omega⟩
/-- a share that is less: its numbers are not greater -/
theorem grow_at {d d' : Array Nat} (h : OrdTo (keyI (ks.map shN)) ks.length d) (h' : OrdTo (keyI (ks.map shN)) ks.length d') {i k : Nat} (hi : i < ks.length) (hkl : k < ks.length) (hlt : ks.getD i 0 < ks.getD k 0) :
    (holmL (ks.map shN) d).getD i 0 ≤ (holmL (ks.map shN) d).getD k 0 ∧ (stepL (ks.map shN) d').getD i 0 ≤ (stepL (ks.map shN) d').getD k 0 := by
  constructor
  · obtain ⟨p, hp, rfl⟩ := h.pos hi
    obtain ⟨q, hq, rfl⟩ := h.pos hkl
    have hpq := pos_lt hk h10 h hp hq hlt
    rw [holm_at hk h10 h hp, holm_at hk h10 h hq]
    have := most_up (holmX_pw hk h10 h) (show p ≤ q by omega) hq
    omega
  · obtain ⟨p, hp, rfl⟩ := h'.pos hi
    obtain ⟨q, hq, rfl⟩ := h'.pos hkl
    have hpq := pos_lt hk h10 h' hp hq hlt
    rw [step_at hk h10 h' hp, step_at hk h10 h' hq]
    have := least_down (stepX_pw hk h10 h') (show ks.length - 1 - q ≤ ks.length - 1 - p by omega) (by omega)
    omega
end
end Go.Proofs.Ytfkjnaaplhcheaa
namespace Go.Proofs.Ytfkjnaaplhcheaa
open Go Go.RowKit Go.Sort Ieee
attribute [local go_sem] run_store_float

end Go.Proofs.Ytfkjnaaplhcheaa
