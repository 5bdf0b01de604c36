/-
  How much a rounded sum and a rounded product may be greater or less than what is rounded. No program.
  A row grows by no more than an eighth at a step of a valid chain. No program.
  A row grows by no more than an eighth at a step of a valid chain; 512 steps stay finite. No program.
-/
import Derived.Test.YtlhepgdheopgaaaRow
namespace Go.Proofs.Ytlhepgdheopgaaa
open Go Ieee

/-- how many least units a number has -/
def val (x : Nat) : Nat := mu single (rungOf single x)
theorem bin_lit : single.binade = 8388608 := by decide +kernel
theorem inf_lit : single.infRung = 2139095040 := by decide +kernel
theorem least_lit : single.leastPlace = -149 := by decide +kernel
theorem mu_step (r : Nat) : mu single (r + 1) * 1024 ≤ mu single r * 1025 + 1024 := by
  have hb : single.binade = 8388608 := bin_lit
  obtain ⟨e, k, he, hk, hr⟩ : ∃ e k, (e = 0 ∨ single.binade ≤ k) ∧ k < 2 * single.binade ∧ r = e * single.binade + k := by
    rcases Nat.lt_or_ge r (2 * single.binade) with h | h
    · exact ⟨0, r, .inl rfl, h, by rw [Nat.zero_mul, Nat.zero_add]⟩
    · have hpos : 0 < single.binade := by omega
      have hd := Nat.div_add_mod r single.binade
      have hm := Nat.mod_lt r hpos
      have hq : 2 ≤ r / single.binade := (Nat.le_div_iff_mul_le hpos).2 h
      refine ⟨r / single.binade - 1, single.binade + r % single.binade, .inr (by omega), by omega, ?_⟩
      obtain ⟨q, hq2⟩ : ∃ q, r / single.binade = q + 1 := ⟨r / single.binade - 1, by omega⟩
      rw [hq2] at hd ⊢
      rw [Nat.mul_add, Nat.mul_one, Nat.mul_comm] at hd
      rw [Nat.add_sub_cancel]
      omega
  have h1 : mu single r = k * 2 ^ e := by rw [hr]; exact mu_stair single e k he (by omega)
  have h2 : mu single (r + 1) = (k + 1) * 2 ^ e := by
    rw [hr, Nat.add_assoc]
    exact mu_stair single e (k + 1) (by omega) (by omega)
  rw [h1, h2, Nat.add_mul, Nat.one_mul]
  rcases he with rfl | he
  · omega
  · have h3 : 8388608 * 2 ^ e ≤ k * 2 ^ e := Nat.mul_le_mul_right _ (by omega)
    have h4 : 1024 * 2 ^ e ≤ k * 2 ^ e := Nat.le_trans (Nat.mul_le_mul_right _ (by decide)) h3
    clear h3
    generalize 2 ^ e = p at *
    generalize k * p = kp at *
    omega
theorem rung_up (mag : Nat) (place B : Int) (h1 : B ≤ place) (h2 : B ≤ single.leastPlace) : mu single (rungTo single mag place) * 1024 * 2 ^ (single.leastPlace - B).toNat ≤ mag * 2 ^ (place - B).toNat * 1025 + 1024 * 2 ^ (single.leastPlace - B).toNat := by
  cases hr : rungTo single mag place with
  | zero => rw [mu_zero]; omega
  | succ s =>
    have hlt : mu single s * 2 ^ (single.leastPlace - B).toNat < mag * 2 ^ (place - B).toNat := by
      rcases Nat.lt_or_ge (mu single s * 2 ^ (single.leastPlace - B).toNat) (mag * 2 ^ (place - B).toNat) with h | h
      · exact h
      · have := rungTo_mono single mag place B s h1 h2 h
        omega
    have hs := Nat.mul_le_mul_right (2 ^ (single.leastPlace - B).toNat) (mu_step s)
    rw [Nat.add_mul, Nat.mul_right_comm (mu single s)] at hs
    generalize 2 ^ (single.leastPlace - B).toNat = L at *
    generalize mag * 2 ^ (place - B).toNat = M at *
    generalize mu single s * L = X at *
    generalize mu single (s + 1) * 1024 * L = Y at *
    exact Nat.le_trans hs (Nat.add_le_add_right (Nat.mul_le_mul_right 1025 (Nat.le_of_lt hlt)) _)
theorem rung_down (mag : Nat) (place B : Int) (h1 : B ≤ place) (h2 : B ≤ single.leastPlace) (hf : rungTo single mag place < single.infRung) : mag * 2 ^ (place - B).toNat * 1024 ≤ mu single (rungTo single mag place) * 2 ^ (single.leastPlace - B).toNat * 1025 + 1024 * 2 ^ (single.leastPlace - B).toNat := by
  generalize hr : rungTo single mag place = r at *
  have hlt : mag * 2 ^ (place - B).toNat < mu single (r + 1) * 2 ^ (single.leastPlace - B).toNat := by
    rcases Nat.lt_or_ge (mag * 2 ^ (place - B).toNat) (mu single (r + 1) * 2 ^ (single.leastPlace - B).toNat) with h | h
    · exact h
    · have := rungTo_low single mag place B (r + 1) h1 h2 (by omega) h
      omega
  have hs := Nat.mul_le_mul_right (2 ^ (single.leastPlace - B).toNat) (mu_step r)
  rw [Nat.add_mul, Nat.mul_right_comm (mu single r), Nat.mul_right_comm (mu single (r + 1))] at hs
  generalize 2 ^ (single.leastPlace - B).toNat = L at *
  generalize mag * 2 ^ (place - B).toNat = M at *
  generalize mu single r * L = X at *
  generalize mu single (r + 1) * L = Y at *
  exact Nat.le_trans (Nat.mul_le_mul_right 1024 (Nat.le_of_lt hlt)) hs
theorem key_val {x r : Nat} (h : key single x = (r : Int)) : val x = mu single r := by
  unfold val
  unfold key at h
  split at h
  · have : rungOf single x = r := by omega
    rw [this]
  · have : rungOf single x = r := by omega
    rw [this]
theorem val_fin {x : Nat} (hk : val x < mu single single.infRung) : isFin single x = true := by
  rw [fin_iff single (by decide)]
  rcases Nat.lt_or_ge (rungOf single x) single.infRung with h | h
  · exact h
  · have := (mu_le_iff single _ _).2 h
    unfold val at hk
    omega
theorem fin_rung {x : Nat} (h : isFin single x = true) : rungOf single x < single.infRung := (fin_iff single (by decide) x).1 h
/-- what is rounded by a sum -/
theorem add_mag {x y : Nat} (hx : isFin single x = true) (hkx : 0 ≤ key single x) (hy : isFin single y = true) (hky : 0 ≤ key single y) :
    ∃ mag place, single.leastPlace ≤ place ∧ mag * 2 ^ (place - single.leastPlace).toNat = val x + val y ∧ key single (fadd x y) = rungTo single mag place := by
  have he : 1 ≤ single.exponentBits := by decide
  obtain ⟨t, n, j, hq, ht, hlj, hn, hk2⟩ := read_nn he hy hky
  obtain ⟨s, m, i, hr, hs, hli, hm, hk⟩ := read_nn he hx hkx
  have hadd : single.add x y = some (single.nearest (if signed s m (i - min i j).toNat + signed t n (j - min i j).toNat = 0 then s && t else decide (signed s m (i - min i j).toNat + signed t n (j - min i j).toNat < 0)) (signed s m (i - min i j).toNat + signed t n (j - min i j).toNat).natAbs (min i j)) := by
    unfold Format.add
    rw [hr, hq]
    rfl
  have hv := congrArg (fun o => Option.getD o 0) hadd
  change fadd x y = _ at hv
  simp only [Option.getD_some] at hv
  rw [signed_nn hs, signed_nn ht] at hv
  have e1 : (i - single.leastPlace).toNat = (i - min i j).toNat + (min i j - single.leastPlace).toNat := by omega
  have e2 : (j - single.leastPlace).toNat = (j - min i j).toNat + (min i j - single.leastPlace).toNat := by omega
  rw [e1, mul_pow_add] at hm
  rw [e2, mul_pow_add] at hn
  generalize m * 2 ^ (i - min i j).toNat = a at *
  generalize n * 2 ^ (j - min i j).toNat = b at *
  have hmag : ((a : Int) + (b : Int)).natAbs = a + b := by omega
  rw [hmag] at hv
  have hkey := key_nearest single (if ((a : Int) + (b : Int)) = 0 then s && t else decide (((a : Int) + (b : Int)) < 0)) (a + b) (min i j)
  rw [← hv] at hkey
  have hsgn : (if ((a : Int) + (b : Int)) = 0 then s && t else decide (((a : Int) + (b : Int)) < 0)) = false ∨ rungTo single (a + b) (min i j) = 0 := by
    by_cases h0 : ((a : Int) + (b : Int)) = 0
    · right
      have : a + b = 0 := by omega
      rw [this]
      rfl
    · left
      rw [if_neg h0]
      exact decide_eq_false (by omega)
  refine ⟨a + b, min i j, by omega, by rw [Nat.add_mul, hm, hn]; rfl, ?_⟩
  rw [hkey]
  rcases hsgn with h | h
  · rw [h]; rfl
  · rw [h]; simp
theorem add_up {x y : Nat} (hx : isFin single x = true) (hkx : 0 ≤ key single x) (hy : isFin single y = true) (hky : 0 ≤ key single y) : val (fadd x y) * 1024 ≤ (val x + val y) * 1025 + 1024 := by
  obtain ⟨mag, place, h1, h2, h3⟩ := add_mag hx hkx hy hky
  have h := rung_up mag place single.leastPlace h1 (Int.le_refl _)
  rw [Int.sub_self, Int.toNat_zero, Nat.pow_zero, Nat.mul_one, h2, ← key_val h3] at h
  clear h1 h2 h3 hx hkx hy hky
  generalize val (fadd x y) = V at *
  generalize val x + val y = A at *
  omega
theorem add_down {x y : Nat} (hx : isFin single x = true) (hkx : 0 ≤ key single x) (hy : isFin single y = true) (hky : 0 ≤ key single y) (hf : isFin single (fadd x y) = true) : (val x + val y) * 1024 ≤ val (fadd x y) * 1025 + 1024 := by
  obtain ⟨mag, place, h1, h2, h3⟩ := add_mag hx hkx hy hky
  have hr : rungTo single mag place < single.infRung := by
    have := fin_rung hf
    unfold key at h3
    split at h3 <;> omega
  have h := rung_down mag place single.leastPlace h1 (Int.le_refl _) hr
  rw [Int.sub_self, Int.toNat_zero, Nat.pow_zero, Nat.mul_one, h2, ← key_val h3] at h
  clear h1 h2 h3 hx hkx hy hky hf hr
  generalize val (fadd x y) = V at *
  generalize val x + val y = A at *
  omega
theorem mul_up {x y : Nat} (hx : isFin single x = true) (hkx : 0 ≤ key single x) (hy : isFin single y = true) (hky : 0 ≤ key single y) : val (fmul x y) * 1024 * 2 ^ 149 ≤ val x * val y * 1025 + 1024 * 2 ^ 149 := by
  have he : 1 ≤ single.exponentBits := by decide
  obtain ⟨s, m, i, hr, hs, hli, hm, hk⟩ := read_nn he hx hkx
  obtain ⟨t, n, j, hq, ht, hlj, hn, hk2⟩ := read_nn he hy hky
  have hmul : single.mul x y = some (single.nearest (s ^^ t) (m * n) (i + j)) := by
    unfold Format.mul
    rw [hr, hq]
    rfl
  have hv := congrArg (fun o => Option.getD o 0) hmul
  change fmul x y = _ at hv
  simp only [Option.getD_some] at hv
  have hkey := key_nearest single (s ^^ t) (m * n) (i + j)
  rw [← hv] at hkey
  have hsgn : (s ^^ t) = false ∨ rungTo single (m * n) (i + j) = 0 := by
    rcases hs with rfl | rfl
    · rcases ht with rfl | rfl
      · exact .inl rfl
      · right; rw [Nat.mul_zero]; rfl
    · right; rw [Nat.zero_mul]; rfl
  have hkey2 : key single (fmul x y) = rungTo single (m * n) (i + j) := by
    rw [hkey]
    rcases hsgn with h | h
    · rw [h]; rfl
    · rw [h]; simp
  have hlp := least_lit
  have h := rung_up (m * n) (i + j) (-298) (by omega) (by omega)
  have e1 : (i + j - -298).toNat = (i - single.leastPlace).toNat + (j - single.leastPlace).toNat := by omega
  have e2 : (single.leastPlace - -298).toNat = 149 := by omega
  rw [e1, e2, Nat.pow_add, Nat.mul_mul_mul_comm, hm, hn, ← key_val hkey2] at h
  show val (fmul x y) * 1024 * 2 ^ 149 ≤ mu single (rungOf single x) * mu single (rungOf single y) * 1025 + 1024 * 2 ^ 149
  generalize mu single (rungOf single x) * mu single (rungOf single y) = P at *
  generalize val (fmul x y) = V at *
  generalize 2 ^ 149 = E at *
  have h5 : V * 1024 * E = V * E * 1024 := Nat.mul_right_comm _ _ _
  have h6 : V * 1024 * E = V * E * 1024 := Nat.mul_right_comm _ _ _
  rw [h5] at h
  rw [h6]
  generalize V * E = W at *
  clear h5 h6 e1 e2 hlp hkey hkey2 hsgn hv hmul hm hn hk hk2 hs ht hli hlj hr hq hx hy hkx hky he
  omega
theorem val_mono {x y : Nat} (hx : 0 ≤ key single x) (h : key single x ≤ key single y) : val x ≤ val y := by
  unfold val
  refine (mu_le_iff single _ _).2 ?_
  have h1 : key single x = (rungOf single x : Int) ∨ rungOf single x = 0 := by
    unfold key at hx ⊢
    split <;> rename_i hn
    · rw [if_pos hn] at hx; omega
    · exact .inl rfl
  have h2 : key single y ≤ (rungOf single y : Int) := by
    unfold key
    split <;> omega
  omega
theorem val_zero : val 0 = 0 := by decide +kernel
theorem val_one : val 1065353216 = 2 ^ 149 := by decide +kernel
theorem val_inf : mu single single.infRung = 2 ^ 277 := by decide +kernel
end Go.Proofs.Ytlhepgdheopgaaa

namespace Go.Proofs.Ytlhepgdheopgaaa
open Go Ieee

/-- at most so many roundings above -/
def Up (k X Y : Nat) : Prop := X * 1024 ^ k ≤ 1025 ^ k * Y
theorem pw_le (k : Nat) : 1024 ^ k ≤ 1025 ^ k := Nat.pow_le_pow_left (by decide) k
theorem Up.refl (k X : Nat) : Up k X X := by
  unfold Up
  rw [Nat.mul_comm]
  exact Nat.mul_le_mul_right _ (pw_le k)
theorem Up.trans {k l X Y Z : Nat} (h : Up k X Y) (h' : Up l Y Z) : Up (k + l) X Z := by
  unfold Up at *
  rw [Nat.pow_add, Nat.pow_add, ← Nat.mul_assoc, Nat.mul_assoc (1025 ^ k)]
  refine Nat.le_trans (Nat.mul_le_mul_right _ h) ?_
  rw [Nat.mul_assoc]
  exact Nat.mul_le_mul_left _ h'
theorem Up.more {k l X Y : Nat} (h : Up k X Y) (hl : k ≤ l) : Up l X Y := by
  have := h.trans (Up.refl (l - k) Y)
  rwa [show k + (l - k) = l by omega] at this
theorem Up.add {k X Y X' Y' : Nat} (h : Up k X Y) (h' : Up k X' Y') : Up k (X + X') (Y + Y') := by
  unfold Up at *
  rw [Nat.add_mul, Nat.mul_add]
  exact Nat.add_le_add h h'
theorem Up.le {k X Y Z : Nat} (h : Up k X Y) (hz : Y ≤ Z) : Up k X Z := Nat.le_trans h (Nat.mul_le_mul_left _ hz)
theorem Up.mul {k X Y : Nat} (c : Nat) (h : Up k X Y) : Up k (c * X) (c * Y) := by
  unfold Up at *
  rw [Nat.mul_assoc, Nat.mul_left_comm (1025 ^ k)]
  exact Nat.mul_le_mul_left _ h
theorem Up.one {X Y : Nat} (h : X * 1024 ≤ Y * 1025) : Up 1 X Y := by
  unfold Up
  rw [Nat.pow_one, Nat.pow_one, Nat.mul_comm 1025]
  exact h
/-- twelve roundings are less than twice -/
theorem Up.twice {k X Y : Nat} (h : Up k X Y) (hk : k ≤ 12) : X ≤ 2 * Y := by
  have h1 := h.more hk
  unfold Up at h1
  have h2 : 1025 ^ 12 ≤ 2 * 1024 ^ 12 := by decide +kernel
  have h3 : X * 1024 ^ 12 ≤ 2 * Y * 1024 ^ 12 := by
    refine Nat.le_trans h1 (Nat.le_trans (Nat.mul_le_mul_right Y h2) ?_)
    rw [Nat.mul_right_comm]
    exact Nat.le_refl _
  exact Nat.le_of_mul_le_mul_right h3 (Nat.two_pow_pos 120 |> fun _ => Nat.pow_pos (by decide))
def sumN (f : Nat → Nat) : Nat → Nat
  | 0 => 0
  | n + 1 => sumN f n + f n
theorem sumN_le {f g : Nat → Nat} : ∀ n, (∀ i, i < n → f i ≤ g i) → sumN f n ≤ sumN g n := by
  intro n
  induction n with
  | zero => intro _; exact Nat.le_refl _
  | succ n ih => intro h; exact Nat.add_le_add (ih fun i hi => h i (by omega)) (h n (by omega))
theorem sumN_mono {f : Nat → Nat} {m : Nat} : ∀ n, m ≤ n → sumN f m ≤ sumN f n := by
  intro n
  induction n with
  | zero => intro h; obtain rfl : m = 0 := by omega
            exact Nat.le_refl _
  | succ n ih =>
    intro h
    rcases Nat.lt_or_ge m (n + 1) with h1 | h1
    · exact Nat.le_trans (ih (by omega)) (Nat.le_add_right _ _)
    · obtain rfl : m = n + 1 := by omega
      exact Nat.le_refl _
theorem sumN_at {f : Nat → Nat} {n i : Nat} (h : i < n) : f i ≤ sumN f n := Nat.le_trans (Nat.le_add_left _ _) (sumN_mono (f := f) (m := i + 1) n h)
theorem sumN_add (f g : Nat → Nat) : ∀ n, sumN (fun i => f i + g i) n = sumN f n + sumN g n := by
  intro n
  induction n with
  | zero => rfl
  | succ n ih => show sumN _ n + (f n + g n) = (sumN f n + f n) + (sumN g n + g n); rw [ih]; omega
theorem sumN_const (c : Nat) : ∀ n, sumN (fun _ => c) n = n * c := by
  intro n
  induction n with
  | zero => simp [sumN]
  | succ n ih => show sumN _ n + c = _; rw [ih, Nat.add_mul, Nat.one_mul]
theorem sumN_mul (c : Nat) (f : Nat → Nat) : ∀ n, sumN (fun i => c * f i) n = c * sumN f n := by
  intro n
  induction n with
  | zero => rfl
  | succ n ih => show sumN _ n + c * f n = c * (sumN f n + f n); rw [ih, Nat.mul_add]
theorem sumN_congr {f g : Nat → Nat} : ∀ n, (∀ i, i < n → f i = g i) → sumN f n = sumN g n := by
  intro n
  induction n with
  | zero => intro _; rfl
  | succ n ih => intro h; show sumN f n + f n = sumN g n + g n; rw [ih fun i hi => h i (by omega), h n (by omega)]
theorem sumN_swap (f : Nat → Nat → Nat) (m : Nat) : ∀ n, sumN (fun i => sumN (f i) m) n = sumN (fun k => sumN (fun i => f i k) n) m := by
  intro n
  induction n with
  | zero =>
    show 0 = sumN (fun _ => 0) m
    rw [sumN_const, Nat.mul_zero]
  | succ n ih =>
    show sumN _ n + sumN (f n) m = sumN (fun k => sumN (fun i => f i k) n + f n k) m
    rw [sumN_add, ih]
theorem Up.sum {k : Nat} {f g : Nat → Nat} : ∀ n, (∀ i, i < n → Up k (f i) (g i)) → Up k (sumN f n) (sumN g n) := by
  intro n
  induction n with
  | zero => intro _; exact Up.refl _ _
  | succ n ih => intro h; exact (ih fun i hi => h i (by omega)).add (h n (by omega))

/-- what is rounded by a difference -/
theorem sub_mag {x y : Nat} (hx : isFin single x = true) (hy : isFin single y = true) (hkx : 0 ≤ key single x) (hky : 0 ≤ key single y) (hxy : key single y ≤ key single x) :
    ∃ mag place, single.leastPlace ≤ place ∧ mag * 2 ^ (place - single.leastPlace).toNat = val x - val y ∧ key single (fsub x y) = rungTo single mag place := by
  have he : 1 ≤ single.exponentBits := by decide
  obtain ⟨s, m, i, hr, hs, hli, hm, hk⟩ := read_nn he hx hkx
  obtain ⟨t, n, j, hq, ht, hlj, hn, hk2⟩ := read_nn he hy hky
  have hle : mu single (rungOf single y) ≤ mu single (rungOf single x) := (mu_le_iff _ _ _).2 (by omega)
  have hsub : single.sub x y = some (single.nearest (if signed s m (i - min i j).toNat + signed (!t) n (j - min i j).toNat = 0 then s && !t else decide (signed s m (i - min i j).toNat + signed (!t) n (j - min i j).toNat < 0)) (signed s m (i - min i j).toNat + signed (!t) n (j - min i j).toNat).natAbs (min i j)) := by
    unfold Format.sub
    rw [hr, hq]
    rfl
  have hv := congrArg (fun o => Option.getD o 0) hsub
  change fsub x y = _ at hv
  simp only [Option.getD_some] at hv
  rw [signed_nn hs, signed_opp ht] at hv
  have hbase : single.leastPlace ≤ min i j := by omega
  have e1 : (i - single.leastPlace).toNat = (i - min i j).toNat + (min i j - single.leastPlace).toNat := by omega
  have e2 : (j - single.leastPlace).toNat = (j - min i j).toNat + (min i j - single.leastPlace).toNat := by omega
  rw [e1, mul_pow_add] at hm
  rw [e2, mul_pow_add] at hn
  generalize m * 2 ^ (i - min i j).toNat = a at *
  generalize n * 2 ^ (j - min i j).toNat = b at *
  rw [← hm, ← hn] at hle
  have hab : b ≤ a := Nat.le_of_mul_le_mul_right hle (Nat.two_pow_pos _)
  have hmag : ((a : Int) + -(b : Int)).natAbs = a - b := by omega
  rw [hmag] at hv
  have hkey := key_nearest single (if ((a : Int) + -(b : Int)) = 0 then s && !t else decide (((a : Int) + -(b : Int)) < 0)) (a - b) (min i j)
  rw [← hv] at hkey
  have hsgn : (if ((a : Int) + -(b : Int)) = 0 then s && !t else decide (((a : Int) + -(b : Int)) < 0)) = false ∨ rungTo single (a - b) (min i j) = 0 := by
    by_cases h0 : ((a : Int) + -(b : Int)) = 0
    · right
      have : a - b = 0 := by omega
      rw [this]
      rfl
    · left
      rw [if_neg h0]
      exact decide_eq_false (by omega)
  refine ⟨a - b, min i j, hbase, by rw [Nat.sub_mul, hm, hn]; rfl, ?_⟩
  rw [hkey]
  rcases hsgn with h | h
  · rw [h]; rfl
  · rw [h]; simp
/-- a row's sum of a valid chain -/
theorem ok_val {f : Nat} (hf : isFin single f = true) (hk : 0 ≤ key single f) (ho : okSum f = true) : val f ≤ 129 * 2 ^ 142 := by
  rcases Nat.lt_or_ge (129 * 2 ^ 142) (val f) with h | h
  · exfalso
    have h1 : val 1065353216 ≤ val f := by
      rw [val_one]
      refine Nat.le_trans ?_ (Nat.le_of_lt h)
      decide +kernel
    have hk1 : key single 1065353216 ≤ key single f := by
      rcases Int.lt_or_le (key single f) (key single 1065353216) with h2 | h2
      · exfalso
        have h3 : val f ≤ val 1065353216 := val_mono hk (by omega)
        have h4 : 129 * 2 ^ 142 < val 1065353216 := Nat.lt_of_lt_of_le h h3
        rw [val_one] at h4
        revert h4
        decide +kernel
      · exact h2
    obtain ⟨mag, place, q1, q2, q3⟩ := sub_mag hf one_fin hk (by rw [key_one]; decide) hk1
    have h5 : mu single 1006632960 * 2 ^ (single.leastPlace - single.leastPlace).toNat ≤ mag * 2 ^ (place - single.leastPlace).toNat := by
      rw [q2, val_one, Int.sub_self, Int.toNat_zero, Nat.pow_zero, Nat.mul_one, show mu single 1006632960 = 2 ^ 142 by decide +kernel]
      refine Nat.le_sub_of_add_le (Nat.le_trans ?_ (Nat.le_of_lt h))
      decide +kernel
    have h6 := rungTo_low single mag place single.leastPlace 1006632960 q1 (Int.le_refl _) (by rw [inf_lit]; decide) h5
    unfold okSum at ho
    have h7 := (of_decide_eq_true ho).2
    rw [q3] at h7
    omega
  · exact h
end Go.Proofs.Ytlhepgdheopgaaa

namespace Go.Proofs.Ytlhepgdheopgaaa
open Go Ieee

/-- a fold of roundings from below: the sum so far -/
theorem fold_up {D M : Nat → Nat} (hD0 : val (D 0) = 0) (n : Nat) (hn : n ≤ 12) (hS : ∀ i, i < n → D (i + 1) = fadd (D i) (M i)) (hM : ∀ i, i < n → isFin single (M i) = true ∧ 0 ≤ key single (M i)) (hf0 : isFin single (D 0) = true) (hk0 : 0 ≤ key single (D 0)) (hT : sumN (fun i => val (M i)) n ≤ 2 ^ 270) :
    ∀ i, i ≤ n → isFin single (D i) = true ∧ 0 ≤ key single (D i) ∧ Up i (val (D i)) (sumN (fun j => val (M j) + 1) i) := by
  intro i
  induction i with
  | zero =>
    intro _
    refine ⟨hf0, hk0, ?_⟩
    rw [hD0]
    exact Up.refl _ _
  | succ i ih =>
    intro hi
    obtain ⟨h1, h2, h3⟩ := ih (by omega)
    obtain ⟨m1, m2⟩ := hM i (by omega)
    have hk := (add_nn (fin_not_nan h1) h2 m1 m2).1
    have hu := add_up h1 h2 m1 m2
    rw [← hS i (by omega)] at hk hu
    have hU : Up 1 (val (D (i + 1))) (val (D i) + (val (M i) + 1)) := Up.one (by omega)
    have h4 : Up (1 + i) (val (D (i + 1))) (sumN (fun j => val (M j) + 1) (i + 1)) := hU.trans (h3.add (Up.refl i _))
    rw [Nat.add_comm 1 i] at h4
    refine ⟨val_fin ?_, hk, h4⟩
    rw [val_inf]
    have h5 := h4.twice (by omega)
    have h6 : sumN (fun j => val (M j) + 1) (i + 1) ≤ sumN (fun j => val (M j)) n + 12 := by
      rw [sumN_add, sumN_const, Nat.mul_one]
      exact Nat.add_le_add (sumN_mono n hi) (by omega)
    have h7 : 2 * (2 ^ 270 + 12) < 2 ^ 277 := by decide +kernel
    generalize 2 ^ 270 = a at *
    generalize 2 ^ 277 = b at *
    omega
/-- and from above -/
theorem fold_down {D M : Nat → Nat} (n : Nat) (hS : ∀ i, i < n → D (i + 1) = fadd (D i) (M i)) (hM : ∀ i, i < n → isFin single (M i) = true ∧ 0 ≤ key single (M i)) (hD : ∀ i, i ≤ n → isFin single (D i) = true ∧ 0 ≤ key single (D i)) :
    ∀ i, i ≤ n → Up i (sumN (fun j => val (M j)) i) (val (D i) + i) := by
  intro i
  induction i with
  | zero => intro _; exact (Up.refl 0 0).le (Nat.zero_le _)
  | succ i ih =>
    intro hi
    obtain ⟨h1, h2⟩ := hD i (by omega)
    obtain ⟨m1, m2⟩ := hM i (by omega)
    have hd := add_down h1 h2 m1 m2 (by rw [← hS i (by omega)]; exact (hD (i + 1) hi).1)
    rw [← hS i (by omega)] at hd
    have hU : Up 1 (val (D i) + val (M i)) (val (D (i + 1)) + 1) := Up.one (by omega)
    have h3 : Up i (sumN (fun j => val (M j)) (i + 1)) (val (D i) + i + val (M i)) := (ih (by omega)).add (Up.refl i _)
    have h4 : Up 1 (val (D i) + i + val (M i)) (val (D (i + 1)) + (i + 1)) := by
      have := hU.add (Up.refl 1 i)
      rwa [show val (D i) + val (M i) + i = val (D i) + i + val (M i) by omega, show val (D (i + 1)) + 1 + i = val (D (i + 1)) + (i + 1) by omega] at this
    exact h3.trans h4
/-- a row's worth -/
def rowV (row : List Nat) (n : Nat) : Nat := sumN (fun i => val (rowOf row i)) n
theorem part_val {x : Nat} (h : partB x = true) : val x ≤ 2 ^ 149 := by
  obtain ⟨a, b, c, d⟩ := part_key h
  rw [← val_one]
  exact val_mono b (by rw [key_one]; exact c)
/-- the sum of the steps of a state -/
theorem steps_sum {xs : List Nat} {n i : Nat} (hn2 : n ≤ 12) (hl : xs.length = n * n) (hp : xs.all partB = true) (ho : rowsOk xs n n = true) (hi : i < n) : Up 12 (sumN (fun k => val (stepOf xs n i k)) n) (129 * 2 ^ 142 + 12) := by
  have hpart := fun k (hk : k < n) => part_key (stepOf_part hl hp hi hk)
  have hS : ∀ k, k < n → fsum ((rowAt xs n i).take (k + 1)) = fadd (fsum ((rowAt xs n i).take k)) (stepOf xs n i k) := by
    intro k hk
    have hkl : k < (rowAt xs n i).length := by rw [rowAt_len hl hi]; exact hk
    rw [fsum_take_succ _ _ hkl, rowAt_get hl hi hk hkl]
    unfold stepOf
    rw [List.getD_eq_getElem?_getD, List.getElem?_eq_getElem (by rw [hl]; exact idx_lt hi hk)]
    rfl
  have hM : ∀ k, k < n → isFin single (stepOf xs n i k) = true ∧ 0 ≤ key single (stepOf xs n i k) := fun k hk => ⟨(hpart k hk).2.2.2, (hpart k hk).2.1⟩
  have h0 : fsum ((rowAt xs n i).take 0) = 0 := rfl
  have hT : sumN (fun k => val (stepOf xs n i k)) n ≤ 2 ^ 270 := by
    refine Nat.le_trans (sumN_le (g := fun _ => 2 ^ 149) n fun k hk => part_val (stepOf_part hl hp hi hk)) ?_
    rw [sumN_const]
    refine Nat.le_trans (Nat.mul_le_mul_right _ hn2) ?_
    decide +kernel
  have hup := fold_up (D := fun k => fsum ((rowAt xs n i).take k)) (M := stepOf xs n i) (by show val (fsum _) = 0; rw [h0]; exact val_zero) n hn2 hS hM (by show isFin single (fsum _) = true; rw [h0]; decide +kernel) (by show 0 ≤ key single (fsum _); rw [h0, key_zero]; exact Int.le_refl _) hT
  have hdn := fold_down (D := fun k => fsum ((rowAt xs n i).take k)) (M := stepOf xs n i) n hS hM (fun k hk => ⟨(hup k hk).1, (hup k hk).2.1⟩) n (Nat.le_refl _)
  refine (hdn.more hn2).le (Nat.add_le_add ?_ hn2)
  obtain ⟨f1, f2, -⟩ := hup n (Nat.le_refl _)
  have hfull : (rowAt xs n i).take n = rowAt xs n i := by
    rw [List.take_of_length_le]
    rw [rowAt_len hl hi]
    exact Nat.le_refl _
  show val (fsum ((rowAt xs n i).take n)) ≤ _
  have f1' : isFin single (fsum ((rowAt xs n i).take n)) = true := f1
  have f2' : 0 ≤ key single (fsum ((rowAt xs n i).take n)) := f2
  rw [hfull] at f1' f2' ⊢
  refine ok_val f1' f2' ?_
  unfold rowsOk at ho
  exact List.all_eq_true.1 ho i (List.mem_range.2 hi)
set_option maxRecDepth 10000 in
theorem mul_calc {V E P : Nat} (h : V * 1024 * E ≤ P * 1025 + 1024 * E) : E * (V + 1) * 1024 ≤ (P + 2 * E) * 1025 := by
  rw [Nat.mul_right_comm, Nat.mul_comm V E] at h
  rw [Nat.mul_add, Nat.mul_one]
  generalize E * V = W at *
  omega
set_option maxRecDepth 10000 in
theorem grow_calc {T T' A R Q C D : Nat} (hall : C * T' * D ≤ A * (T * R + Q)) (hc1 : A * (8 * R) ≤ 9 * (C * D)) (hc2 : A * (8 * Q) ≤ 4096 * (C * D)) (hpos : 0 < C * D) : 8 * T' ≤ 9 * T + 4096 := by
  refine Nat.le_of_mul_le_mul_right (c := C * D) ?_ hpos
  have hl' : 8 * T' * (C * D) = 8 * (C * T' * D) := by
    rw [Nat.mul_assoc, Nat.mul_left_comm T', Nat.mul_assoc]
  rw [hl']
  refine Nat.le_trans (Nat.mul_le_mul_left 8 hall) ?_
  have hd1 := Nat.mul_le_mul_left T hc1
  have e1 : 8 * (A * (T * R + Q)) = T * (A * (8 * R)) + A * (8 * Q) := by
    rw [Nat.mul_left_comm 8 A, Nat.mul_add, Nat.mul_add, Nat.mul_left_comm 8 T, Nat.mul_left_comm A T]
  have e2 : (9 * T + 4096) * (C * D) = T * (9 * (C * D)) + 4096 * (C * D) := by
    rw [Nat.add_mul, Nat.mul_left_comm T 9, Nat.mul_assoc]
  rw [e1, e2]
  exact Nat.add_le_add hd1 hc2
/-- one step: the row is finite, and its worth is no more than an eighth greater -/
theorem step_grow {xs row : List Nat} {n : Nat} (hn2 : n ≤ 12) (hl : xs.length = n * n) (hp : xs.all partB = true) (ho : rowsOk xs n n = true) (hrl : row.length = n) (hr : row.all leastB = true) (hT : rowV row n ≤ 2 ^ 250) :
    (stepRow xs row n).all (isFin single) = true ∧ 8 * rowV (stepRow xs row n) n ≤ 9 * rowV row n + 4096 := by
  have hrow := fun i (hi : i < n) => rowOf_least hr (show i < row.length by omega)
  have hpart := fun i k (hi : i < n) (hk : k < n) => part_key (stepOf_part hl hp hi hk)
  have hmul := fun i k (hi : i < n) (hk : k < n) => mul_nn (hrow i hi).1 (hpart i k hi hk).2.2.2 (hrow i hi).2 (hpart i k hi hk).2.1 (hpart i k hi hk).2.2.1
  have hdot : ∀ k, k < n → isFin single (dotRow xs row n k n) = true ∧ Up 12 (val (dotRow xs row n k n)) (sumN (fun i => val (fmul (rowOf row i) (stepOf xs n i k)) + 1) n) := by
    intro k hk
    have hTk : sumN (fun i => val (fmul (rowOf row i) (stepOf xs n i k))) n ≤ 2 ^ 270 := by
      refine Nat.le_trans (sumN_le (g := fun i => val (rowOf row i)) n fun i hi => ?_) (Nat.le_trans hT ?_)
      · exact val_mono (hmul i k hi hk).2.1 (hmul i k hi hk).2.2
      · decide +kernel
    have := fold_up (D := dotRow xs row n k) (M := fun i => fmul (rowOf row i) (stepOf xs n i k)) val_zero n hn2 (fun i _ => rfl) (fun i hi => ⟨(hmul i k hi hk).1, (hmul i k hi hk).2.1⟩) (by show isFin single 0 = true; decide +kernel) (by show 0 ≤ key single 0; rw [key_zero]; exact Int.le_refl _) hTk n (Nat.le_refl _)
    exact ⟨this.1, this.2.2.more hn2⟩
  have hrs : ∀ k, k < n → rowOf (stepRow xs row n) k = dotRow xs row n k n := by
    intro k hk
    unfold rowOf stepRow
    rw [List.getD_eq_getElem?_getD, List.getElem?_eq_getElem (by simpa using hk)]
    simp
  constructor
  · rw [List.all_eq_true]
    intro x hx
    unfold stepRow at hx
    rw [List.mem_map] at hx
    obtain ⟨k, hk, rfl⟩ := hx
    exact (hdot k (List.mem_range.1 hk)).1
  · -- E * T'
    have hE : ∀ k, k < n → Up 13 (2 ^ 149 * val (rowOf (stepRow xs row n) k)) (sumN (fun i => val (rowOf row i) * val (stepOf xs n i k) + 2 * 2 ^ 149) n) := by
      intro k hk
      rw [hrs k hk]
      have h1 := (hdot k hk).2.mul (2 ^ 149)
      rw [← sumN_mul] at h1
      have h2 : Up 1 (sumN (fun i => 2 ^ 149 * (val (fmul (rowOf row i) (stepOf xs n i k)) + 1)) n) (sumN (fun i => val (rowOf row i) * val (stepOf xs n i k) + 2 * 2 ^ 149) n) := by
        refine Up.sum n fun i hi => Up.one ?_
        have h3 := mul_up (hrow i hi).1 (hrow i hi).2 (hpart i k hi hk).2.2.2 (hpart i k hi hk).2.1
        generalize val (rowOf row i) * val (stepOf xs n i k) = P at *
        generalize val (fmul (rowOf row i) (stepOf xs n i k)) = V at *
        generalize 2 ^ 149 = E at *
        exact mul_calc h3
      exact h1.trans h2
    have hsum := Up.sum n hE
    rw [sumN_mul] at hsum
    have hrhs : sumN (fun k => sumN (fun i => val (rowOf row i) * val (stepOf xs n i k) + 2 * 2 ^ 149) n) n = sumN (fun i => val (rowOf row i) * sumN (fun k => val (stepOf xs n i k)) n) n + n * (n * (2 * 2 ^ 149)) := by
      rw [sumN_swap, ← sumN_const (n * (2 * 2 ^ 149)) n, ← sumN_add]
      refine sumN_congr n fun i hi => ?_
      rw [sumN_add, sumN_mul, sumN_const]
    rw [hrhs] at hsum
    have hS : Up 12 (sumN (fun i => val (rowOf row i) * sumN (fun k => val (stepOf xs n i k)) n) n + n * (n * (2 * 2 ^ 149))) (rowV row n * (129 * 2 ^ 142 + 12) + n * (n * (2 * 2 ^ 149))) := by
      refine Up.add ?_ (Up.refl _ _)
      have : rowV row n * (129 * 2 ^ 142 + 12) = sumN (fun i => val (rowOf row i) * (129 * 2 ^ 142 + 12)) n := by
        unfold rowV
        rw [Nat.mul_comm, ← sumN_mul]
        exact sumN_congr n fun i _ => Nat.mul_comm _ _
      rw [this]
      exact Up.sum n fun i hi => (steps_sum hn2 hl hp ho hi).mul _
    have hall : Up 25 (2 ^ 149 * rowV (stepRow xs row n) n) (rowV row n * (129 * 2 ^ 142 + 12) + 288 * 2 ^ 149) := by
      refine (hsum.trans hS).le (Nat.add_le_add_left ?_ _)
      have h1 : n * n ≤ 144 := Nat.mul_le_mul hn2 hn2
      rw [← Nat.mul_assoc, ← Nat.mul_assoc]
      exact Nat.mul_le_mul_right _ (by omega)
    unfold Up at hall
    have hc1 : 1025 ^ 25 * (8 * (129 * 2 ^ 142 + 12)) ≤ 9 * (2 ^ 149 * 1024 ^ 25) := by decide +kernel
    have hc2 : 1025 ^ 25 * (8 * (288 * 2 ^ 149)) ≤ 4096 * (2 ^ 149 * 1024 ^ 25) := by decide +kernel
    have hpos : 0 < 2 ^ 149 * 1024 ^ 25 := by decide +kernel
    generalize rowV (stepRow xs row n) n = T' at *
    generalize rowV row n = T at *
    exact grow_calc hall hc1 hc2 hpos
theorem nine_eight : ∀ d, 8 ^ d ≤ 9 ^ d := fun d => Nat.pow_le_pow_left (by decide) d
set_option exponentiation.threshold 600 in
theorem rest_bound {s T : Nat} (hs : s ≤ 512) (h : 8 ^ s * (T + 4096) ≤ 9 ^ s * (13 * 2 ^ 149)) : T ≤ 2 ^ 250 := by
  have hc : (9 : Nat) ^ 512 * (13 * 2 ^ 149) ≤ 8 ^ 512 * 2 ^ 250 := by decide +kernel
  have h1 : 8 ^ 512 * (T + 4096) ≤ 9 ^ 512 * (13 * 2 ^ 149) := by
    have e : 512 = (512 - s) + s := by omega
    rw [e, Nat.pow_add, Nat.pow_add, Nat.mul_assoc, Nat.mul_assoc]
    exact Nat.mul_le_mul (nine_eight _) h
  have h2 := Nat.le_of_mul_le_mul_left (Nat.le_trans h1 hc) (Nat.pow_pos (by decide))
  exact Nat.le_trans (Nat.le_add_right _ _) h2
/-- the row at a time -/
def restRow (xs row : List Nat) (n : Nat) : Nat → List Nat
  | 0 => row
  | s + 1 => stepRow xs (restRow xs row n s) n
theorem rest_grow {xs row : List Nat} {n : Nat} (hn2 : n ≤ 12) (hl : xs.length = n * n) (hp : xs.all partB = true) (ho : rowsOk xs n n = true) (hrl : row.length = n) (hr : row.all leastB = true) (hT : rowV row n ≤ 12 * 2 ^ 149) :
    ∀ s, s ≤ 512 → (restRow xs row n s).length = n ∧ (restRow xs row n s).all leastB = true ∧ 8 ^ s * (rowV (restRow xs row n s) n + 4096) ≤ 9 ^ s * (13 * 2 ^ 149) := by
  intro s
  induction s with
  | zero =>
    intro _
    refine ⟨hrl, hr, ?_⟩
    show 1 * _ ≤ 1 * _
    rw [Nat.one_mul, Nat.one_mul]
    refine Nat.le_trans (Nat.add_le_add_right hT _) ?_
    decide +kernel
  | succ s ih =>
    intro hs
    obtain ⟨h1, h2, h3⟩ := ih (by omega)
    have hb := rest_bound (by omega) h3
    obtain ⟨g1, g2⟩ := step_grow hn2 hl hp ho h1 h2 hb
    refine ⟨stepRow_len _ _ _, stepRow_least hl hp h1 h2 g1, ?_⟩
    show 8 ^ (s + 1) * (rowV (stepRow xs (restRow xs row n s) n) n + 4096) ≤ _
    generalize rowV (stepRow xs (restRow xs row n s) n) n = T' at *
    generalize rowV (restRow xs row n s) n = T at *
    have e1 : 8 ^ (s + 1) * (T' + 4096) = 8 ^ s * (8 * (T' + 4096)) := by rw [Nat.pow_succ, Nat.mul_assoc]
    have e2 : 8 * (T' + 4096) ≤ 9 * (T + 4096) := by
      clear hb h3 e1 g1 h1 h2 hs hT ih
      omega
    rw [e1]
    refine Nat.le_trans (Nat.mul_le_mul_left _ e2) ?_
    rw [Nat.mul_left_comm, Nat.pow_succ, Nat.mul_comm (9 ^ s) 9, Nat.mul_assoc 9]
    exact Nat.mul_le_mul_left 9 h3
end Go.Proofs.Ytlhepgdheopgaaa
