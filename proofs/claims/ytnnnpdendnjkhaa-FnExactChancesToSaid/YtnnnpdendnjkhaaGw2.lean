/-
  A row grows by no more than an eighth at a step of a valid chain. No program.
-/
import Derived.Test.YtnnnpdendnjkhaaGw1
namespace Go.Proofs.Ytnnnpdendnjkhaa
open Go Ieee

/-- at most so many roundings above -/
def Up (k X Y : Nat) : Prop := X * 1024 ^ k ≤ 1025 ^ k * Y
theorem pw_le (k : Nat) : 1024 ^ k ≤ 1025 ^ k := Nat.pow_le_pow_left (by decide) k
theorem Up.refl (k X : Nat) : Up k X X := by
  unfold Up
  rw [Nat.mul_comm]
  exact Nat.mul_le_mul_right _ (pw_le k)
theorem Up.trans {k l X Y Z : Nat} (h : Up k X Y) (h' : Up l Y Z) : Up (k + l) X Z := by
  unfold Up at *
  rw [Nat.pow_add, Nat.pow_add, ← Nat.mul_assoc, Nat.mul_assoc (1025 ^ k)]
  refine Nat.le_trans (Nat.mul_le_mul_right _ h) ?_
  rw [Nat.mul_assoc]
  exact Nat.mul_le_mul_left _ h'
theorem Up.more {k l X Y : Nat} (h : Up k X Y) (hl : k ≤ l) : Up l X Y := by
  have := h.trans (Up.refl (l - k) Y)
  rwa [show k + (l - k) = l by omega] at this
theorem Up.add {k X Y X' Y' : Nat} (h : Up k X Y) (h' : Up k X' Y') : Up k (X + X') (Y + Y') := by
  unfold Up at *
  rw [Nat.add_mul, Nat.mul_add]
  exact Nat.add_le_add h h'
theorem Up.le {k X Y Z : Nat} (h : Up k X Y) (hz : Y ≤ Z) : Up k X Z := Nat.le_trans h (Nat.mul_le_mul_left _ hz)
theorem Up.mul {k X Y : Nat} (c : Nat) (h : Up k X Y) : Up k (c * X) (c * Y) := by
  unfold Up at *
  rw [Nat.mul_assoc, Nat.mul_left_comm (1025 ^ k)]
  exact Nat.mul_le_mul_left _ h
theorem Up.one {X Y : Nat} (h : X * 1024 ≤ Y * 1025) : Up 1 X Y := by
  unfold Up
  rw [Nat.pow_one, Nat.pow_one, Nat.mul_comm 1025]
  exact h
/-- twelve roundings are less than twice -/
theorem Up.twice {k X Y : Nat} (h : Up k X Y) (hk : k ≤ 12) : X ≤ 2 * Y := by
  have h1 := h.more hk
  unfold Up at h1
  have h2 : 1025 ^ 12 ≤ 2 * 1024 ^ 12 := by decide +kernel
  have h3 : X * 1024 ^ 12 ≤ 2 * Y * 1024 ^ 12 := by
    refine Nat.le_trans h1 (Nat.le_trans (Nat.mul_le_mul_right Y h2) ?_)
    rw [Nat.mul_right_comm]
    exact Nat.le_refl _
  exact Nat.le_of_mul_le_mul_right h3 (Nat.two_pow_pos 120 |> fun _ => Nat.pow_pos (by decide))
def sumN (f : Nat → Nat) : Nat → Nat
  | 0 => 0
  | n + 1 => sumN f n + f n
theorem sumN_le {f g : Nat → Nat} : ∀ n, (∀ i, i < n → f i ≤ g i) → sumN f n ≤ sumN g n := by
  intro n
  induction n with
  | zero => intro _; exact Nat.le_refl _
  | succ n ih => intro h; exact Nat.add_le_add (ih fun i hi => h i (by omega)) (h n (by omega))
theorem sumN_mono {f : Nat → Nat} {m : Nat} : ∀ n, m ≤ n → sumN f m ≤ sumN f n := by
  intro n
  induction n with
  | zero => intro h; obtain rfl : m = 0 := by omega
            exact Nat.le_refl _
  | succ n ih =>
    intro h
    rcases Nat.lt_or_ge m (n + 1) with h1 | h1
    · exact Nat.le_trans (ih (by omega)) (Nat.le_add_right _ _)
    · obtain rfl : m = n + 1 := by omega
      exact Nat.le_refl _
theorem sumN_at {f : Nat → Nat} {n i : Nat} (h : i < n) : f i ≤ sumN f n := Nat.le_trans (Nat.le_add_left _ _) (sumN_mono (f := f) (m := i + 1) n h)
theorem sumN_add (f g : Nat → Nat) : ∀ n, sumN (fun i => f i + g i) n = sumN f n + sumN g n := by
  intro n
  induction n with
  | zero => rfl
  | succ n ih => show sumN _ n + (f n + g n) = (sumN f n + f n) + (sumN g n + g n); rw [ih]; omega
theorem sumN_const (c : Nat) : ∀ n, sumN (fun _ => c) n = n * c := by
  intro n
  induction n with
  | zero => simp [sumN]
  | succ n ih => show sumN _ n + c = _; rw [ih, Nat.add_mul, Nat.one_mul]
theorem sumN_mul (c : Nat) (f : Nat → Nat) : ∀ n, sumN (fun i => c * f i) n = c * sumN f n := by
  intro n
  induction n with
  | zero => rfl
  | succ n ih => show sumN _ n + c * f n = c * (sumN f n + f n); rw [ih, Nat.mul_add]
theorem sumN_congr {f g : Nat → Nat} : ∀ n, (∀ i, i < n → f i = g i) → sumN f n = sumN g n := by
  intro n
  induction n with
  | zero => intro _; rfl
  | succ n ih => intro h; show sumN f n + f n = sumN g n + g n; rw [ih fun i hi => h i (by omega), h n (by omega)]
theorem sumN_swap (f : Nat → Nat → Nat) (m : Nat) : ∀ n, sumN (fun i => sumN (f i) m) n = sumN (fun k => sumN (fun i => f i k) n) m := by
  intro n
  induction n with
  | zero =>
    show 0 = sumN (fun _ => 0) m
    rw [sumN_const, Nat.mul_zero]
  | succ n ih =>
    show sumN _ n + sumN (f n) m = sumN (fun k => sumN (fun i => f i k) n + f n k) m
    rw [sumN_add, ih]
theorem Up.sum {k : Nat} {f g : Nat → Nat} : ∀ n, (∀ i, i < n → Up k (f i) (g i)) → Up k (sumN f n) (sumN g n) := by
  intro n
  induction n with
  | zero => intro _; exact Up.refl _ _
  | succ n ih => intro h; exact (ih fun i hi => h i (by omega)).add (h n (by omega))

/-- what is rounded by a difference -/
theorem sub_mag {x y : Nat} (hx : isFin single x = true) (hy : isFin single y = true) (hkx : 0 ≤ key single x) (hky : 0 ≤ key single y) (hxy : key single y ≤ key single x) :
    ∃ mag place, single.leastPlace ≤ place ∧ mag * 2 ^ (place - single.leastPlace).toNat = val x - val y ∧ key single (fsub x y) = rungTo single mag place := by
  have he : 1 ≤ single.exponentBits := by decide
  obtain ⟨s, m, i, hr, hs, hli, hm, hk⟩ := read_nn he hx hkx
  obtain ⟨t, n, j, hq, ht, hlj, hn, hk2⟩ := read_nn he hy hky
  have hle : mu single (rungOf single y) ≤ mu single (rungOf single x) := (mu_le_iff _ _ _).2 (by omega)
  have hsub : single.sub x y = some (single.nearest (if signed s m (i - min i j).toNat + signed (!t) n (j - min i j).toNat = 0 then s && !t else decide (signed s m (i - min i j).toNat + signed (!t) n (j - min i j).toNat < 0)) (signed s m (i - min i j).toNat + signed (!t) n (j - min i j).toNat).natAbs (min i j)) := by
    unfold Format.sub
    rw [hr, hq]
    rfl
  have hv := congrArg (fun o => Option.getD o 0) hsub
  change fsub x y = _ at hv
  simp only [Option.getD_some] at hv
  rw [signed_nn hs, signed_opp ht] at hv
  have hbase : single.leastPlace ≤ min i j := by omega
  have e1 : (i - single.leastPlace).toNat = (i - min i j).toNat + (min i j - single.leastPlace).toNat := by omega
  have e2 : (j - single.leastPlace).toNat = (j - min i j).toNat + (min i j - single.leastPlace).toNat := by omega
  rw [e1, mul_pow_add] at hm
  rw [e2, mul_pow_add] at hn
  generalize m * 2 ^ (i - min i j).toNat = a at *
  generalize n * 2 ^ (j - min i j).toNat = b at *
  rw [← hm, ← hn] at hle
  have hab : b ≤ a := Nat.le_of_mul_le_mul_right hle (Nat.two_pow_pos _)
  have hmag : ((a : Int) + -(b : Int)).natAbs = a - b := by omega
  rw [hmag] at hv
  have hkey := key_nearest single (if ((a : Int) + -(b : Int)) = 0 then s && !t else decide (((a : Int) + -(b : Int)) < 0)) (a - b) (min i j)
  rw [← hv] at hkey
  have hsgn : (if ((a : Int) + -(b : Int)) = 0 then s && !t else decide (((a : Int) + -(b : Int)) < 0)) = false ∨ rungTo single (a - b) (min i j) = 0 := by
    by_cases h0 : ((a : Int) + -(b : Int)) = 0
    · right
      have : a - b = 0 := by omega
      rw [this]
      rfl
    · left
      rw [if_neg h0]
      exact decide_eq_false (by omega)
  refine ⟨a - b, min i j, hbase, by rw [Nat.sub_mul, hm, hn]; rfl, ?_⟩
  rw [hkey]
  rcases hsgn with h | h
  · rw [h]; rfl
  · rw [h]; simp
/-- a row's sum of a valid chain -/
theorem ok_val {f : Nat} (hf : isFin single f = true) (hk : 0 ≤ key single f) (ho : okSum f = true) : val f ≤ 129 * 2 ^ 142 := by
  rcases Nat.lt_or_ge (129 * 2 ^ 142) (val f) with h | h
  · exfalso
    have h1 : val 1065353216 ≤ val f := by
      rw [val_one]
      refine Nat.le_trans ?_ (Nat.le_of_lt h)
      decide +kernel
    have hk1 : key single 1065353216 ≤ key single f := by
      rcases Int.lt_or_le (key single f) (key single 1065353216) with h2 | h2
      · exfalso
        have h3 : val f ≤ val 1065353216 := val_mono hk (by omega)
        have h4 : 129 * 2 ^ 142 < val 1065353216 := Nat.lt_of_lt_of_le h h3
        rw [val_one] at h4
        revert h4
        decide +kernel
      · exact h2
    obtain ⟨mag, place, q1, q2, q3⟩ := sub_mag hf one_fin hk (by rw [key_one]; decide) hk1
    have h5 : mu single 1006632960 * 2 ^ (single.leastPlace - single.leastPlace).toNat ≤ mag * 2 ^ (place - single.leastPlace).toNat := by
      rw [q2, val_one, Int.sub_self, Int.toNat_zero, Nat.pow_zero, Nat.mul_one, show mu single 1006632960 = 2 ^ 142 by decide +kernel]
      refine Nat.le_sub_of_add_le (Nat.le_trans ?_ (Nat.le_of_lt h))
      decide +kernel
    have h6 := rungTo_low single mag place single.leastPlace 1006632960 q1 (Int.le_refl _) (by rw [inf_lit]; decide) h5
    unfold okSum at ho
    have h7 := (of_decide_eq_true ho).2
    rw [q3] at h7
    omega
  · exact h
end Go.Proofs.Ytnnnpdendnjkhaa
