/-
  Numbers that are nearly equal: by how many roundings two of them differ at most; a rounded number is one rounding away. No program.
  Rounded sums, differences, products and quotients of numbers not less than 0 lie one rounding (a quotient: two) away from the exact ones. No program.
  Chains whose rows sum to 1, nearly: they are valid; a row behind a step, nearly. No program.
  Rows at rest keep their sum, nearly; chains that are weighed are in balance, nearly; a chain that goes back twice is itself, nearly. No program.
  The chains and weights that the laws draw: what their numbers are, nearly. No program.
-/
import Derived.Test.YtlhepgdheopgaaaGw3
import Derived.Test.YtlhepgdheopgaaaRt0
import Derived.Test.YtlhepgdheopgaaaBak
import Derived.Test.YtlhepgdheopgaaaWe0
namespace Go.Proofs.Ytlhepgdheopgaaa
open Go Ieee

/-- a rounding is one part of so many at most -/
def kA : Nat := 8388608
def kB : Nat := 8388609
theorem kA_lit : kA = 8388608 := rfl
theorem kB_lit : kB = 8388609 := rfl
theorem kAB : kB = kA + 1 := rfl
theorem kA_pos : 0 < kA := by decide
theorem kB_pos : 0 < kB := by decide
theorem kpow (k : Nat) : kA ^ k ≤ kB ^ k := Nat.pow_le_pow_left (by decide) k
/-- at most k roundings apart -/
def Nr (k X Y : Nat) : Prop := X * kA ^ k ≤ Y * kB ^ k ∧ Y * kA ^ k ≤ X * kB ^ k
theorem Nr.refl (k X : Nat) : Nr k X X := ⟨Nat.mul_le_mul_left _ (kpow k), Nat.mul_le_mul_left _ (kpow k)⟩
theorem Nr.symm {k X Y : Nat} (h : Nr k X Y) : Nr k Y X := ⟨h.2, h.1⟩
theorem ne_half {a b X Y Z : Nat} (h : X * kA ^ a ≤ Y * kB ^ a) (g : Y * kA ^ b ≤ Z * kB ^ b) : X * kA ^ (a + b) ≤ Z * kB ^ (a + b) := by
  rw [Nat.pow_add, Nat.pow_add, ← Nat.mul_assoc]
  refine Nat.le_trans (Nat.mul_le_mul_right _ h) ?_
  rw [Nat.mul_right_comm, Nat.mul_comm (kB ^ a), ← Nat.mul_assoc]
  exact Nat.mul_le_mul_right _ g
theorem Nr.trans {a b X Y Z : Nat} (h : Nr a X Y) (g : Nr b Y Z) : Nr (a + b) X Z := by
  refine ⟨ne_half h.1 g.1, ?_⟩
  rw [Nat.add_comm]
  exact ne_half g.2 h.2
theorem Nr.more {a b X Y : Nat} (h : Nr a X Y) (hl : a ≤ b) : Nr b X Y := by
  have := h.trans (Nr.refl (b - a) Y)
  rwa [show a + (b - a) = b by omega] at this
theorem Nr.add {k X Y X' Y' : Nat} (h : Nr k X Y) (g : Nr k X' Y') : Nr k (X + X') (Y + Y') := by
  unfold Nr at *
  rw [Nat.add_mul, Nat.add_mul, Nat.add_mul, Nat.add_mul]
  exact ⟨Nat.add_le_add h.1 g.1, Nat.add_le_add h.2 g.2⟩
theorem Nr.mul {a b X Y X' Y' : Nat} (h : Nr a X Y) (g : Nr b X' Y') : Nr (a + b) (X * X') (Y * Y') := by
  unfold Nr at *
  rw [Nat.pow_add, Nat.pow_add, Nat.mul_mul_mul_comm X X' (kA ^ a), Nat.mul_mul_mul_comm Y Y' (kB ^ a), Nat.mul_mul_mul_comm Y Y' (kA ^ a), Nat.mul_mul_mul_comm X X' (kB ^ a)]
  exact ⟨Nat.mul_le_mul h.1 g.1, Nat.mul_le_mul h.2 g.2⟩
theorem Nr.scale {k X Y : Nat} (h : Nr k X Y) (c : Nat) : Nr k (X * c) (Y * c) := by
  have := h.mul (Nr.refl 0 c)
  rwa [Nat.add_zero] at this
theorem Nr.cancel {k X Y c : Nat} (h : Nr k (X * c) (Y * c)) (hc : 0 < c) : Nr k X Y := by
  unfold Nr at *
  rw [Nat.mul_right_comm X c (kA ^ k), Nat.mul_right_comm Y c (kB ^ k), Nat.mul_right_comm Y c (kA ^ k), Nat.mul_right_comm X c (kB ^ k)] at h
  exact ⟨Nat.le_of_mul_le_mul_right h.1 hc, Nat.le_of_mul_le_mul_right h.2 hc⟩
theorem ne_le_half {k X Y Z : Nat} (h : X * kA ^ k ≤ Y * kB ^ k) (g : Y ≤ Z) : X * kA ^ k ≤ Z * kB ^ k := Nat.le_trans h (Nat.mul_le_mul_right _ g)
theorem Nr.least {k X Y X' Y' : Nat} (h : Nr k X Y) (g : Nr k X' Y') : Nr k (min X X') (min Y Y') := by
  constructor
  · rcases Nat.le_total Y Y' with l | l
    · rw [Nat.min_eq_left l]
      exact Nat.le_trans (Nat.mul_le_mul_right _ (Nat.min_le_left _ _)) h.1
    · rw [Nat.min_eq_right l]
      exact Nat.le_trans (Nat.mul_le_mul_right _ (Nat.min_le_right _ _)) g.1
  · rcases Nat.le_total X X' with l | l
    · rw [Nat.min_eq_left l]
      exact Nat.le_trans (Nat.mul_le_mul_right _ (Nat.min_le_left _ _)) h.2
    · rw [Nat.min_eq_right l]
      exact Nat.le_trans (Nat.mul_le_mul_right _ (Nat.min_le_right _ _)) g.2
/-- what is between two numbers that are nearly equal to one is nearly equal to it -/
theorem Nr.squeeze {k X Y Z : Nat} (h : Nr k X Y) (g1 : min X Y ≤ Z) (g2 : Z ≤ max X Y) : Nr k X Z := by
  have hp := kpow k
  rcases Nat.le_total X Y with l | l
  · rw [Nat.min_eq_left l] at g1
    rw [Nat.max_eq_right l] at g2
    exact ⟨Nat.mul_le_mul g1 hp, Nat.le_trans (Nat.mul_le_mul_right _ g2) h.2⟩
  · rw [Nat.min_eq_right l] at g1
    rw [Nat.max_eq_left l] at g2
    exact ⟨Nat.le_trans h.1 (Nat.mul_le_mul_right _ g1), Nat.mul_le_mul g2 hp⟩
theorem kpow_lin (k : Nat) (h : 2 * k ≤ kA) : kB ^ k * kA ≤ kA ^ k * (kA + 2 * k) := by
  induction k with
  | zero => simp
  | succ k ih =>
    have ih' := ih (by omega)
    have h1 : (kA + 2 * k) * kB ≤ kA * (kA + 2 * (k + 1)) := by
      rw [kAB, Nat.mul_add, Nat.mul_one, Nat.add_mul, Nat.mul_add, Nat.mul_comm kA (2 * (k + 1)), Nat.mul_add 2, Nat.add_mul (2 * k)]
      have h2 : 2 * 1 * kA = 2 * kA := rfl
      rw [h2]
      generalize kA * kA = q
      generalize 2 * k * kA = r
      omega
    rw [Nat.pow_succ, Nat.pow_succ, Nat.mul_right_comm]
    refine Nat.le_trans (Nat.mul_le_mul_right _ ih') ?_
    rw [Nat.mul_assoc, Nat.mul_assoc]
    exact Nat.mul_le_mul_left _ h1
theorem ne_lin {k X Y : Nat} (h : X * kA ^ k ≤ Y * kB ^ k) (hk : 2 * k ≤ kA) : X * kA ≤ Y * (kA + 2 * k) := by
  have hp : 0 < kA ^ k := Nat.pow_pos kA_pos
  refine Nat.le_of_mul_le_mul_right (c := kA ^ k) ?_ hp
  rw [Nat.mul_right_comm, Nat.mul_assoc Y, Nat.mul_comm (kA + 2 * k)]
  refine Nat.le_trans (Nat.mul_le_mul_right _ h) ?_
  rw [Nat.mul_assoc]
  exact Nat.mul_le_mul_left _ (kpow_lin k hk)
/-- nearly equal numbers lie near one another -/
theorem Nr.gap {k X Y : Nat} (h : Nr k X Y) (hk : 2 * k ≤ kA) : X * kA ≤ Y * kA + Y * (2 * k) ∧ Y * kA ≤ X * kA + X * (2 * k) := by
  have h1 := ne_lin h.1 hk
  have h2 := ne_lin h.2 hk
  rw [Nat.mul_add] at h1 h2
  exact ⟨h1, h2⟩
theorem Nr.zero {k X : Nat} (h : Nr k 0 X) : X = 0 := by
  have h2 := h.2
  rw [Nat.zero_mul] at h2
  have hp : 0 < kA ^ k := Nat.pow_pos kA_pos
  rcases Nat.mul_eq_zero.1 (Nat.le_zero.1 h2) with h | h
  · exact h
  · omega
theorem Nr.one {X Y : Nat} (h1 : X * kA ≤ Y * kB) (h2 : Y * kA ≤ X * kB) : Nr 1 X Y := by
  unfold Nr
  rw [Nat.pow_one, Nat.pow_one]
  exact ⟨h1, h2⟩

theorem mu_small (f : Format) {r : Nat} (h : r ≤ f.binade) : mu f r = r := by
  have := mu_stair f 0 r (.inl rfl) (by omega)
  rw [Nat.zero_mul, Nat.zero_add, Nat.pow_zero, Nat.mul_one] at this
  exact this
theorem mu_near (f : Format) (hf : kA ≤ f.binade) (r : Nat) (hr : kA ≤ r) : mu f (r + 1) * kA ≤ mu f r * kB := by
  obtain ⟨e, k, he, hk, hr'⟩ : ∃ e k, (e = 0 ∨ f.binade ≤ k) ∧ k < 2 * f.binade ∧ r = e * f.binade + k := by
    rcases Nat.lt_or_ge r (2 * f.binade) with h | h
    · exact ⟨0, r, .inl rfl, h, by rw [Nat.zero_mul, Nat.zero_add]⟩
    · have hpos := binade_pos f
      have hd := Nat.div_add_mod r f.binade
      have hm := Nat.mod_lt r hpos
      have hq : 2 ≤ r / f.binade := (Nat.le_div_iff_mul_le hpos).2 h
      refine ⟨r / f.binade - 1, f.binade + r % f.binade, .inr (by omega), by omega, ?_⟩
      obtain ⟨q, hq2⟩ : ∃ q, r / f.binade = q + 1 := ⟨r / f.binade - 1, by omega⟩
      rw [hq2] at hd ⊢
      rw [Nat.mul_add, Nat.mul_one, Nat.mul_comm] at hd
      rw [Nat.add_sub_cancel]
      omega
  have h1 : mu f r = k * 2 ^ e := by rw [hr']; exact mu_stair f e k he (by omega)
  have h2 : mu f (r + 1) = (k + 1) * 2 ^ e := by
    rw [hr', Nat.add_assoc]
    exact mu_stair f e (k + 1) (by omega) (by omega)
  have h3 : kA ≤ k := by
    rcases he with h | h
    · subst h
      omega
    · omega
  rw [h1, h2, Nat.mul_right_comm, Nat.mul_right_comm k]
  refine Nat.mul_le_mul_right _ ?_
  rw [kAB, Nat.mul_add, Nat.add_mul]
  omega
/-- a number that is rounded lies one rounding away; it is not greater than a number of the format that the exact one does not exceed -/
theorem near_round (f : Format) (hf : kA ≤ f.binade) (mag : Nat) (place B : Int) (h1 : B ≤ place) (h2 : B ≤ f.leastPlace) (r0 : Nat) (hr0 : r0 < f.infRung)
    (hlo : kA * 2 ^ (f.leastPlace - B).toNat ≤ mag * 2 ^ (place - B).toNat) (hhi : mag * 2 ^ (place - B).toNat ≤ mu f r0 * 2 ^ (f.leastPlace - B).toNat) :
    rungTo f mag place ≤ r0 ∧ Nr 1 (mag * 2 ^ (place - B).toNat) (mu f (rungTo f mag place) * 2 ^ (f.leastPlace - B).toNat) := by
  have hle : rungTo f mag place ≤ r0 := rungTo_mono f mag place B r0 h1 h2 hhi
  refine ⟨hle, ?_⟩
  have hL : 0 < 2 ^ (f.leastPlace - B).toNat := Nat.two_pow_pos _
  have hka : mu f kA = kA := mu_small f hf
  have hge : kA ≤ rungTo f mag place := by
    rcases Nat.lt_or_ge r0 kA with h | h
    · exfalso
      have a1 := mu_mono f h
      rw [hka] at a1
      have a2 := Nat.mul_lt_mul_of_pos_right a1 hL
      omega
    · exact rungTo_low f mag place B kA h1 h2 (by omega) (by rw [hka]; exact hlo)
  have hup : mag * 2 ^ (place - B).toNat < mu f (rungTo f mag place + 1) * 2 ^ (f.leastPlace - B).toNat := by
    rcases Nat.lt_or_ge (mag * 2 ^ (place - B).toNat) (mu f (rungTo f mag place + 1) * 2 ^ (f.leastPlace - B).toNat) with h | h
    · exact h
    · have := rungTo_low f mag place B (rungTo f mag place + 1) h1 h2 (by omega) h
      omega
  have hn := mu_near f hf _ hge
  refine Nr.one ?_ ?_
  · have a1 := Nat.mul_le_mul_right (2 ^ (f.leastPlace - B).toNat) hn
    rw [Nat.mul_right_comm, Nat.mul_right_comm (mu f (rungTo f mag place))] at a1
    exact Nat.le_trans (Nat.mul_le_mul_right _ (Nat.le_of_lt hup)) a1
  · obtain ⟨s, hs⟩ : ∃ s, rungTo f mag place = s + 1 := ⟨rungTo f mag place - 1, by have := kA_pos; omega⟩
    rw [hs] at hge ⊢
    have hlt : mu f s * 2 ^ (f.leastPlace - B).toNat < mag * 2 ^ (place - B).toNat := by
      rcases Nat.lt_or_ge (mu f s * 2 ^ (f.leastPlace - B).toNat) (mag * 2 ^ (place - B).toNat) with h | h
      · exact h
      · have := rungTo_mono f mag place B s h1 h2 h
        omega
    rcases Nat.lt_or_ge s kA with h | h
    · have e : s + 1 = kA := by omega
      rw [e, hka]
      exact Nat.mul_le_mul hlo (by decide)
    · have a1 := Nat.mul_le_mul_right (2 ^ (f.leastPlace - B).toNat) (mu_near f hf _ h)
      rw [Nat.mul_right_comm, Nat.mul_right_comm (mu f s)] at a1
      exact Nat.le_trans a1 (Nat.mul_le_mul_right _ (Nat.le_of_lt hlt))
/-- a small number is a number of the format -/
theorem exact_round (f : Format) (mag : Nat) (place : Int) (h1 : f.leastPlace ≤ place) (h : mag * 2 ^ (place - f.leastPlace).toNat ≤ f.binade) (hi : f.binade ≤ f.infRung) : mu f (rungTo f mag place) = mag * 2 ^ (place - f.leastPlace).toNat := by
  have hm := mu_small f h
  rw [rungTo_exact f mag place f.leastPlace (mag * 2 ^ (place - f.leastPlace).toNat) h1 (Int.le_refl _) (Nat.le_trans h hi) (by rw [hm, Int.sub_self, Int.toNat_zero, Nat.pow_zero, Nat.mul_one]), hm]
end Go.Proofs.Ytlhepgdheopgaaa

namespace Go.Proofs.Ytlhepgdheopgaaa
open Go Ieee

/-- how many least units a number has, in whatever format -/
def gval (f : Format) (x : Nat) : Nat := mu f (rungOf f x)
theorem val_gval (x : Nat) : val x = gval single x := rfl
/-- finite, and not less than 0 -/
def NN (f : Format) (x : Nat) : Prop := isFin f x = true ∧ 0 ≤ key f x
def gadd (f : Format) (x y : Nat) : Nat := (f.add x y).getD 0
def gsub (f : Format) (x y : Nat) : Nat := (f.sub x y).getD 0
def gmul (f : Format) (x y : Nat) : Nat := (f.mul x y).getD 0
theorem fadd_g (x y : Nat) : fadd x y = gadd single x y := rfl
theorem fsub_g (x y : Nat) : fsub x y = gsub single x y := rfl
theorem fmul_g (x y : Nat) : fmul x y = gmul single x y := rfl
theorem gkey_val {f : Format} {x r : Nat} (h : key f x = (r : Int)) : gval f x = mu f r ∧ rungOf f x = r := by
  have : rungOf f x = r := by
    unfold key at h
    split at h <;> omega
  exact ⟨by unfold gval; rw [this], this⟩
theorem nn_key {f : Format} (he : 1 ≤ f.exponentBits) {x r : Nat} (h : key f x = (r : Int)) (hr : r < f.infRung) : NN f x :=
  ⟨(fin_iff f he x).2 (by rw [(gkey_val h).2]; exact hr), by omega⟩
theorem nn_rung {f : Format} {x : Nat} (h : NN f x) : key f x = (rungOf f x : Int) := by
  have := h.2
  unfold key at *
  split
  · rename_i hn
    rw [if_pos hn] at this
    omega
  · rfl
theorem gval_le {f : Format} {x y : Nat} (hx : NN f x) (hy : NN f y) : gval f x ≤ gval f y ↔ key f x ≤ key f y := by
  unfold gval
  rw [mu_le_iff, nn_rung hx, nn_rung hy]
  omega
/-- what is rounded by a sum -/
theorem gadd_mag {f : Format} (he : 1 ≤ f.exponentBits) {x y : Nat} (hx : NN f x) (hy : NN f y) :
    ∃ mag place, f.leastPlace ≤ place ∧ mag * 2 ^ (place - f.leastPlace).toNat = gval f x + gval f y ∧ key f (gadd f x y) = rungTo f mag place := by
  obtain ⟨t, n, j, hq, ht, hlj, hn, hk2⟩ := read_nn he hy.1 hy.2
  obtain ⟨s, m, i, hr, hs, hli, hm, hk⟩ := read_nn he hx.1 hx.2
  have hadd : f.add x y = some (f.nearest (if signed s m (i - min i j).toNat + signed t n (j - min i j).toNat = 0 then s && t else decide (signed s m (i - min i j).toNat + signed t n (j - min i j).toNat < 0)) (signed s m (i - min i j).toNat + signed t n (j - min i j).toNat).natAbs (min i j)) := by
    unfold Format.add
    rw [hr, hq]
    rfl
  have hv := congrArg (fun o => Option.getD o 0) hadd
  change gadd f x y = _ at hv
  simp only [Option.getD_some] at hv
  rw [signed_nn hs, signed_nn ht] at hv
  have e1 : (i - f.leastPlace).toNat = (i - min i j).toNat + (min i j - f.leastPlace).toNat := by omega
  have e2 : (j - f.leastPlace).toNat = (j - min i j).toNat + (min i j - f.leastPlace).toNat := by omega
  rw [e1, mul_pow_add] at hm
  rw [e2, mul_pow_add] at hn
  generalize m * 2 ^ (i - min i j).toNat = a at *
  generalize n * 2 ^ (j - min i j).toNat = b at *
  have hmag : ((a : Int) + (b : Int)).natAbs = a + b := by omega
  rw [hmag] at hv
  have hkey := key_nearest f (if ((a : Int) + (b : Int)) = 0 then s && t else decide (((a : Int) + (b : Int)) < 0)) (a + b) (min i j)
  rw [← hv] at hkey
  have hsgn : (if ((a : Int) + (b : Int)) = 0 then s && t else decide (((a : Int) + (b : Int)) < 0)) = false ∨ rungTo f (a + b) (min i j) = 0 := by
    by_cases h0 : ((a : Int) + (b : Int)) = 0
    · right
      have : a + b = 0 := by omega
      rw [this]
      rfl
    · left
      rw [if_neg h0]
      exact decide_eq_false (by omega)
  refine ⟨a + b, min i j, by omega, by rw [Nat.add_mul, hm, hn]; rfl, ?_⟩
  rw [hkey]
  rcases hsgn with h | h
  · rw [h]; rfl
  · rw [h]; simp
/-- what is rounded by a difference -/
theorem gsub_mag {f : Format} (he : 1 ≤ f.exponentBits) {x y : Nat} (hx : NN f x) (hy : NN f y) :
    ∃ mag place, f.leastPlace ≤ place ∧ mag * 2 ^ (place - f.leastPlace).toNat = ((gval f x : Int) - (gval f y : Int)).natAbs ∧ (key f (gsub f x y)).natAbs = rungTo f mag place ∧ (gval f y ≤ gval f x → 0 ≤ key f (gsub f x y)) := by
  obtain ⟨t, n, j, hq, ht, hlj, hn, hk2⟩ := read_nn he hy.1 hy.2
  obtain ⟨s, m, i, hr, hs, hli, hm, hk⟩ := read_nn he hx.1 hx.2
  have hadd : f.sub x y = some (f.nearest (if signed s m (i - min i j).toNat + signed (!t) n (j - min i j).toNat = 0 then s && !t else decide (signed s m (i - min i j).toNat + signed (!t) n (j - min i j).toNat < 0)) (signed s m (i - min i j).toNat + signed (!t) n (j - min i j).toNat).natAbs (min i j)) := by
    unfold Format.sub
    rw [hr, hq]
    rfl
  have hv := congrArg (fun o => Option.getD o 0) hadd
  change gsub f x y = _ at hv
  simp only [Option.getD_some] at hv
  rw [signed_nn hs, signed_opp ht] at hv
  have e1 : (i - f.leastPlace).toNat = (i - min i j).toNat + (min i j - f.leastPlace).toNat := by omega
  have e2 : (j - f.leastPlace).toNat = (j - min i j).toNat + (min i j - f.leastPlace).toNat := by omega
  rw [e1, mul_pow_add] at hm
  rw [e2, mul_pow_add] at hn
  generalize m * 2 ^ (i - min i j).toNat = a at *
  generalize n * 2 ^ (j - min i j).toNat = b at *
  have hx' : gval f x = a * 2 ^ (min i j - f.leastPlace).toNat := hm.symm
  have hy' : gval f y = b * 2 ^ (min i j - f.leastPlace).toNat := hn.symm
  have hP : 0 < 2 ^ (min i j - f.leastPlace).toNat := Nat.two_pow_pos _
  have hkey := key_nearest f (if ((a : Int) + -(b : Int)) = 0 then s && !t else decide (((a : Int) + -(b : Int)) < 0)) ((a : Int) + -(b : Int)).natAbs (min i j)
  rw [← hv] at hkey
  refine ⟨((a : Int) + -(b : Int)).natAbs, min i j, by omega, ?_, ?_, fun hle => ?_⟩
  · rw [hx', hy']
    rcases Nat.le_total b a with h | h
    · obtain ⟨c, rfl⟩ := Nat.exists_eq_add_of_le h
      rw [Nat.add_mul]
      generalize b * 2 ^ (min i j - f.leastPlace).toNat = bp
      have e3 : (((b + c : Nat) : Int) + -(b : Int)).natAbs = c := by omega
      rw [e3]
      generalize c * 2 ^ (min i j - f.leastPlace).toNat = cp
      omega
    · obtain ⟨c, rfl⟩ := Nat.exists_eq_add_of_le h
      rw [Nat.add_mul]
      generalize a * 2 ^ (min i j - f.leastPlace).toNat = ap
      have e3 : ((a : Int) + -((a + c : Nat) : Int)).natAbs = c := by omega
      rw [e3]
      generalize c * 2 ^ (min i j - f.leastPlace).toNat = cp
      omega
  · rw [hkey]
    split <;> omega
  · rw [hx', hy'] at hle
    have hab := Nat.le_of_mul_le_mul_right hle hP
    rw [hkey]
    by_cases h0 : ((a : Int) + -(b : Int)) = 0
    · have e3 : ((a : Int) + -(b : Int)).natAbs = 0 := by omega
      rw [e3]
      have e4 : rungTo f 0 (min i j) = 0 := rfl
      rw [e4]
      split <;> omega
    · rw [if_neg h0]
      have : decide (((a : Int) + -(b : Int)) < 0) = false := decide_eq_false (by omega)
      rw [this]
      simp
/-- what is rounded by a product -/
theorem gmul_mag {f : Format} (he : 1 ≤ f.exponentBits) {x y : Nat} (hx : NN f x) (hy : NN f y) :
    ∃ mag place, f.leastPlace + f.leastPlace ≤ place ∧ mag * 2 ^ (place - (f.leastPlace + f.leastPlace)).toNat = gval f x * gval f y ∧ key f (gmul f x y) = rungTo f mag place := by
  obtain ⟨t, n, j, hq, ht, hlj, hn, hk2⟩ := read_nn he hy.1 hy.2
  obtain ⟨s, m, i, hr, hs, hli, hm, hk⟩ := read_nn he hx.1 hx.2
  have hmul : f.mul x y = some (f.nearest (s ^^ t) (m * n) (i + j)) := by
    unfold Format.mul
    rw [hr, hq]
    rfl
  have hv := congrArg (fun o => Option.getD o 0) hmul
  change gmul f x y = _ at hv
  simp only [Option.getD_some] at hv
  have hkey := key_nearest f (s ^^ t) (m * n) (i + j)
  rw [← hv] at hkey
  have hsgn : (s ^^ t) = false ∨ rungTo f (m * n) (i + j) = 0 := by
    rcases hs with rfl | rfl
    · rcases ht with rfl | rfl
      · exact .inl rfl
      · right; rw [Nat.mul_zero]; rfl
    · right; rw [Nat.zero_mul]; rfl
  refine ⟨m * n, i + j, by omega, ?_, ?_⟩
  · have e1 : (i + j - (f.leastPlace + f.leastPlace)).toNat = (i - f.leastPlace).toNat + (j - f.leastPlace).toNat := by omega
    rw [e1, Nat.pow_add, Nat.mul_mul_mul_comm, hm, hn]
    rfl
  · rw [hkey]
    rcases hsgn with h | h
    · rw [h]; rfl
    · rw [h]; simp

/-! ### single -/
/-- the units of 1, of a great number, of a ratio that is great -/
def uE : Nat := 2 ^ 149
def uT : Nat := 2 ^ 220
def uF : Nat := 2 ^ 70
theorem uE_pos : 0 < uE := by decide
theorem sA : kA ≤ single.binade := by decide +kernel
theorem sE : 1 ≤ single.exponentBits := by decide
theorem sI : single.binade ≤ single.infRung := by decide +kernel
theorem mu_top : mu single 1660944384 = uT := by decide +kernel
theorem top_lt : 1660944384 < single.infRung := by decide +kernel
theorem add_near {x y : Nat} (hx : NN single x) (hy : NN single y) (h : val x + val y ≤ uT) : NN single (fadd x y) ∧ Nr 1 (val x + val y) (val (fadd x y)) := by
  obtain ⟨mag, place, h1, h2, h3⟩ := gadd_mag sE hx hy
  have hv : val (fadd x y) = mu single (rungTo single mag place) := (gkey_val h3).1
  have e0 : (single.leastPlace - single.leastPlace).toNat = 0 := by omega
  rw [hv]
  rcases Nat.le_total (mag * 2 ^ (place - single.leastPlace).toNat) single.binade with hs | hs
  · have e := exact_round single mag place h1 hs sI
    rw [e, h2]
    refine ⟨nn_key sE h3 ?_, Nr.refl _ _⟩
    have : mu single (rungTo single mag place) ≤ mu single 1660944384 := by rw [e, h2, mu_top]; exact h
    exact Nat.lt_of_le_of_lt ((mu_le_iff single _ _).1 this) top_lt
  · obtain ⟨g1, g2⟩ := near_round single sA mag place single.leastPlace h1 (Int.le_refl _) 1660944384 top_lt (by rw [e0, Nat.pow_zero, Nat.mul_one]; exact Nat.le_trans sA hs) (by rw [e0, Nat.pow_zero, Nat.mul_one, mu_top, h2]; exact h)
    rw [e0, Nat.pow_zero, Nat.mul_one, h2] at g2
    exact ⟨nn_key sE h3 (Nat.lt_of_le_of_lt g1 top_lt), g2⟩
theorem sub_near {x y : Nat} (hx : NN single x) (hy : NN single y) (h : val y ≤ val x) (ht : val x ≤ uT) : NN single (fsub x y) ∧ Nr 1 (val x - val y) (val (fsub x y)) := by
  obtain ⟨mag, place, h1, h2, h3, h4⟩ := gsub_mag sE hx hy
  have h4' := h4 h
  have h5 : key single (gsub single x y) = (rungTo single mag place : Int) := by omega
  have h2' : mag * 2 ^ (place - single.leastPlace).toNat = val x - val y := by
    rw [h2, ← val_gval, ← val_gval]
    omega
  have hv : val (fsub x y) = mu single (rungTo single mag place) := (gkey_val h5).1
  have e0 : (single.leastPlace - single.leastPlace).toNat = 0 := by omega
  rw [hv]
  rcases Nat.le_total (mag * 2 ^ (place - single.leastPlace).toNat) single.binade with hs | hs
  · have e := exact_round single mag place h1 hs sI
    rw [e, h2']
    refine ⟨nn_key sE h5 ?_, Nr.refl _ _⟩
    have : mu single (rungTo single mag place) ≤ mu single 1660944384 := by rw [e, h2', mu_top]; omega
    exact Nat.lt_of_le_of_lt ((mu_le_iff single _ _).1 this) top_lt
  · obtain ⟨g1, g2⟩ := near_round single sA mag place single.leastPlace h1 (Int.le_refl _) 1660944384 top_lt (by rw [e0, Nat.pow_zero, Nat.mul_one]; exact Nat.le_trans sA hs) (by rw [e0, Nat.pow_zero, Nat.mul_one, mu_top, h2']; omega)
    rw [e0, Nat.pow_zero, Nat.mul_one, h2'] at g2
    exact ⟨nn_key sE h5 (Nat.lt_of_le_of_lt g1 top_lt), g2⟩
/-- a difference in whatever format is not greater than a number that the exact one does not exceed -/
theorem gsub_below {f : Format} (he : 1 ≤ f.exponentBits) {x y r : Nat} (hx : NN f x) (hy : NN f y) (h : ((gval f x : Int) - (gval f y : Int)).natAbs ≤ mu f r) : (key f (gsub f x y)).natAbs ≤ r := by
  obtain ⟨mag, place, h1, h2, h3, -⟩ := gsub_mag he hx hy
  rw [h3]
  refine rungTo_mono f mag place f.leastPlace r h1 (Int.le_refl _) ?_
  rw [Int.sub_self, Int.toNat_zero, Nat.pow_zero, Nat.mul_one, h2]
  exact h
theorem mul_near {x y : Nat} (hx : NN single x) (hy : NN single y) (hlo : kA * uE ≤ val x * val y) (hhi : val x * val y ≤ uT * uE) : NN single (fmul x y) ∧ Nr 1 (val x * val y) (val (fmul x y) * uE) := by
  obtain ⟨mag, place, h1, h2, h3⟩ := gmul_mag sE hx hy
  have hv : val (fmul x y) = mu single (rungTo single mag place) := (gkey_val h3).1
  have hlp := least_lit
  have e0 : 2 ^ (single.leastPlace - (single.leastPlace + single.leastPlace)).toNat = uE := by
    rw [show (single.leastPlace - (single.leastPlace + single.leastPlace)).toNat = 149 by omega]
    rfl
  obtain ⟨g1, g2⟩ := near_round single sA mag place (single.leastPlace + single.leastPlace) h1 (by omega) 1660944384 top_lt (by rw [e0, h2]; exact hlo) (by rw [e0, mu_top, h2]; exact hhi)
  rw [e0, h2] at g2
  rw [hv]
  exact ⟨nn_key sE h3 (Nat.lt_of_le_of_lt g1 top_lt), g2⟩
theorem quot_near {D n : Nat} (hn : 0 < n) (hq : kA * n ≤ D) : Nr 1 (2 * D) ((2 * (D / n) + (D % n != 0).toNat) * n) ∧ 2 * D ≤ (2 * (D / n) + (D % n != 0).toNat) * n * 2 ∧ (2 * (D / n) + (D % n != 0).toNat) * n ≤ 2 * (2 * D) := by
  have hd := Nat.div_add_mod D n
  have hm := Nat.mod_lt D hn
  have hq2 : kA ≤ D / n := (Nat.le_div_iff_mul_le hn).2 hq
  generalize D / n = q at *
  generalize hr : D % n = r at *
  have hqn : kA * n ≤ n * q := by rw [Nat.mul_comm]; exact Nat.mul_le_mul_left _ hq2
  have hn1 : n ≤ n * q := Nat.le_mul_of_pos_right _ (by have := kA_pos; omega)
  by_cases h0 : r = 0
  · subst h0
    have e1 : (2 * q + (0 != 0).toNat) * n = 2 * D := by
      have : ((0 : Nat) != 0).toNat = 0 := rfl
      rw [this, Nat.add_zero, Nat.mul_assoc, Nat.mul_comm q]
      omega
    rw [e1]
    exact ⟨Nr.refl _ _, by omega, by omega⟩
  · have h3 : (r != 0).toNat = 1 := by simp [h0]
    have e1 : (2 * q + (r != 0).toNat) * n = 2 * (n * q) + n := by
      rw [h3, Nat.add_mul, Nat.one_mul, Nat.mul_assoc, Nat.mul_comm q]
    rw [e1, ← hd]
    generalize n * q = Q at *
    refine ⟨Nr.one ?_ ?_, by omega, by omega⟩
    · rw [kAB, Nat.mul_add, Nat.mul_add (2 * Q + n), Nat.mul_one, Nat.add_mul, Nat.add_mul (2 * Q)]
      have a1 : 2 * r * kA ≤ 2 * (n * kA) := by rw [Nat.mul_assoc]; exact Nat.mul_le_mul_left _ (Nat.mul_le_mul_right _ (by omega))
      rw [Nat.mul_comm] at hqn
      generalize n * kA = nk at *
      generalize 2 * Q * kA = Qk at *
      omega
    · rw [kAB, Nat.mul_add 2, Nat.mul_add (2 * Q + 2 * r), Nat.mul_one, Nat.add_mul, Nat.add_mul (2 * Q)]
      rw [Nat.mul_comm] at hqn
      generalize n * kA = nk at *
      generalize 2 * Q * kA = Qk at *
      generalize 2 * r * kA = rk at *
      omega
theorem div_near {x y : Nat} (hx : NN single x) (hy : NN single y) (hlo : 2 * kA * val y ≤ val x * uE) (hhi : val x ≤ val y * uF) (hx0 : 0 < val x) :
    NN single (fdiv x y) ∧ Nr 2 (val x * uE) (val (fdiv x y) * val y) := by
  have hy0 : 0 < val y := by
    rcases Nat.eq_zero_or_pos (val y) with h | h
    · rw [h, Nat.zero_mul] at hhi; omega
    · exact h
  obtain ⟨s, m, e, h1, hs, h2, h3, -⟩ := read_nn sE hx.1 hx.2
  obtain ⟨t, n, j, g1, ht, g2, g3, -⟩ := read_nn sE hy.1 hy.2
  have hvx : m * 2 ^ (e - single.leastPlace).toNat = val x := h3
  have hvy : n * 2 ^ (j - single.leastPlace).toNat = val y := g3
  have hm0 : 0 < m := by
    rcases Nat.eq_zero_or_pos m with h | h
    · rw [h, Nat.zero_mul] at hvx; omega
    · exact h
  have hn0 : 0 < n := by
    rcases Nat.eq_zero_or_pos n with h | h
    · rw [h, Nat.zero_mul] at hvy; omega
    · exact h
  have hs' : s = false := by rcases hs with h | h; · exact h
                             · omega
  have ht' : t = false := by rcases ht with h | h; · exact h
                             · omega
  subst hs' ht'
  have hlp : single.leastPlace = -149 := least_lit
  rw [hlp] at h2 g2 hvx hvy
  obtain ⟨I, hI⟩ : ∃ I : Nat, e = (I : Int) - 149 := ⟨(e + 149).toNat, by omega⟩
  obtain ⟨J, hJ⟩ : ∃ J : Nat, j = (J : Int) - 149 := ⟨(j + 149).toNat, by omega⟩
  rw [show (e - -149).toNat = I by omega] at hvx
  rw [show (j - -149).toNat = J by omega] at hvy
  have hv : fdiv x y = single.word false (rungTo single (2 * (m <<< (25 + n.log2 - m.log2) / n) + (m <<< (25 + n.log2 - m.log2) % n != 0).toNat) (e - j - (25 + n.log2 - m.log2 : Nat) - 1)) := by
    unfold fdiv Format.div
    rw [h1, g1]
    show Option.getD (Option.map single.write (if n = 0 then if m = 0 then none else some (.infinity (false ^^ false)) else some (.number (false ^^ false) (2 * (m <<< (25 + n.log2 - m.log2) / n) + (m <<< (25 + n.log2 - m.log2) % n != 0).toNat) (e - j - (25 + n.log2 - m.log2 : Nat) - 1)))) 0 = _
    rw [if_neg (by omega)]
    show single.nearest (false ^^ false) _ _ = _
    rw [nearest_eq]
    rfl
  rw [Nat.shiftLeft_eq] at hv
  have hmore : kA * n ≤ m * 2 ^ (25 + n.log2 - m.log2) := by
    have a1 : 2 ^ m.log2 ≤ m := Nat.log2_self_le (by omega)
    have a2 : n < 2 ^ (n.log2 + 1) := Nat.lt_log2_self
    have a3 : 2 ^ (25 + n.log2) ≤ 2 ^ (m.log2 + (25 + n.log2 - m.log2)) := Nat.pow_le_pow_right (by decide) (by omega)
    rw [Nat.pow_add 2 m.log2] at a3
    have a4 : 2 ^ m.log2 * 2 ^ (25 + n.log2 - m.log2) ≤ m * 2 ^ (25 + n.log2 - m.log2) := Nat.mul_le_mul_right _ a1
    have a5 : kA * n ≤ 2 ^ 23 * 2 ^ (n.log2 + 1) := Nat.mul_le_mul (by decide) (Nat.le_of_lt a2)
    rw [← Nat.pow_add] at a5
    have a6 : 2 ^ (23 + (n.log2 + 1)) ≤ 2 ^ (25 + n.log2) := Nat.pow_le_pow_right (by decide) (by omega)
    omega
  generalize 25 + n.log2 - m.log2 = more at *
  obtain ⟨q1, q2, q3⟩ := quot_near hn0 hmore
  generalize (2 * (m * 2 ^ more / n) + (m * 2 ^ more % n != 0).toNat) = M at *
  have hkey := key_word single false (rungTo_le single M (e - j - (more : Nat) - 1))
  rw [← hv] at hkey
  simp only [Bool.false_eq_true, if_false] at hkey
  have hvq : val (fdiv x y) = mu single (rungTo single M (e - j - (more : Nat) - 1)) := (gkey_val hkey).1
  have e1 : (single.leastPlace - (-149 - ((J + more + 1 : Nat) : Int))).toNat = J + more + 1 := by omega
  have e2 : (e - j - (more : Nat) - 1 - (-149 - ((J + more + 1 : Nat) : Int))).toNat = I + 149 := by omega
  have p2 : 0 < 2 ^ (more + 1) := Nat.two_pow_pos _
  obtain ⟨W, hW⟩ : ∃ W, 2 ^ (I + 149) = W := ⟨_, rfl⟩
  obtain ⟨V, hV⟩ : ∃ V, 2 ^ (J + more + 1) = V := ⟨_, rfl⟩
  obtain ⟨U, hU⟩ : ∃ U, 2 ^ (more + 1) = U := ⟨_, rfl⟩
  have hWI : W = 2 ^ I * uE := by rw [← hW, Nat.pow_add]; rfl
  have hU2 : U = 2 ^ more * 2 := by rw [← hU, Nat.pow_succ]
  have hVJ : V = 2 ^ J * U := by rw [← hV, ← hU, Nat.add_assoc, Nat.pow_add]
  rw [hU] at p2
  -- the exact quotient, times n
  have ex : 2 * (m * 2 ^ more) * W = val x * uE * U := by
    rw [hWI, hU2, ← hvx]
    generalize 2 ^ more = a
    generalize 2 ^ I = b
    ac_rfl
  have ey : ∀ z : Nat, z * V * n = z * val y * U := fun z => by
    rw [hVJ, ← hvy]
    generalize 2 ^ J = b
    ac_rfl
  clear hWI hU2 hVJ hvx hvy
  have hlo' : kA * V ≤ M * W := by
    have a1 := Nat.mul_le_mul_right W q2
    rw [ex] at a1
    have a2 := Nat.mul_le_mul_right U hlo
    have a3 : 2 * kA * val y * U = kA * V * (n * 2) := by
      rw [← Nat.mul_assoc, ey kA]
      generalize val y = b
      generalize kA = a
      ac_rfl
    have a4 : M * n * 2 * W = M * W * (n * 2) := by
      generalize M = a
      ac_rfl
    rw [a3] at a2
    rw [a4] at a1
    exact Nat.le_of_mul_le_mul_right (Nat.le_trans a2 a1) (by omega)
  have hhi' : M * W ≤ mu single 1660944384 * V := by
    rw [mu_top]
    have a1 := Nat.mul_le_mul_right W q3
    have a2 : 2 * (2 * (m * 2 ^ more)) * W = 2 * (val x * uE * U) := by rw [Nat.mul_assoc 2, ex]
    rw [a2] at a1
    have a3 : val x * uE * U ≤ val y * uF * uE * U := Nat.mul_le_mul_right _ (Nat.mul_le_mul_right _ hhi)
    have a4 : 2 * (val y * uF * uE * U) = 2 * uF * uE * (val y * U) := by
      generalize uE = E
      generalize uF = F
      ac_rfl
    have a5 : 2 * uF * uE * (val y * U) ≤ uT * (val y * U) := Nat.mul_le_mul_right _ (by decide)
    have a6 : uT * V * n = uT * (val y * U) := by rw [ey, Nat.mul_assoc]
    have a7 : M * n * W = M * W * n := Nat.mul_right_comm _ _ _
    rw [a7] at a1
    refine Nat.le_of_mul_le_mul_right (c := n) ?_ hn0
    rw [a6]
    exact Nat.le_trans a1 (Nat.le_trans (Nat.mul_le_mul_left 2 a3) (by rw [a4]; exact a5))
  obtain ⟨r1, r2⟩ := near_round single sA M (e - j - (more : Nat) - 1) (-149 - ((J + more + 1 : Nat) : Int)) (by omega) (by omega) 1660944384 top_lt (by rw [e1, e2, hW, hV]; exact hlo') (by rw [e1, e2, hW, hV]; exact hhi')
  rw [e1, e2, ← hvq, hW, hV] at r2
  refine ⟨nn_key sE hkey (Nat.lt_of_le_of_lt r1 top_lt), ?_⟩
  have r3 := r2.scale n
  rw [ey] at r3
  have q4 := q1.scale W
  rw [ex] at q4
  have e6 : M * n * W = M * W * n := Nat.mul_right_comm _ _ _
  rw [e6] at q4
  exact (q4.trans r3).cancel p2
end Go.Proofs.Ytlhepgdheopgaaa

namespace Go.Proofs.Ytlhepgdheopgaaa
open Go Ieee

theorem Nr.sum {k : Nat} {f g : Nat → Nat} : ∀ n, (∀ i, i < n → Nr k (f i) (g i)) → Nr k (sumN f n) (sumN g n) := by
  intro n
  induction n with
  | zero => intro _; exact Nr.refl _ _
  | succ n ih => intro h; exact (ih fun i hi => h i (by omega)).add (h n (by omega))
theorem Nr.twice {k X Y : Nat} (h : Nr k X Y) (hk : 2 * k ≤ kA) : Y ≤ 2 * X := by
  have h1 := (h.gap hk).2
  have h2 : X * (2 * k) ≤ X * kA := Nat.mul_le_mul_left _ hk
  refine Nat.le_of_mul_le_mul_right (c := kA) ?_ kA_pos
  rw [Nat.mul_assoc 2]
  omega
/-- between a part of 1 and a multiple of 1 -/
def Bd (c d v : Nat) : Prop := uE ≤ c * v ∧ v ≤ d * uE
theorem Bd.more {c d c' d' v : Nat} (h : Bd c d v) (hc : c ≤ c') (hd : d ≤ d') : Bd c' d' v := ⟨Nat.le_trans h.1 (Nat.mul_le_mul_right _ hc), Nat.le_trans h.2 (Nat.mul_le_mul_right _ hd)⟩
theorem Nr.bd {k c d X Y : Nat} (h : Nr k X Y) (hk : 2 * k ≤ kA) (hb : Bd c d X) : Bd (2 * c) (2 * d) Y := by
  have h1 := h.twice hk
  have h2 := h.symm.twice hk
  obtain ⟨b1, b2⟩ := hb
  have h3 := Nat.mul_le_mul_left c h2
  rw [← Nat.mul_assoc, Nat.mul_comm c 2] at h3
  refine ⟨Nat.le_trans b1 h3, ?_⟩
  rw [Nat.mul_assoc]
  omega
theorem Bd.pos {c d v : Nat} (h : Bd c d v) : 0 < v := by
  rcases Nat.eq_zero_or_pos v with h0 | h0
  · have h1 := h.1
    rw [h0, Nat.mul_zero] at h1
    have := uE_pos
    omega
  · exact h0
theorem mul_bd {x y c1 d1 c2 d2 : Nat} (hx : NN single x) (hy : NN single y) (bx : Bd c1 d1 (val x)) (bY : Bd c2 d2 (val y)) (hc : c1 * c2 * kA ≤ uE) (hd : d1 * d2 * uE ≤ uT) :
    NN single (fmul x y) ∧ Nr 1 (val x * val y) (val (fmul x y) * uE) ∧ Bd (2 * (c1 * c2)) (2 * (d1 * d2)) (val (fmul x y)) := by
  have h1 : uE * uE ≤ c1 * c2 * (val x * val y) := by
    rw [Nat.mul_mul_mul_comm]
    exact Nat.mul_le_mul bx.1 bY.1
  have h2 : val x * val y ≤ d1 * d2 * (uE * uE) := by
    rw [Nat.mul_mul_mul_comm]
    exact Nat.mul_le_mul bx.2 bY.2
  have hcp : 0 < c1 * c2 := by
    rcases Nat.eq_zero_or_pos (c1 * c2) with h0 | h0
    · rw [h0, Nat.zero_mul] at h1
      have := Nat.mul_pos uE_pos uE_pos
      omega
    · exact h0
  have hlo : kA * uE ≤ val x * val y := by
    refine Nat.le_of_mul_le_mul_left (c := c1 * c2) ?_ hcp
    rw [← Nat.mul_assoc]
    exact Nat.le_trans (Nat.mul_le_mul_right _ hc) h1
  have hhi : val x * val y ≤ uT * uE := by
    rw [← Nat.mul_assoc] at h2
    exact Nat.le_trans h2 (Nat.mul_le_mul_right _ hd)
  obtain ⟨g1, g2⟩ := mul_near hx hy hlo hhi
  refine ⟨g1, g2, ?_, ?_⟩
  · have h3 := Nat.mul_le_mul_left (c1 * c2) (g2.symm.twice (by decide))
    refine Nat.le_of_mul_le_mul_right (c := uE) ?_ uE_pos
    refine Nat.le_trans h1 (Nat.le_trans h3 (Nat.le_of_eq ?_))
    generalize c1 * c2 = c
    ac_rfl
  · have h3 := g2.twice (by decide)
    refine Nat.le_of_mul_le_mul_right (c := uE) ?_ uE_pos
    refine Nat.le_trans h3 (Nat.le_trans (Nat.mul_le_mul_left 2 h2) (Nat.le_of_eq ?_))
    generalize d1 * d2 = d
    ac_rfl
theorem div_bd {x y c1 d1 c2 d2 : Nat} (hx : NN single x) (hy : NN single y) (bx : Bd c1 d1 (val x)) (bY : Bd c2 d2 (val y)) (hc : 2 * kA * (c1 * d2) ≤ uE) (hd : d1 * c2 ≤ uF) :
    NN single (fdiv x y) ∧ Nr 2 (val x * uE) (val (fdiv x y) * val y) ∧ Bd (2 * (c1 * d2)) (2 * (d1 * c2)) (val (fdiv x y)) := by
  have px := bx.pos
  have py := bY.pos
  have hcp : 0 < c1 := by
    rcases Nat.eq_zero_or_pos c1 with h0 | h0
    · have h1 := bx.1
      rw [h0, Nat.zero_mul] at h1
      have := uE_pos
      omega
    · exact h0
  have h1 : val y ≤ c1 * d2 * val x := by
    refine Nat.le_trans bY.2 ?_
    rw [Nat.mul_comm c1, Nat.mul_assoc]
    exact Nat.mul_le_mul_left _ bx.1
  have h2 : val x ≤ d1 * c2 * val y := by
    refine Nat.le_trans bx.2 ?_
    rw [Nat.mul_assoc]
    exact Nat.mul_le_mul_left _ bY.1
  have hlo : 2 * kA * val y ≤ val x * uE := by
    refine Nat.le_trans (Nat.mul_le_mul_left _ h1) ?_
    rw [← Nat.mul_assoc, Nat.mul_comm (val x)]
    exact Nat.mul_le_mul_right _ hc
  have hhi : val x ≤ val y * uF := by
    refine Nat.le_trans h2 ?_
    rw [Nat.mul_comm (val y)]
    exact Nat.mul_le_mul_right _ hd
  obtain ⟨g1, g2⟩ := div_near hx hy hlo hhi px
  refine ⟨g1, g2, ?_, ?_⟩
  · have h3 := g2.symm.twice (by decide)
    have h4 := Nat.mul_le_mul_right (val (fdiv x y)) h1
    refine Nat.le_of_mul_le_mul_left (c := val x) ?_ px
    refine Nat.le_trans h3 ?_
    rw [Nat.mul_comm (val (fdiv x y))]
    refine Nat.le_trans (Nat.mul_le_mul_left 2 h4) (Nat.le_of_eq ?_)
    generalize c1 * d2 = c
    ac_rfl
  · have h3 := g2.twice (by decide)
    have h4 := Nat.mul_le_mul_right uE h2
    refine Nat.le_of_mul_le_mul_right (c := val y) ?_ py
    refine Nat.le_trans h3 (Nat.le_trans (Nat.mul_le_mul_left 2 h4) (Nat.le_of_eq ?_))
    generalize d1 * c2 = c
    ac_rfl
theorem nn_zero : NN single 0 := ⟨by decide +kernel, by rw [key_zero]; exact Int.le_refl _⟩
theorem nn_one : NN single 1065353216 := ⟨one_fin, by rw [key_one]; decide⟩
theorem val_uE : val 1065353216 = uE := val_one
/-- a fold of roundings -/
theorem fold_near {D M : Nat → Nat} (hD0 : D 0 = 0) (n : Nat) (hn : n ≤ 12) (hS : ∀ i, i < n → D (i + 1) = fadd (D i) (M i)) (hM : ∀ i, i < n → NN single (M i)) (hT : 2 * sumN (fun i => val (M i)) n ≤ uT) :
    ∀ i, i ≤ n → NN single (D i) ∧ Nr i (sumN (fun j => val (M j)) i) (val (D i)) := by
  intro i
  induction i with
  | zero =>
    intro _
    rw [hD0, val_zero]
    exact ⟨nn_zero, Nr.refl _ _⟩
  | succ i ih =>
    intro hi
    obtain ⟨h1, h2⟩ := ih (by omega)
    have h3 := h2.twice (by have : (24 : Nat) ≤ kA := by decide
                            omega)
    have h4 : sumN (fun j => val (M j)) i + val (M i) ≤ sumN (fun j => val (M j)) n := sumN_mono (f := fun j => val (M j)) (m := i + 1) n hi
    obtain ⟨g1, g2⟩ := add_near h1 (hM i (by omega)) (by omega)
    rw [← hS i (by omega)] at g1 g2
    refine ⟨g1, ?_⟩
    have h5 : Nr i (sumN (fun j => val (M j)) (i + 1)) (val (D i) + val (M i)) := h2.add (Nr.refl i _)
    exact h5.trans g2
theorem nn_least {x : Nat} : leastB x = true ↔ NN single x := least_iff
theorem part_of {x : Nat} (h : NN single x) (hv : val x ≤ uE) : partB x = true := by
  have hn := fin_not_nan h.1
  have g := ge_key (f := single) (by decide) hn zero_notNan
  have l := le_key (f := single) (by decide) hn one_notNan
  rw [partB_eq]
  show ((single.order x 0 == some .gt || single.order x 0 == some .eq) && (single.order x 1065353216 == some .lt || single.order x 1065353216 == some .eq)) = true
  rw [g, l, key_zero, Bool.and_eq_true, decide_eq_true_eq, decide_eq_true_eq]
  exact ⟨h.2, (gval_le h nn_one).1 (by rw [← val_gval, ← val_gval, val_uE]; exact hv)⟩
/-- a chain whose rows sum to 1, but for so many roundings; its steps are not less than a part of 1 -/
structure Chn (c e n : Nat) (xs : List Nat) : Prop where
  low : 1 ≤ n
  top : n ≤ 12
  len : xs.length = n * n
  nn : ∀ i k, i < n → k < n → NN single (stepOf xs n i k)
  bd : ∀ i k, i < n → k < n → Bd c 1 (val (stepOf xs n i k))
  row : ∀ i, i < n → Nr e (sumN (fun k => val (stepOf xs n i k)) n) uE
theorem Chn.parts {c e n : Nat} {xs : List Nat} (h : Chn c e n xs) : xs.all partB = true := by
  rw [List.all_eq_true]
  intro x hx
  obtain ⟨j, hj, rfl⟩ := List.mem_iff_getElem.1 hx
  have hj' : j < n * n := by rw [← h.len]; exact hj
  have hn := h.low
  have h1 : j / n < n := (Nat.div_lt_iff_lt_mul (by omega)).2 hj'
  have h2 : j % n < n := Nat.mod_lt _ (by omega)
  have h3 : stepOf xs n (j / n) (j % n) = xs[j] := by
    unfold stepOf
    rw [Nat.mul_comm, Nat.div_add_mod, List.getD_eq_getElem?_getD, List.getElem?_eq_getElem hj]
    rfl
  rw [← h3]
  refine part_of (h.nn _ _ h1 h2) ?_
  have := (h.bd _ _ h1 h2).2
  rwa [Nat.one_mul] at this
theorem mu_thou : 400 * uE ≤ kA * mu single 981668463 := by decide +kernel
theorem near_one_gap {k s : Nat} (hs : NN single s) (h : Nr k (val s) uE) (hk : k ≤ 200) : (key single (fsub s 1065353216)).natAbs ≤ 981668463 := by
  rw [fsub_g]
  refine gsub_below sE hs nn_one ?_
  rw [← val_gval, ← val_gval, val_uE]
  obtain ⟨g1, g2⟩ := h.symm.gap (by have : (400 : Nat) ≤ kA := by decide
                                    omega)
  obtain ⟨-, g3⟩ := h.symm.gap (by have : (400 : Nat) ≤ kA := by decide
                                   omega)
  have g4 : uE * kA ≤ val s * kA + uE * (2 * k) := by
    have h1 := ne_lin (h.symm).1 (by have : (400 : Nat) ≤ kA := by decide
                                     omega)
    rcases Nat.le_total uE (val s) with hl | hl
    · exact Nat.le_trans (Nat.mul_le_mul_right _ hl) (Nat.le_add_right _ _)
    · refine Nat.le_trans g1 (Nat.add_le_add_left (Nat.mul_le_mul_right _ hl) _)
  have h400 : uE * (2 * k) ≤ kA * mu single 981668463 := by
    refine Nat.le_trans ?_ mu_thou
    rw [Nat.mul_comm]
    exact Nat.mul_le_mul_right _ (by omega)
  have hA := kA_pos
  clear h
  generalize mu single 981668463 = t at *
  generalize uE * (2 * k) = q at *
  generalize val s = v at *
  have h5 : ((v : Int) - (uE : Int)).natAbs * kA ≤ t * kA := by
    rcases Nat.le_total uE v with hl | hl
    · have e : ((v : Int) - (uE : Int)).natAbs = v - uE := by omega
      rw [e, Nat.sub_mul, Nat.mul_comm t]
      omega
    · have e : ((v : Int) - (uE : Int)).natAbs = uE - v := by omega
      rw [e, Nat.sub_mul, Nat.mul_comm t]
      omega
  exact Nat.le_of_mul_le_mul_right h5 hA
/-- the sum of a row -/
theorem Chn.fsum {c e n : Nat} {xs : List Nat} (h : Chn c e n xs) {i : Nat} (hi : i < n) : NN single (fsum (rowAt xs n i)) ∧ Nr (n + e) (val (Go.Proofs.Ytlhepgdheopgaaa.fsum (rowAt xs n i))) uE := by
  have hS : ∀ k, k < n → Go.Proofs.Ytlhepgdheopgaaa.fsum ((rowAt xs n i).take (k + 1)) = fadd (Go.Proofs.Ytlhepgdheopgaaa.fsum ((rowAt xs n i).take k)) (stepOf xs n i k) := by
    intro k hk
    have hkl : k < (rowAt xs n i).length := by rw [rowAt_len h.len hi]; exact hk
    rw [fsum_take_succ _ _ hkl, rowAt_get h.len hi hk hkl]
    unfold stepOf
    rw [List.getD_eq_getElem?_getD, List.getElem?_eq_getElem (by rw [h.len]; exact idx_lt hi hk)]
    rfl
  have hT : 2 * sumN (fun k => val (stepOf xs n i k)) n ≤ uT := by
    have h1 := sumN_le (g := fun _ => 1 * uE) n fun k hk => (h.bd i k hi hk).2
    rw [sumN_const] at h1
    have h2 : n * (1 * uE) ≤ 12 * (1 * uE) := Nat.mul_le_mul_right _ h.top
    have h3 : 2 * (12 * (1 * uE)) ≤ uT := by decide
    omega
  obtain ⟨g1, g2⟩ := fold_near (D := fun k => Go.Proofs.Ytlhepgdheopgaaa.fsum ((rowAt xs n i).take k)) (M := stepOf xs n i) rfl n h.top hS (fun k hk => h.nn i k hi hk) hT n (Nat.le_refl _)
  have hfull : (rowAt xs n i).take n = rowAt xs n i := by
    rw [List.take_of_length_le]
    rw [rowAt_len h.len hi]
    exact Nat.le_refl _
  have g1' : NN single (Go.Proofs.Ytlhepgdheopgaaa.fsum ((rowAt xs n i).take n)) := g1
  have g2' : Nr n _ (val (Go.Proofs.Ytlhepgdheopgaaa.fsum ((rowAt xs n i).take n))) := g2
  rw [hfull] at g1' g2'
  exact ⟨g1', g2'.symm.trans (h.row i hi)⟩
/-- it is valid -/
theorem Chn.valid {c e n : Nat} {xs : List Nat} (h : Chn c e n xs) (he : e ≤ 100) : validB n xs = true := by
  rw [validB_nat h.low h.top, h.parts, decide_eq_true h.len, Bool.true_and, Bool.true_and]
  unfold rowsOk
  rw [List.all_eq_true]
  intro i hi
  obtain ⟨g1, g2⟩ := h.fsum (List.mem_range.1 hi)
  have htop := h.top
  have := near_one_gap g1 g2 (by omega)
  unfold okSum
  exact decide_eq_true (by omega)
/-- a row of numbers that are neither great nor small -/
structure Rw (c d n : Nat) (row : List Nat) : Prop where
  len : row.length = n
  nn : ∀ i, i < n → NN single (rowOf row i)
  bd : ∀ i, i < n → Bd c d (val (rowOf row i))
theorem mem_rowOf {row : List Nat} {x : Nat} (hx : x ∈ row) : ∃ i, i < row.length ∧ rowOf row i = x := by
  obtain ⟨j, hj, rfl⟩ := List.mem_iff_getElem.1 hx
  refine ⟨j, hj, ?_⟩
  unfold rowOf
  rw [List.getD_eq_getElem?_getD, List.getElem?_eq_getElem hj]
  rfl
theorem Rw.least {c d n : Nat} {row : List Nat} (h : Rw c d n row) : row.all leastB = true := by
  rw [List.all_eq_true]
  intro x hx
  obtain ⟨i, hi, rfl⟩ := mem_rowOf hx
  exact nn_least.2 (h.nn i (by rw [← h.len]; exact hi))
theorem Rw.above {c d n : Nat} {row : List Nat} (h : Rw c d n row) : row.all aboveB = true := by
  rw [List.all_eq_true]
  intro x hx
  obtain ⟨i, hi, rfl⟩ := mem_rowOf hx
  have hi' : i < n := by rw [← h.len]; exact hi
  have hn := h.nn i hi'
  have hp := (h.bd i hi').pos
  have hk : 0 < key single (rowOf row i) := by
    rcases Int.lt_or_le 0 (key single (rowOf row i)) with h0 | h0
    · exact h0
    · exfalso
      have h1 := (gval_le hn nn_zero).2 (by rw [key_zero]; exact h0)
      rw [← val_gval, ← val_gval, val_zero] at h1
      omega
  unfold aboveB
  have := gt_key (f := single) (by decide) (fin_not_nan hn.1) zero_notNan
  rw [key_zero] at this
  show (single.order (rowOf row i) 0 == some .gt) = true
  rw [this]
  exact decide_eq_true hk
theorem Rw.rowB {c d n : Nat} {row : List Nat} (h : Rw c d n row) (h1 : 1 ≤ n) (h2 : n ≤ 12) : rowB row = true := by
  unfold Go.Proofs.Ytlhepgdheopgaaa.rowB
  rw [h.least, h.len, decide_eq_true h1, decide_eq_true h2]
  rfl
theorem fit_of {c e c' d n : Nat} {xs row : List Nat} (h : Chn c e n xs) (he : e ≤ 100) (hr : Rw c' d n row) : fitB n xs row = true := by
  unfold fitB
  rw [h.valid he, hr.rowB h.low h.top, hr.len]
  simp
theorem bk_of {c e c' d n : Nat} {xs row : List Nat} (h : Chn c e n xs) (he : e ≤ 100) (hr : Rw c' d n row) : bkB n xs row = true := by
  unfold bkB
  rw [fit_of h he hr, hr.above]
  rfl
theorem rowOf_step (xs row : List Nat) (n k : Nat) (hk : k < n) : rowOf (stepRow xs row n) k = dotRow xs row n k n := by
  unfold rowOf stepRow
  rw [List.getD_eq_getElem?_getD, List.getElem?_eq_getElem (by simpa using hk)]
  simp
/-- the products of a step -/
theorem step_mul {c e c' d n : Nat} {xs row : List Nat} (h : Chn c e n xs) (hr : Rw c' d n row) (hc : c' * c * kA ≤ uE) (hd : d * 1 * uE ≤ uT) {i k : Nat} (hi : i < n) (hk : k < n) :
    NN single (fmul (rowOf row i) (stepOf xs n i k)) ∧ Nr 1 (val (rowOf row i) * val (stepOf xs n i k)) (val (fmul (rowOf row i) (stepOf xs n i k)) * uE) ∧ Bd (2 * (c' * c)) (2 * (d * 1)) (val (fmul (rowOf row i) (stepOf xs n i k))) :=
  mul_bd (hr.nn i hi) (h.nn i k hi hk) (hr.bd i hi) (h.bd i k hi hk) hc hd
/-- a row behind a step: of the products' sum -/
theorem step_fold {c e c' d n : Nat} {xs row : List Nat} (h : Chn c e n xs) (hr : Rw c' d n row) (hc : c' * c * kA ≤ uE) (hd : 48 * (d * uE) ≤ uT) {k : Nat} (hk : k < n) :
    NN single (rowOf (stepRow xs row n) k) ∧ Nr n (sumN (fun i => val (fmul (rowOf row i) (stepOf xs n i k))) n) (val (rowOf (stepRow xs row n) k)) := by
  have hd1 : d * 1 * uE ≤ uT := by rw [Nat.mul_one]; omega
  have hm := fun i (hi : i < n) => step_mul h hr hc hd1 hi hk
  have hT : 2 * sumN (fun i => val (fmul (rowOf row i) (stepOf xs n i k))) n ≤ uT := by
    have h1 := sumN_le (g := fun _ => 2 * (d * 1) * uE) n fun i hi => (hm i hi).2.2.2
    rw [sumN_const] at h1
    have h2 : n * (2 * (d * 1) * uE) ≤ 12 * (2 * (d * 1) * uE) := Nat.mul_le_mul_right _ h.top
    rw [Nat.mul_one, Nat.mul_assoc 2] at h1 h2
    omega
  rw [rowOf_step _ _ _ _ hk]
  exact fold_near (D := dotRow xs row n k) (M := fun i => fmul (rowOf row i) (stepOf xs n i k)) rfl n h.top (fun i _ => rfl) (fun i hi => (hm i hi).1) hT n (Nat.le_refl _)
theorem step_near {c e c' d n : Nat} {xs row : List Nat} (h : Chn c e n xs) (hr : Rw c' d n row) (hc : c' * c * kA ≤ uE) (hd : 48 * (d * uE) ≤ uT) {k : Nat} (hk : k < n) :
    Nr (1 + n) (sumN (fun i => val (rowOf row i) * val (stepOf xs n i k)) n) (val (rowOf (stepRow xs row n) k) * uE) := by
  have hd1 : d * 1 * uE ≤ uT := by rw [Nat.mul_one]; omega
  have h1 : Nr 1 (sumN (fun i => val (rowOf row i) * val (stepOf xs n i k)) n) (sumN (fun i => uE * val (fmul (rowOf row i) (stepOf xs n i k))) n) :=
    Nr.sum n fun i hi => by rw [Nat.mul_comm uE]; exact (step_mul h hr hc hd1 hi hk).2.1
  rw [sumN_mul, Nat.mul_comm uE] at h1
  exact h1.trans ((step_fold h hr hc hd hk).2.scale uE)
/-- the row's sum is kept -/
theorem step_mass {c e c' d n : Nat} {xs row : List Nat} (h : Chn c e n xs) (hr : Rw c' d n row) (hc : c' * c * kA ≤ uE) (hd : 48 * (d * uE) ≤ uT) :
    Nr (1 + n + e) (rowV (stepRow xs row n) n) (rowV row n) := by
  have h1 : Nr (1 + n) (sumN (fun k => uE * val (rowOf (stepRow xs row n) k)) n) (sumN (fun k => sumN (fun i => val (rowOf row i) * val (stepOf xs n i k)) n) n) :=
    Nr.sum n fun k hk => by rw [Nat.mul_comm uE]; exact (step_near h hr hc hd hk).symm
  rw [sumN_mul, ← sumN_swap (fun i k => val (rowOf row i) * val (stepOf xs n i k))] at h1
  have h2 : Nr e (sumN (fun i => sumN (fun k => val (rowOf row i) * val (stepOf xs n i k)) n) n) (sumN (fun i => uE * val (rowOf row i)) n) :=
    Nr.sum n fun i hi => by
      rw [sumN_mul, Nat.mul_comm uE]
      have := (h.row i hi).scale (val (rowOf row i))
      rwa [Nat.mul_comm _ (val (rowOf row i)), Nat.mul_comm uE] at this
  rw [sumN_mul] at h2
  have h3 := h1.trans h2
  rw [Nat.mul_comm uE, Nat.mul_comm uE] at h3
  exact h3.cancel uE_pos
end Go.Proofs.Ytlhepgdheopgaaa

namespace Go.Proofs.Ytlhepgdheopgaaa
open Go Ieee

theorem Nr.milli {k X Y : Nat} (h : Nr k X Y) (hk : 2 * k ≤ 1024) : 1024 * Y ≤ 1025 * X ∧ 1024 * X ≤ 1025 * Y := by
  have hA : kA = 1024 * 8192 := by decide
  obtain ⟨g1, g2⟩ := h.gap (by rw [hA]; omega)
  have h1 : X * (2 * k) ≤ X * 1024 := Nat.mul_le_mul_left _ hk
  have h2 : Y * (2 * k) ≤ Y * 1024 := Nat.mul_le_mul_left _ hk
  rw [hA] at g1 g2
  omega
theorem Nr.dist {k X Y T : Nat} (h : Nr k X Y) (hk : 2 * k ≤ kA) (hX : X ≤ T) (hY : Y ≤ T) : ((X : Int) - (Y : Int)).natAbs * kA ≤ T * (2 * k) := by
  obtain ⟨g1, g2⟩ := h.gap hk
  have h1 : X * (2 * k) ≤ T * (2 * k) := Nat.mul_le_mul_right _ hX
  have h2 : Y * (2 * k) ≤ T * (2 * k) := Nat.mul_le_mul_right _ hY
  rcases Nat.le_total X Y with hl | hl
  · have e : ((X : Int) - (Y : Int)).natAbs = Y - X := by omega
    rw [e, Nat.sub_mul]
    omega
  · have e : ((X : Int) - (Y : Int)).natAbs = X - Y := by omega
    rw [e, Nat.sub_mul]
    omega
theorem stepOf_tab (n : Nat) (f : Nat → Nat → Nat) {i k : Nat} (hi : i < n) (hk : k < n) : stepOf (tab n f) n i k = f i k := by
  have h : i * n + k < n * n := idx_lt hi hk
  unfold stepOf tab tabTo
  have h1 : (i * n + k) / n = i := by rw [Nat.mul_comm, Nat.mul_add_div (by omega), Nat.div_eq_of_lt hk, Nat.add_zero]
  have h2 : (i * n + k) % n = k := by rw [Nat.mul_comm, Nat.mul_add_mod, Nat.mod_eq_of_lt hk]
  rw [List.getD_eq_getElem?_getD, List.getElem?_eq_getElem (by simpa using h)]
  simp [h1, h2]
theorem sumN_if (c i : Nat) : ∀ n, sumN (fun k => if k = i then c else 0) n = if i < n then c else 0 := by
  intro n
  induction n with
  | zero => rfl
  | succ n ih =>
    show sumN _ n + (if n = i then c else 0) = _
    rw [ih]
    by_cases h1 : n = i
    · subst h1
      rw [if_neg (Nat.lt_irrefl _), if_pos rfl, if_pos (by omega)]
      omega
    · rw [if_neg h1, Nat.add_zero]
      by_cases h2 : i < n
      · rw [if_pos h2, if_pos (by omega)]
      · rw [if_neg h2, if_neg (by omega)]

/-! ### rows at rest -/
set_option maxRecDepth 100000 in
theorem partQ_near {n : Nat} (h1 : 1 ≤ n) (h2 : n ≤ 12) : leastB (partQ n) = true ∧ uE ≤ 13 * val (partQ n) ∧ val (partQ n) ≤ uE ∧ n * val (partQ n) * kA ^ 2 ≤ uE * kB ^ 2 ∧ uE * kA ^ 2 ≤ n * val (partQ n) * kB ^ 2 := by
  have h : n = 1 ∨ n = 2 ∨ n = 3 ∨ n = 4 ∨ n = 5 ∨ n = 6 ∨ n = 7 ∨ n = 8 ∨ n = 9 ∨ n = 10 ∨ n = 11 ∨ n = 12 := by omega
  clear h1 h2
  rcases h with rfl | rfl | rfl | rfl | rfl | rfl | rfl | rfl | rfl | rfl | rfl | rfl <;> decide +kernel
theorem rest_rows {n : Nat} {xs : List Nat} (h : Chn 32 7 n xs) (h5 : n ≤ 5) : ∀ t, t ≤ 512 → Rw 128 2 n (restR xs n t) ∧ Nr (13 * t + 2) (rowV (restR xs n t) n) uE := by
  have hk : (13400 : Nat) ≤ kA := by decide
  intro t
  induction t with
  | zero =>
    intro _
    obtain ⟨a1, a2, a3, a4, a5⟩ := partQ_near h.low h.top
    have e : ∀ i, i < n → rowOf (firstRow n) i = partQ n := by
      intro i hi
      unfold rowOf firstRow
      rw [List.getD_eq_getElem?_getD, List.getElem?_replicate, if_pos hi]
      rfl
    refine ⟨⟨by simp [restR, restRow, firstRow], fun i hi => ?_, fun i hi => ?_⟩, ?_⟩
    · show NN single (rowOf (firstRow n) i)
      rw [e i hi]
      exact nn_least.1 a1
    · show Bd 128 2 (val (rowOf (firstRow n) i))
      rw [e i hi]
      exact Bd.more (c := 13) (d := 1) ⟨a2, by rw [Nat.one_mul]; exact a3⟩ (by decide) (by decide)
    · have : rowV (restR xs n 0) n = n * val (partQ n) := by
        rw [← sumN_const]
        exact sumN_congr n fun i hi => by
          show val (rowOf (firstRow n) i) = _
          rw [e i hi]
      rw [this]
      exact ⟨a4, a5⟩
  | succ t ih =>
    intro ht
    obtain ⟨hr, hm⟩ := ih (by omega)
    have hc : 128 * 32 * kA ≤ uE := by decide
    have hd : 48 * (2 * uE) ≤ uT := by decide
    have e : restR xs n (t + 1) = stepRow xs (restR xs n t) n := rfl
    rw [e]
    have hmass : Nr (13 * (t + 1) + 2) (rowV (stepRow xs (restR xs n t) n) n) uE := by
      have := (step_mass h hr hc hd).trans hm
      exact this.more (by omega)
    refine ⟨⟨stepRow_len _ _ _, fun k hk' => (step_fold h hr hc hd hk').1, fun k hk' => ⟨?_, ?_⟩⟩, hmass⟩
    · have h1 : uE ≤ 2 * rowV (restR xs n t) n := hm.twice (by omega)
      have h2 : rowV (restR xs n t) n * uE ≤ 32 * sumN (fun i => val (rowOf (restR xs n t) i) * val (stepOf xs n i k)) n := by
        rw [← sumN_mul, Nat.mul_comm]
        unfold rowV
        rw [← sumN_mul]
        refine sumN_le n fun i hi => ?_
        rw [Nat.mul_comm uE, Nat.mul_left_comm]
        exact Nat.mul_le_mul_left _ (h.bd i k hi hk').1
      have h3 := (step_near h hr hc hd hk').symm.twice (by have := h.top; omega)
      refine Nat.le_of_mul_le_mul_right (c := uE) ?_ uE_pos
      have h4 : uE * uE ≤ 2 * (rowV (restR xs n t) n * uE) := by rw [← Nat.mul_assoc]; exact Nat.mul_le_mul_right _ h1
      generalize sumN (fun i => val (rowOf (restR xs n t) i) * val (stepOf xs n i k)) n = S at *
      generalize rowV (restR xs n t) n * uE = R at *
      rw [Nat.mul_assoc 128]
      generalize val (rowOf (stepRow xs (restR xs n t) n) k) * uE = V at *
      generalize uE * uE = U at *
      omega
    · have h1 : rowV (stepRow xs (restR xs n t) n) n ≤ 2 * uE := hmass.symm.twice (by omega)
      exact Nat.le_trans (sumN_at (f := fun i => val (rowOf (stepRow xs (restR xs n t) n) i)) hk') h1

/-! ### chains that are weighed -/
section
variable {n : Nat} {xs ws : List Nat}
theorem cap_val {q : Nat} (hq : NN single q) : NN single (capF q) ∧ val (capF q) = min (val q) uE ∧ key single (capF q) ≤ 1065353216 := by
  unfold capF
  have hk := key_one
  by_cases h : key single 1065353216 < key single q
  · rw [if_pos h]
    refine ⟨nn_one, ?_, by omega⟩
    have : ¬ gval single q ≤ gval single 1065353216 := fun h' => by
      have := (gval_le hq nn_one).1 h'
      omega
    rw [val_uE, Nat.min_eq_right]
    rw [← val_gval, ← val_gval, val_uE] at this
    omega
  · rw [if_neg h]
    refine ⟨hq, ?_, by omega⟩
    have := (gval_le hq nn_one).2 (by omega)
    rw [← val_gval, ← val_gval, val_uE] at this
    rw [Nat.min_eq_left this]
theorem wB_near (h : Chn 32 7 n xs) (hw : Rw 4 4 n ws) {i k : Nat} (hi : i < n) (hk : k < n) :
    NN single (wB xs ws n i k) ∧ Nr 1 (val (rowOf ws i) * val (stepOf xs n i k)) (val (wB xs ws n i k) * uE) ∧ Bd 256 8 (val (wB xs ws n i k)) := by
  obtain ⟨a, b, c⟩ := mul_bd (hw.nn i hi) (h.nn i k hi hk) (hw.bd i hi) (h.bd i k hi hk) (by decide) (by decide)
  exact ⟨a, b, c⟩
theorem wA_wB (i k : Nat) : wA xs ws n i k = wB xs ws n k i := rfl

theorem pos_key {x : Nat} (hn : NN single x) (hp : 0 < val x) : 0 < key single x := by
  rcases Int.lt_or_le 0 (key single x) with h0 | h0
  · exact h0
  · exfalso
    have h1 := (gval_le hn nn_zero).2 (by rw [key_zero]; exact h0)
    rw [← val_gval, ← val_gval, val_zero] at h1
    omega
theorem pos_val {x : Nat} (hk : 0 < key single x) (hn : NN single x) : 0 < val x := by
  have h1 : ¬ gval single x ≤ gval single 0 := fun h => by
    have := (gval_le hn nn_zero).1 h
    rw [key_zero] at this
    omega
  rw [← val_gval, ← val_gval, val_zero] at h1
  omega
theorem off_near (h : Chn 32 7 n xs) (hw : Rw 4 4 n ws) {i k : Nat} (hi : i < n) (hk : k < n) :
    NN single (offF xs ws n i k) ∧ Bd 262144 1 (val (offF xs ws n i k)) ∧ val (offF xs ws n i k) ≤ val (stepOf xs n i k) ∧ Nr 4 (val (rowOf ws i) * val (offF xs ws n i k)) (min (val (wB xs ws n i k)) (val (wB xs ws n k i)) * uE) := by
  obtain ⟨b1, b2, b3⟩ := wB_near h hw hi hk
  obtain ⟨a1, a2, a3⟩ := wB_near h hw hk hi
  rw [← wA_wB] at a1 a2 a3
  rw [← wA_wB (xs := xs) (ws := ws) (n := n) i k]
  obtain ⟨q1, q2, q3⟩ := div_bd a1 b1 a3 b3 (by decide) (by decide)
  have hs0 : 0 < key single (stepOf xs n i k) := pos_key (h.nn i k hi hk) (h.bd i k hi hk).pos
  have hz : zB xs n i k = false := decide_eq_false (by omega)
  have hwq : wQ xs ws n i k = some (fdiv (wA xs ws n i k) (wB xs ws n i k)) := (fdiv_run a1.1 b1.1 (by have := pos_key b1 b3.pos; omega)).1
  have hoff : offF xs ws n i k = fmul (stepOf xs n i k) (capF (fdiv (wA xs ws n i k) (wB xs ws n i k))) := by
    unfold offF
    rw [if_neg (by rw [hz]; simp), hwq]
  rw [hoff]
  generalize fdiv (wA xs ws n i k) (wB xs ws n i k) = q at *
  obtain ⟨c1, c2, c3⟩ := cap_val q1
  have cb : Bd 4096 1 (val (capF q)) := by
    rw [c2]
    refine ⟨?_, by rw [Nat.one_mul]; exact Nat.min_le_right _ _⟩
    rcases Nat.le_total (val q) uE with hl | hl
    · rw [Nat.min_eq_left hl]; exact q3.1
    · rw [Nat.min_eq_right hl]; omega
  obtain ⟨o1, o2, o3⟩ := mul_bd (h.nn i k hi hk) c1 (h.bd i k hi hk) cb (by decide) (by decide)
  have hs := h.nn i k hi hk
  have hle : val (fmul (stepOf xs n i k) (capF q)) ≤ val (stepOf xs n i k) := val_mono o1.2 (mul_nn hs.1 c1.1 hs.2 c1.2 c3).2.2
  refine ⟨o1, ⟨o3.1, Nat.le_trans hle (h.bd i k hi hk).2⟩, hle, ?_⟩
  have e1 : Nr 2 (min (val (wB xs ws n i k)) (val (wA xs ws n i k)) * uE) (val (capF q) * val (wB xs ws n i k)) := by
    rw [c2, Nat.min_comm, ← Nat.mul_min_mul_right, ← Nat.mul_min_mul_right]
    refine Nr.least q2 ?_
    rw [Nat.mul_comm uE]
    exact Nr.refl _ _
  have e2 := o2.scale (val (rowOf ws i))
  have e3 := b2.scale (val (capF q))
  have e4 := e1.scale uE
  have e5 : val (stepOf xs n i k) * val (capF q) * val (rowOf ws i) = val (rowOf ws i) * val (stepOf xs n i k) * val (capF q) := by ac_rfl
  have e6 : val (wB xs ws n i k) * uE * val (capF q) = val (capF q) * val (wB xs ws n i k) * uE := by ac_rfl
  have e7 : val (fmul (stepOf xs n i k) (capF q)) * uE * val (rowOf ws i) = val (rowOf ws i) * val (fmul (stepOf xs n i k) (capF q)) * uE := by ac_rfl
  rw [e5, e7] at e2
  rw [e6] at e3
  exact ((e2.symm.trans e3).trans e4.symm).cancel uE_pos
/-- what is offered to others -/
def offO (xs ws : List Nat) (n i k : Nat) : Nat := if k = i then 0 else val (offF xs ws n i k)
theorem sumF_near (h : Chn 32 7 n xs) (hw : Rw 4 4 n ws) {i : Nat} (hi : i < n) :
    ∀ j, j ≤ n → NN single (sumF xs ws n i j) ∧ Nr j (sumN (offO xs ws n i) j) (val (sumF xs ws n i j)) := by
  have hbound : 2 * sumN (offO xs ws n i) n ≤ uT := by
    have h1 := sumN_le (f := offO xs ws n i) (g := fun _ => 1 * uE) n fun k hk => by
      unfold offO
      split
      · exact Nat.zero_le _
      · exact (off_near h hw hi hk).2.1.2
    rw [sumN_const] at h1
    have h2 : n * (1 * uE) ≤ 12 * (1 * uE) := Nat.mul_le_mul_right _ h.top
    have h3 : 2 * (12 * (1 * uE)) ≤ uT := by decide
    omega
  intro j
  induction j with
  | zero => intro _; show NN single 0 ∧ Nr 0 0 (val 0); rw [val_zero]; exact ⟨nn_zero, Nr.refl _ _⟩
  | succ j ih =>
    intro hj
    obtain ⟨h1, h2⟩ := ih (by omega)
    have e : sumN (offO xs ws n i) (j + 1) = sumN (offO xs ws n i) j + offO xs ws n i j := rfl
    by_cases hji : j = i
    · have e1 : sumF xs ws n i (j + 1) = sumF xs ws n i j := by show (if j = i then _ else _) = _; rw [if_pos hji]
      have e2 : offO xs ws n i j = 0 := if_pos hji
      rw [e1, e, e2]
      exact ⟨h1, h2.more (by omega)⟩
    · have e1 : sumF xs ws n i (j + 1) = fadd (sumF xs ws n i j) (offF xs ws n i j) := by show (if j = i then _ else _) = _; rw [if_neg hji]
      have e2 : offO xs ws n i j = val (offF xs ws n i j) := if_neg hji
      have h3 := h2.twice (by have := h.top; have : (24 : Nat) ≤ kA := by decide
                              omega)
      have h4 : sumN (offO xs ws n i) j + offO xs ws n i j ≤ sumN (offO xs ws n i) n := sumN_mono (f := offO xs ws n i) (m := j + 1) n hj
      obtain ⟨g1, g2⟩ := add_near h1 (off_near h hw hi (show j < n by omega)).1 (by rw [e2] at h4; omega)
      rw [e1, e, e2]
      exact ⟨g1, (h2.add (Nr.refl j _)).trans g2⟩
theorem diag_near (h : Chn 32 7 n xs) (hw : Rw 4 4 n ws) (h5 : n ≤ 5) {i : Nat} (hi : i < n) :
    NN single (diagF xs ws n i) ∧ Bd 262144 1 (val (diagF xs ws n i)) ∧ Nr 5 (sumN (offO xs ws n i) n + val (diagF xs ws n i)) uE := by
  obtain ⟨s1, s2⟩ := sumF_near h hw hi n (Nat.le_refl _)
  have m1 := s2.milli (by omega)
  have m2 := (h.row i hi).milli (by decide)
  have hle : sumN (offO xs ws n i) n + val (stepOf xs n i i) ≤ sumN (fun k => val (stepOf xs n i k)) n := by
    have h1 : val (stepOf xs n i i) = sumN (fun k => if k = i then val (stepOf xs n i i) else 0) n := by rw [sumN_if, if_pos hi]
    rw [h1, ← sumN_add]
    refine sumN_le n fun k hk => ?_
    unfold offO
    by_cases hki : k = i
    · subst hki
      rw [if_pos rfl, if_pos rfl]
      omega
    · rw [if_neg hki, if_neg hki]
      exact (off_near h hw hi hk).2.2.1
  have hown := (h.bd i i hi hi).1
  have hsum : 64 * val (sumF xs ws n i n) ≤ 63 * uE := by
    clear s2 h hw
    generalize val (sumF xs ws n i n) = F at *
    generalize sumN (offO xs ws n i) n = O at *
    generalize sumN (fun k => val (stepOf xs n i k)) n = S at *
    generalize val (stepOf xs n i i) = D at *
    generalize uE = E at *
    omega
  have hle1 : val (sumF xs ws n i n) ≤ val 1065353216 := by rw [val_uE]; omega
  obtain ⟨r1, r2⟩ := sub_near nn_one s1 hle1 (by rw [val_uE]; decide)
  have hd : diagF xs ws n i = fsub 1065353216 (sumF xs ws n i n) := by
    unfold diagF
    have : restF xs ws n i = fsub 1065353216 (sumF xs ws n i n) := rfl
    rw [this, if_neg (by have := r1.2; omega)]
  rw [hd]
  rw [val_uE] at r2
  have hkey := (gval_le s1 nn_one).1 hle1
  have htop := (sub_nn nn_one.1 s1.1 nn_one.2 s1.2 hkey).2.2
  have hb : Bd 64 1 (uE - val (sumF xs ws n i n)) := ⟨by omega, by omega⟩
  have hb2 := r2.bd (by decide) hb
  refine ⟨r1, ⟨Nat.le_trans hb2.1 (Nat.mul_le_mul_right _ (by decide)), ?_⟩, ?_⟩
  · rw [Nat.one_mul, ← val_uE]
    exact val_mono r1.2 htop
  · have h3 := (s2.more h5).add (r2.symm.more (show 1 ≤ 5 by decide)).symm
    have e : val (sumF xs ws n i n) + val (fsub 1065353216 (sumF xs ws n i n)) = val (sumF xs ws n i n) + val (fsub 1065353216 (sumF xs ws n i n)) := rfl
    have h4 : Nr 5 (sumN (offO xs ws n i) n + val (fsub 1065353216 (sumF xs ws n i n))) (val (sumF xs ws n i n) + (uE - val (sumF xs ws n i n))) := (s2.more h5).add (r2.symm.more (by decide))
    rwa [Nat.add_sub_cancel' (by omega)] at h4
/-- a chain that is weighed -/
def wC (xs ws : List Nat) (n : Nat) : List Nat := tab n (weighF xs ws n)
theorem wC_at {i k : Nat} (hi : i < n) (hk : k < n) : stepOf (wC xs ws n) n i k = if i = k then diagF xs ws n i else offF xs ws n i k := stepOf_tab n _ hi hk
theorem wC_chn (h : Chn 32 7 n xs) (hw : Rw 4 4 n ws) (h5 : n ≤ 5) : Chn 262144 5 n (wC xs ws n) := by
  refine ⟨h.low, h.top, tab_len _ _, fun i k hi hk => ?_, fun i k hi hk => ?_, fun i hi => ?_⟩
  · rw [wC_at hi hk]
    split
    · exact (diag_near h hw h5 hi).1
    · exact (off_near h hw hi hk).1
  · rw [wC_at hi hk]
    split
    · exact (diag_near h hw h5 hi).2.1
    · exact (off_near h hw hi hk).2.1
  · have e : sumN (fun k => val (stepOf (wC xs ws n) n i k)) n = sumN (offO xs ws n i) n + val (diagF xs ws n i) := by
      have h1 : val (diagF xs ws n i) = sumN (fun k => if k = i then val (diagF xs ws n i) else 0) n := by rw [sumN_if, if_pos hi]
      rw [h1, ← sumN_add]
      refine sumN_congr n fun k hk => ?_
      rw [wC_at hi hk]
      unfold offO
      by_cases hki : k = i
      · subst hki
        rw [if_pos rfl, if_pos rfl, if_pos rfl]
        omega
      · rw [if_neg (fun h => hki h.symm), if_neg hki, if_neg hki]
        rfl
    rw [e]
    exact (diag_near h hw h5 hi).2.2
/-- the weight of a step -/
theorem wP_near (h : Chn 32 7 n xs) (hw : Rw 4 4 n ws) (h5 : n ≤ 5) {i k : Nat} (hi : i < n) (hk : k < n) :
    NN single (fmul (rowOf ws i) (stepOf (wC xs ws n) n i k)) ∧ Nr 1 (val (rowOf ws i) * val (stepOf (wC xs ws n) n i k)) (val (fmul (rowOf ws i) (stepOf (wC xs ws n) n i k)) * uE) ∧ val (fmul (rowOf ws i) (stepOf (wC xs ws n) n i k)) ≤ 8 * uE := by
  obtain ⟨a, b, c⟩ := step_mul (wC_chn h hw h5) hw (by decide) (by decide) hi hk
  exact ⟨a, b, c.2⟩
theorem wP_sym (h : Chn 32 7 n xs) (hw : Rw 4 4 n ws) (h5 : n ≤ 5) {i k : Nat} (hi : i < n) (hk : k < n) :
    Nr 10 (val (fmul (rowOf ws i) (stepOf (wC xs ws n) n i k))) (val (fmul (rowOf ws k) (stepOf (wC xs ws n) n k i))) := by
  by_cases hik : i = k
  · subst hik
    exact Nr.refl _ _
  · have one : ∀ {i k : Nat}, i < n → k < n → i ≠ k → Nr 5 (val (fmul (rowOf ws i) (stepOf (wC xs ws n) n i k))) (min (val (wB xs ws n i k)) (val (wB xs ws n k i))) := by
      intro i k hi hk hik
      have h1 := (wP_near h hw h5 hi hk).2.1
      have e : stepOf (wC xs ws n) n i k = offF xs ws n i k := by rw [wC_at hi hk, if_neg hik]
      rw [e] at h1 ⊢
      exact (h1.symm.trans (off_near h hw hi hk).2.2.2).cancel uE_pos
    have h1 := one hi hk hik
    have h2 := one hk hi (fun h => hik h.symm)
    rw [Nat.min_comm] at h2
    exact h1.trans h2.symm
theorem mu_thou2 : 160 * uE ≤ kA * mu single 981668463 := by decide +kernel
/-- its balance -/
theorem wC_miss (h : Chn 32 7 n xs) (hw : Rw 4 4 n ws) (h5 : n ≤ 5) {i k : Nat} (hi : i < n) (hk : k < n) : (key single (missAt (wC xs ws n) ws n i k)).natAbs ≤ 981668463 := by
  obtain ⟨a1, -, a3⟩ := wP_near h hw h5 hi hk
  obtain ⟨b1, -, b3⟩ := wP_near h hw h5 hk hi
  have hd := (wP_sym h hw h5 hi hk).dist (by decide) a3 b3
  show (key single (gsub single _ _)).natAbs ≤ _
  refine gsub_below sE a1 b1 ?_
  rw [← val_gval, ← val_gval]
  refine Nat.le_of_mul_le_mul_right (c := kA) ?_ kA_pos
  refine Nat.le_trans hd ?_
  rw [Nat.mul_comm (mu single 981668463)]
  refine Nat.le_trans (Nat.le_of_eq ?_) mu_thou2
  omega
theorem missTo_le (h : Chn 32 7 n xs) (hw : Rw 4 4 n ws) (h5 : n ≤ 5) : ∀ p, p ≤ n * n → key single (missTo (wC xs ws n) ws n p) ≤ 981668463 := by
  intro p
  induction p with
  | zero => intro _; show key single 0 ≤ _; rw [key_zero]; decide
  | succ p ih =>
    intro hp
    have hlow := h.low
    have h1 : p / n < n := (Nat.div_lt_iff_lt_mul (by omega)).2 (by omega)
    have h2 : p % n < n := Nat.mod_lt _ (by omega)
    have hc := wC_chn h hw h5
    have hf := (missAt_runs hc.len hc.parts hw.len hw.least h1 h2).2.2.2
    have hk := wC_miss h hw h5 h1 h2
    show key single (if key single (missTo (wC xs ws n) ws n p) < key single (sizeF (missAt (wC xs ws n) ws n (p / n) (p % n))) then sizeF (missAt (wC xs ws n) ws n (p / n) (p % n)) else missTo (wC xs ws n) ws n p) ≤ _
    split
    · rw [key_size hf]
      omega
    · exact ih (by omega)
/-- the row behind a step is the weights, nearly -/
theorem wC_step (h : Chn 32 7 n xs) (hw : Rw 4 4 n ws) (h5 : n ≤ 5) {k : Nat} (hk : k < n) :
    NN single (rowOf (stepRow (wC xs ws n) ws n) k) ∧ Nr 21 (val (rowOf (stepRow (wC xs ws n) ws n) k)) (val (rowOf ws k)) := by
  have hc := wC_chn h hw h5
  obtain ⟨g1, g2⟩ := step_fold hc hw (by decide) (by decide) hk
  refine ⟨g1, ?_⟩
  have h1 : Nr 10 (sumN (fun i => val (fmul (rowOf ws i) (stepOf (wC xs ws n) n i k))) n) (sumN (fun i => val (fmul (rowOf ws k) (stepOf (wC xs ws n) n k i))) n) := Nr.sum n fun i hi => wP_sym h hw h5 hi hk
  have h2 : Nr 1 (sumN (fun i => uE * val (fmul (rowOf ws k) (stepOf (wC xs ws n) n k i))) n) (sumN (fun i => val (rowOf ws k) * val (stepOf (wC xs ws n) n k i)) n) :=
    Nr.sum n fun i hi => by rw [Nat.mul_comm uE]; exact (wP_near h hw h5 hk hi).2.1.symm
  rw [sumN_mul, sumN_mul] at h2
  have h3 := (hc.row k hk).scale (val (rowOf ws k))
  rw [Nat.mul_comm _ (val (rowOf ws k)), Nat.mul_comm uE (val (rowOf ws k))] at h3
  have h4 := h2.trans h3
  rw [Nat.mul_comm uE] at h4
  exact ((g2.symm.trans h1).trans (h4.cancel uE_pos)).more (by omega)
end

/-! ### a chain that goes back twice -/
theorem back_near {c d n : Nat} {xs r : List Nat} {i k : Nat} (hi : i < n) (hk : k < n) (hs : NN single (stepOf xs n k i)) (hb : Bd c d (val (stepOf xs n k i))) (hr : Rw 128 2 n r) (h1 : 128 * c * kA ≤ uE) (h2 : 2 * d * uE ≤ uT) (h3 : 2 * kA * (2 * (128 * c) * 2) ≤ uE) (h4 : 2 * (2 * d) * 128 ≤ uF) :
    NN single (backF xs r n i k) ∧ Nr 3 (val (rowOf r k) * val (stepOf xs n k i)) (val (backF xs r n i k) * val (rowOf r i)) ∧ Bd (2 * (2 * (128 * c) * 2)) (2 * (2 * (2 * d) * 128)) (val (backF xs r n i k)) := by
  obtain ⟨a1, a2, a3⟩ := mul_bd (hr.nn k hk) hs (hr.bd k hk) hb h1 h2
  obtain ⟨b1, b2, b3⟩ := div_bd a1 (hr.nn i hi) a3 (hr.bd i hi) h3 h4
  exact ⟨b1, a2.trans b2, b3⟩
theorem back_twice {n : Nat} {xs r : List Nat} (h : Chn 32 7 n xs) (hr : Rw 128 2 n r) {i k : Nat} (hi : i < n) (hk : k < n) :
    NN single (backF (tab n (backF xs r n)) r n i k) ∧ Nr 6 (val (backF (tab n (backF xs r n)) r n i k)) (val (stepOf xs n i k)) := by
  obtain ⟨a1, a2, a3⟩ := back_near (i := k) (k := i) hk hi (h.nn i k hi hk) (h.bd i k hi hk) hr (by decide) (by decide) (by decide) (by decide)
  have e : stepOf (tab n (backF xs r n)) n k i = backF xs r n k i := stepOf_tab n _ hk hi
  obtain ⟨b1, b2, b3⟩ := back_near (xs := tab n (backF xs r n)) (i := i) (k := k) hi hk (by rw [e]; exact a1) (by rw [e]; exact a3) hr (by decide) (by decide) (by decide) (by decide)
  rw [e, Nat.mul_comm] at b2
  have h6 := b2.symm.trans a2.symm
  rw [Nat.mul_comm (val (rowOf r i))] at h6
  exact ⟨b1, h6.cancel (hr.bd i hi).pos⟩
end Go.Proofs.Ytlhepgdheopgaaa

namespace Go.Proofs.Ytlhepgdheopgaaa
open Go Ieee

/-- a weight; a count -/
def cntF (v : Nat) : Nat := floatOfInt .f32 (1 + (v : Int))
def qtrF (v : Nat) : Nat := fdiv (cntF v) 1082130432
set_option maxRecDepth 100000 in
theorem qtr_all : ∀ v : Nat, v < 16 → floatBits .quo .f32 (floatOfInt .f32 (1 + (v : Int))) 1082130432 = some (qtrF v) ∧ leastB (qtrF v) = true ∧ uE ≤ 4 * val (qtrF v) ∧ val (qtrF v) ≤ 4 * uE := by decide +kernel
set_option maxRecDepth 100000 in
theorem cnt_all : ∀ v : Nat, v < 5 → leastB (cntF v) = true ∧ val (cntF v) = (1 + v) * uE := by decide +kernel
theorem qtr_row {vs : List Nat} (h : ∀ v ∈ vs, v < 16) : Rw 4 4 vs.length (vs.map qtrF) := by
  have e : ∀ i, i < vs.length → ∃ v, v < 16 ∧ rowOf (vs.map qtrF) i = qtrF v := fun i hi => by
    refine ⟨vs[i], h _ (List.getElem_mem hi), ?_⟩
    unfold rowOf
    rw [List.getD_eq_getElem?_getD, List.getElem?_eq_getElem (by simpa using hi)]
    simp
  refine ⟨by simp, fun i hi => ?_, fun i hi => ?_⟩
  · obtain ⟨v, hv, e⟩ := e i hi
    rw [e]
    exact nn_least.1 (qtr_all v hv).2.1
  · obtain ⟨v, hv, e⟩ := e i hi
    rw [e]
    exact (qtr_all v hv).2.2
/-- the sum of a row of counts, so far -/
def fsF (X : Nat → Nat) : Nat → Nat
  | 0 => 0
  | k + 1 => fadd (fsF X k) (X k)
/-- the steps of a chain that is drawn -/
def srcF (q : Nat → Nat → Nat) (n i k : Nat) : Nat := fdiv (cntF (q i k)) (fsF (fun j => cntF (q i j)) n)
section
variable {n : Nat} {X : Nat → Nat}
theorem cnt_nn {v : Nat} (h : v < 5) : NN single (cntF v) ∧ uE ≤ val (cntF v) ∧ val (cntF v) ≤ 5 * uE := by
  obtain ⟨a, b⟩ := cnt_all v h
  refine ⟨nn_least.1 a, ?_, ?_⟩
  · rw [b]
    exact Nat.le_mul_of_pos_left _ (by omega)
  · rw [b]
    exact Nat.mul_le_mul_right _ (by omega)
theorem fs_near (hn : n ≤ 5) (h : ∀ k, k < n → NN single (X k) ∧ uE ≤ val (X k) ∧ val (X k) ≤ 5 * uE) : ∀ j, j ≤ n → NN single (fsF X j) ∧ Nr j (sumN (fun k => val (X k)) j) (val (fsF X j)) := by
  refine fold_near (D := fsF X) (M := X) rfl n (by omega) (fun i _ => rfl) (fun i hi => (h i hi).1) ?_
  have h1 := sumN_le (f := fun k => val (X k)) (g := fun _ => 5 * uE) n fun k hk => (h k hk).2.2
  rw [sumN_const] at h1
  have h2 : n * (5 * uE) ≤ 12 * (5 * uE) := Nat.mul_le_mul_right _ (by omega)
  have h3 : 2 * (12 * (5 * uE)) ≤ uT := by decide
  omega
theorem fs_pos (hn : n ≤ 5) (h1 : 1 ≤ n) (h : ∀ k, k < n → NN single (X k) ∧ uE ≤ val (X k) ∧ val (X k) ≤ 5 * uE) : 0 < key single (fsF X n) := by
  obtain ⟨g1, g2⟩ := fs_near hn h n (Nat.le_refl _)
  refine pos_key g1 ?_
  have g3 := g2.symm.twice (by have : (10 : Nat) ≤ kA := by decide
                               omega)
  have g4 := sumN_at (f := fun k => val (X k)) (n := n) (i := 0) (by omega)
  have g5 := (h 0 (by omega)).2.1
  have := uE_pos
  have g6 : val (X 0) ≤ sumN (fun k => val (X k)) n := g4
  omega
theorem src_one (hn : n ≤ 5) (h2 : 2 ≤ n) (h : ∀ k, k < n → NN single (X k) ∧ uE ≤ val (X k) ∧ val (X k) ≤ 5 * uE) {k : Nat} (hk : k < n) :
    NN single (fdiv (X k) (fsF X n)) ∧ Nr 2 (val (X k) * uE) (val (fdiv (X k) (fsF X n)) * val (fsF X n)) ∧ Bd 32 1 (val (fdiv (X k) (fsF X n))) := by
  obtain ⟨g1, g2⟩ := fs_near hn h n (Nat.le_refl _)
  obtain ⟨m1, m2⟩ := g2.milli (by omega)
  obtain ⟨x1, x2, x3⟩ := h k hk
  have htop : sumN (fun k => val (X k)) n ≤ 25 * uE := by
    have h1 := sumN_le (f := fun k => val (X k)) (g := fun _ => 5 * uE) n fun k hk => (h k hk).2.2
    rw [sumN_const] at h1
    have h2 : n * (5 * uE) ≤ 5 * (5 * uE) := Nat.mul_le_mul_right _ hn
    omega
  have hlow : val (X k) + uE ≤ sumN (fun k => val (X k)) n := by
    have h1 := sumN_le (f := fun j => uE + if j = k then val (X k) - uE else 0) (g := fun k => val (X k)) n fun j hj => by
      show (uE + if j = k then val (X k) - uE else 0) ≤ val (X j)
      have := (h j hj).2.1
      by_cases hjk : j = k
      · subst hjk
        rw [if_pos rfl]
        omega
      · rw [if_neg hjk]
        omega
    rw [sumN_add, sumN_const, sumN_if, if_pos hk] at h1
    have h3 : 2 * uE ≤ n * uE := Nat.mul_le_mul_right _ h2
    omega
  have bS : Bd 2 50 (val (fsF X n)) := Nr.bd (c := 1) (d := 25) g2 (by have : (10 : Nat) ≤ kA := by decide
                                                                       omega) ⟨by rw [Nat.one_mul]; omega, htop⟩
  obtain ⟨d1, d2, -⟩ := div_bd x1 g1 (c1 := 1) (d1 := 5) ⟨by rw [Nat.one_mul]; exact x2, x3⟩ bS (by decide) (by decide)
  obtain ⟨q1, q2⟩ := d2.milli (by decide)
  have hp := bS.pos
  refine ⟨d1, d2, ?_, ?_⟩
  · rcases Nat.lt_or_ge (32 * val (fdiv (X k) (fsF X n))) uE with hlt | hge
    · exfalso
      -- 32 s < 1: then 32 s S < S, but s S is nearly x
      have a1 : 32 * val (fdiv (X k) (fsF X n)) * val (fsF X n) ≤ uE * val (fsF X n) := Nat.mul_le_mul_right _ (Nat.le_of_lt hlt)
      have a2 : uE * uE ≤ val (X k) * uE := Nat.mul_le_mul_right _ x2
      have a3 : 1024 * (uE * val (fsF X n)) ≤ 1025 * (uE * (25 * uE)) := by
        rw [Nat.mul_left_comm 1024, Nat.mul_left_comm 1025]
        exact Nat.mul_le_mul_left _ (by omega)
      rw [Nat.mul_left_comm uE 25] at a3
      rw [Nat.mul_assoc] at a1
      have hE := Nat.mul_pos uE_pos uE_pos
      clear bS d2 g2 h
      generalize val (fdiv (X k) (fsF X n)) * val (fsF X n) = P at *
      generalize uE * val (fsF X n) = Q at *
      generalize val (X k) * uE = R at *
      generalize uE * uE = U at *
      omega
    · exact hge
  · rw [Nat.one_mul]
    rcases Nat.lt_or_ge uE (val (fdiv (X k) (fsF X n))) with hlt | hge
    · exfalso
      have a1 : uE * val (fsF X n) ≤ val (fdiv (X k) (fsF X n)) * val (fsF X n) := Nat.mul_le_mul_right _ (Nat.le_of_lt hlt)
      have a2 : 1024 * val (fsF X n) ≤ 1025 * val (X k) := by
        refine Nat.le_of_mul_le_mul_right (c := uE) ?_ uE_pos
        rw [Nat.mul_assoc, Nat.mul_assoc, Nat.mul_comm _ uE]
        omega
      clear bS d2 g2 h
      have := uE_pos
      generalize val (fsF X n) = F at *
      generalize sumN (fun k => val (X k)) n = T at *
      generalize val (X k) = x at *
      generalize uE = E at *
      omega
    · exact hge
end
theorem src_chn {q : Nat → Nat → Nat} {n : Nat} (h2 : 2 ≤ n) (hn : n ≤ 5) (hq : ∀ i k, i < n → k < n → q i k < 5) : Chn 32 7 n (tab n (srcF q n)) := by
  have hX : ∀ i, i < n → ∀ k, k < n → NN single ((fun j => cntF (q i j)) k) ∧ uE ≤ val ((fun j => cntF (q i j)) k) ∧ val ((fun j => cntF (q i j)) k) ≤ 5 * uE := fun i hi k hk => cnt_nn (hq i k hi hk)
  refine ⟨by omega, by omega, tab_len _ _, fun i k hi hk => ?_, fun i k hi hk => ?_, fun i hi => ?_⟩
  · rw [stepOf_tab n _ hi hk]
    exact (src_one hn h2 (hX i hi) hk).1
  · rw [stepOf_tab n _ hi hk]
    exact (src_one hn h2 (hX i hi) hk).2.2
  · have e : sumN (fun k => val (stepOf (tab n (srcF q n)) n i k)) n = sumN (fun k => val (fdiv (cntF (q i k)) (fsF (fun j => cntF (q i j)) n))) n := sumN_congr n fun k hk => by rw [stepOf_tab n _ hi hk]; rfl
    rw [e]
    obtain ⟨g1, g2⟩ := fs_near hn (hX i hi) n (Nat.le_refl _)
    have hp := pos_val (fs_pos hn (by omega) (hX i hi)) g1
    have h1 : Nr 2 (sumN (fun k => uE * val (cntF (q i k))) n) (sumN (fun k => val (fsF (fun j => cntF (q i j)) n) * val (fdiv (cntF (q i k)) (fsF (fun j => cntF (q i j)) n))) n) :=
      Nr.sum n fun k hk => by
        rw [Nat.mul_comm uE, Nat.mul_comm (val (fsF (fun j => cntF (q i j)) n))]
        exact (src_one hn h2 (hX i hi) hk).2.1
    rw [sumN_mul, sumN_mul] at h1
    have h3 := g2.scale uE
    rw [Nat.mul_comm _ uE] at h3
    have h4 := h1.symm.trans h3
    rw [Nat.mul_comm, Nat.mul_comm (val (fsF (fun j => cntF (q i j)) n)) uE] at h4
    exact (h4.cancel hp).more (by omega)
end Go.Proofs.Ytlhepgdheopgaaa
