/-
  Numbers of 64ths, divided: what the kernel counts.
-/
import Derived.Test.YtfkjnaaplhcheaaNo
import Derived.Test.YtfkjnaaplhcheaaNt
import Derived.Test.YtfkjnaaplhcheaaSee
namespace Go.Proofs.Ytfkjnaaplhcheaa
open Go Go.RowKit Ieee
set_option maxRecDepth 100000

/-- j 64ths, written down -/
def qN (j : Nat) : Nat := if j = 0 then 0 else (120 + Nat.log2 j) * 8388608 + j * 2 ^ (23 - Nat.log2 j)
/-- a number told before it is handed on -/
def told (n : Nat) (f : Nat → Bool) : Bool := Nat.rec (f 0) (fun m _ => f (m + 1)) n
theorem told_eq (n : Nat) (f : Nat → Bool) : told n f = f n := by cases n <;> rfl
theorem all_below {n : Nat} {p : Nat → Bool} (h : (List.range n).all p = true) {i : Nat} (hi : i < n) : p i = true := List.all_eq_true.1 h i (List.mem_range.2 hi)
/-- a number of 64ths, divided -/
def gN (j m : Nat) : Nat := fdiv (shN j) (floatOfInt .f32 (m : Int))
/-- a single of this range, made wider -/
def wdF (y : Nat) : Nat := if y = 0 then 0 else y * 536870912 + 4035225266123964416
def cD : Nat := 4562254508917369340
def brk (j m v : Nat) : Bool := Nat.ble (qN (j / m)) v && Nat.ble v (qN ((j + (m - 1)) / m)) && (floatToFloatBits .f32 v .f64 == some (wdF v))
theorem q_sh : ((List.range 642).all fun j => Nat.beq (shN j) (qN j)) = true := by decide +kernel
theorem q_up : ((List.range 641).all fun j => Nat.blt (qN j) (qN (j + 1)) && Nat.blt (qN (j + 1)) 2139095040) = true := by decide +kernel
theorem q_mul : ((List.range 65).all fun k => (List.range 11).all fun n => Nat.beq (fmul (qN k) (floatOfInt .f32 (n : Int))) (qN (k * n))) = true := by decide +kernel
theorem q_mu : ((List.range 641).all fun j => Nat.beq (mu single (qN j)) (j * 2 ^ 143)) = true := by decide +kernel
theorem q_div : ((List.range 10).all fun m => (List.range 641).all fun j => told (fdiv (qN j) (floatOfInt .f32 ((m + 1 : Nat) : Int))) (brk j (m + 1))) = true := by decide +kernel
theorem q_ends : qN 0 = 0 ∧ qN 64 = 1065353216 := by decide +kernel
theorem sh_q {j : Nat} (h : j < 642) : shN j = qN j := Nat.eq_of_beq_eq_true (all_below q_sh h)
theorem n_mul (k : Nat) (hk : k < 65) (n : Nat) (hn : n < 11) : fmul (shN k) (floatOfInt .f32 (n : Int)) = shN (k * n) := by
  have h1 : k * n ≤ 64 * 10 := Nat.mul_le_mul (by omega) (by omega)
  rw [sh_q (show k < 642 by omega), sh_q (show k * n < 642 by omega)]
  exact Nat.eq_of_beq_eq_true (all_below (all_below q_mul hk) hn)
theorem n_up (j : Nat) (h : j < 640) : shN j < shN (j + 1) ∧ shN (j + 1) < 2139095040 := by
  rw [sh_q (show j < 642 by omega), sh_q (show j + 1 < 642 by omega)]
  have h1 := all_below q_up (show j < 641 by omega)
  rw [Bool.and_eq_true] at h1
  exact ⟨Nat.le_of_ble_eq_true h1.1, Nat.le_of_ble_eq_true h1.2⟩
theorem n_zero : shN 0 = 0 ∧ shN 64 = 1065353216 := by
  rw [sh_q (by decide), sh_q (by decide)]
  exact q_ends
theorem pw_parts {x : Nat} (h : x < 2139095040) : isFin single x = true ∧ isNan single x = false ∧ key single x = (x : Int) := by
  have h1 : single.signWeight = 2147483648 := rfl
  have h2 : single.infRung = 2139095040 := rfl
  have hr : rungOf single x = x := by unfold rungOf; rw [h1]; omega
  have hn : negOf single x = false := by
    unfold negOf
    rw [h1, Nat.div_eq_of_lt (by omega)]
    rfl
  have hf : isFin single x = true := (fin_iff single (by decide) x).2 (by rw [hr, h2]; exact h)
  refine ⟨hf, fin_not_nan hf, ?_⟩
  unfold key
  rw [hn, hr]
  rfl
/-- how many least units a number has -/
def val (x : Nat) : Nat := mu single (rungOf single x)
/-- what is rounded by a sum -/
theorem add_mag {x y : Nat} (hx : isFin single x = true) (hkx : 0 ≤ key single x) (hy : isFin single y = true) (hky : 0 ≤ key single y) :
    ∃ mag place, single.leastPlace ≤ place ∧ mag * 2 ^ (place - single.leastPlace).toNat = val x + val y ∧ key single (fadd x y) = rungTo single mag place := by
  have he : 1 ≤ single.exponentBits := by decide
  obtain ⟨t, n, j, hq, ht, hlj, hn, hk2⟩ := read_nn he hy hky
  obtain ⟨s, m, i, hr, hs, hli, hm, hk⟩ := read_nn he hx hkx
  have hadd : single.add x y = some (single.nearest (if signed s m (i - min i j).toNat + signed t n (j - min i j).toNat = 0 then s && t else decide (signed s m (i - min i j).toNat + signed t n (j - min i j).toNat < 0)) (signed s m (i - min i j).toNat + signed t n (j - min i j).toNat).natAbs (min i j)) := by
    unfold Format.add
    rw [hr, hq]
    rfl
  have hv := congrArg (fun o => Option.getD o 0) hadd
  change fadd x y = _ at hv
  simp only [Option.getD_some] at hv
  rw [signed_nn hs, signed_nn ht] at hv
  have e1 : (i - single.leastPlace).toNat = (i - min i j).toNat + (min i j - single.leastPlace).toNat := by omega
  have e2 : (j - single.leastPlace).toNat = (j - min i j).toNat + (min i j - single.leastPlace).toNat := by omega
  rw [e1, mul_pow_add] at hm
  rw [e2, mul_pow_add] at hn
  generalize m * 2 ^ (i - min i j).toNat = a at *
  generalize n * 2 ^ (j - min i j).toNat = b at *
  have hmag : ((a : Int) + (b : Int)).natAbs = a + b := by omega
  rw [hmag] at hv
  have hkey := key_nearest single (if ((a : Int) + (b : Int)) = 0 then s && t else decide (((a : Int) + (b : Int)) < 0)) (a + b) (min i j)
  rw [← hv] at hkey
  have hsgn : (if ((a : Int) + (b : Int)) = 0 then s && t else decide (((a : Int) + (b : Int)) < 0)) = false ∨ rungTo single (a + b) (min i j) = 0 := by
    by_cases h0 : ((a : Int) + (b : Int)) = 0
    · right
      have : a + b = 0 := by omega
      rw [this]
      rfl
    · left
      rw [if_neg h0]
      exact decide_eq_false (by omega)
  refine ⟨a + b, min i j, by omega, by rw [Nat.add_mul, hm, hn]; rfl, ?_⟩
  rw [hkey]
  rcases hsgn with h | h
  · rw [h]; rfl
  · rw [h]; simp
theorem sh_lt (j : Nat) (h : j < 641) : shN j < 2139095040 := by
  cases j with
  | zero => rw [n_zero.1]; decide
  | succ j => exact (n_up j (by omega)).2
theorem rung_pw {x : Nat} (h : x < 2139095040) : rungOf single x = x := by
  have h1 : single.signWeight = 2147483648 := rfl
  unfold rungOf
  rw [h1]
  omega
theorem val_sh (j : Nat) (h : j < 641) : val (shN j) = j * 2 ^ 143 := by
  unfold val
  rw [rung_pw (sh_lt j h), sh_q (by omega)]
  exact Nat.eq_of_beq_eq_true (all_below q_mu h)
theorem n_add (a : Nat) (ha : a < 577) (b : Nat) (hb : b < 65) : fadd (shN a) (shN b) = shN (a + b) := by
  by_cases h0 : a + b = 0
  · obtain rfl : a = 0 := by omega
    obtain rfl : b = 0 := by omega
    rw [n_zero.1]
    decide +kernel
  have hc0 : 0 < shN (a + b) := by
    obtain ⟨q, hq⟩ : ∃ q, a + b = q + 1 := ⟨a + b - 1, by omega⟩
    have := (n_up q (by omega)).1
    rw [hq]
    omega
  have pa := pw_parts (sh_lt a (by omega))
  have pb := pw_parts (sh_lt b (by omega))
  have lc := sh_lt (a + b) (by omega)
  obtain ⟨mag, place, h1, h2, h3⟩ := add_mag pa.1 (by rw [pa.2.2]; omega) pb.1 (by rw [pb.2.2]; omega)
  have e0 : (single.leastPlace - single.leastPlace).toNat = 0 := by omega
  have hI : single.infRung = 2139095040 := rfl
  have hr : rungTo single mag place = shN (a + b) := by
    refine rungTo_exact single mag place single.leastPlace _ h1 (Int.le_refl _) (by rw [hI]; omega) ?_
    have hv := val_sh (a + b) (by omega)
    unfold val at hv
    rw [rung_pw lc] at hv
    rw [h2, val_sh a (by omega), val_sh b (by omega), hv, e0, Nat.pow_zero, Nat.mul_one, Nat.add_mul]
  rw [hr] at h3
  have hl := fadd_lt (shN a) (shN b)
  generalize fadd (shN a) (shN b) = z at *
  generalize shN (a + b) = c at *
  have h4 : single.signWeight = 2147483648 := rfl
  unfold key at h3
  cases hn : negOf single z with
  | false =>
    rw [hn] at h3
    have := word_nn hl hn
    simp at h3
    omega
  | true =>
    rw [hn] at h3
    simp at h3
    omega
theorem ceil_le {j m : Nat} (h1 : 1 ≤ m) (hj : j ≤ 640) : (j + (m - 1)) / m ≤ 640 := by
  refine Nat.div_le_of_le_mul ?_
  have : m * 640 = 640 + (m - 1) * 640 := by
    obtain ⟨q, rfl⟩ : ∃ q, m = q + 1 := ⟨m - 1, by omega⟩
    rw [Nat.add_mul, Nat.add_sub_cancel]
    omega
  omega
theorem g_brk {j m : Nat} (h1 : 1 ≤ m) (h2 : m < 11) (hj : j ≤ 640) : shN (j / m) ≤ gN j m ∧ gN j m ≤ shN ((j + (m - 1)) / m) ∧ floatToFloatBits .f32 (gN j m) .f64 = some (wdF (gN j m)) := by
  have h := all_below (all_below q_div (show m - 1 < 10 by omega)) (show j < 641 by omega)
  rw [told_eq, show m - 1 + 1 = m by omega] at h
  have hd := Nat.div_le_self j m
  have hc := ceil_le h1 hj
  unfold gN
  rw [sh_q (show j < 642 by omega), sh_q (show j / m < 642 by omega), sh_q (show (j + (m - 1)) / m < 642 by omega)]
  unfold brk at h
  simp only [Bool.and_eq_true, beq_iff_eq] at h
  exact ⟨Nat.le_of_ble_eq_true h.1.1, Nat.le_of_ble_eq_true h.1.2, h.2⟩
theorem up_64 : ∀ a, a < 65 → floatBits .add .f64 (wdF (qN a)) cD = some (dop .add (wdF (qN a)) cD) ∧ wdF (qN a) ≤ dop .add (wdF (qN a)) cD ∧ dop .add (wdF (qN a)) cD < 9218868437227405312 := by decide +kernel
theorem dn_64 : ∀ a, a < 65 → floatBits .sub .f64 (wdF (qN a)) cD = some (dop .sub (wdF (qN a)) cD) ∧ isNan double (dop .sub (wdF (qN a)) cD) = false ∧ key double (dop .sub (wdF (qN a)) cD) ≤ (wdF (qN a) : Int) := by decide +kernel
end Go.Proofs.Ytfkjnaaplhcheaa
