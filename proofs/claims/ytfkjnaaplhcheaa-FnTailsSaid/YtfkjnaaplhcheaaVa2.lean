/-
  impl.ValidChain gives the Bool 'validB'.
-/
import Derived.Test.YtfkjnaaplhcheaaVal
namespace Go.Proofs.Ytfkjnaaplhcheaa
open Go Go.RowKit Ieee

theorem neg_parts (x : Nat) : rungOf single (Op.negFloat .f32 x) = rungOf single x ∧ negOf single (Op.negFloat .f32 x) = !negOf single x := by
  have h1 : single.signWeight = 2 ^ 31 := rfl
  have h2 : Op.negFloat .f32 x = x ^^^ 2 ^ 31 := rfl
  unfold rungOf negOf
  rw [h1, h2]
  constructor
  · rw [Nat.xor_mod_two_pow, Nat.mod_self, Nat.xor_zero]
  · rw [← Nat.shiftRight_eq_div_pow, ← Nat.shiftRight_eq_div_pow, Nat.shiftRight_xor_distrib]
    have h3 : (2 ^ 31 : Nat) >>> 31 = 1 := rfl
    rw [h3]
    generalize x >>> 31 = y
    have h4 : (y ^^^ 1) % 2 = 1 - y % 2 := by
      have h5 := Nat.xor_mod_two_pow (a := y) (b := 1) (n := 1)
      simp only [Nat.pow_one] at h5
      rw [h5]
      rcases Nat.mod_two_eq_zero_or_one y with h | h <;> rw [h] <;> rfl
    rw [h4]
    rcases Nat.mod_two_eq_zero_or_one y with h | h <;> rw [h] <;> rfl
theorem key_neg (x : Nat) : key single (Op.negFloat .f32 x) = -key single x := by
  unfold key
  rw [(neg_parts x).1, (neg_parts x).2]
  cases negOf single x <;> simp
theorem neg_notNan {x : Nat} (h : isNan single x = false) : isNan single (Op.negFloat .f32 x) = false := by
  rw [Bool.eq_false_iff] at h ⊢
  rw [ne_eq, nan_iff single (by decide)] at h ⊢
  rw [(neg_parts x).1]
  exact h

/-- the absolute value -/
def fabs (x : Nat) : Nat := if key single x < 0 then Op.negFloat .f32 x else x
theorem fabs_notNan {x : Nat} (h : isNan single x = false) : isNan single (fabs x) = false := by
  unfold fabs
  split
  · exact neg_notNan h
  · exact h
theorem key_fabs (x : Nat) : key single (fabs x) = (key single x).natAbs := by
  unfold fabs
  split
  · rw [key_neg]; omega
  · omega
/-- a row's sum lies near 1 -/
def okSum (s : Nat) : Bool := decide (-981668463 ≤ key single (fsub s 1065353216) ∧ key single (fsub s 1065353216) ≤ 981668463)
theorem thou_notNan : isNan single 981668463 = false := by decide +kernel
theorem key_thou : key single 981668463 = 981668463 := by decide +kernel
theorem mthou_notNan : isNan single 3129152111 = false := by decide +kernel
theorem key_mthou : key single 3129152111 = -981668463 := by decide +kernel
theorem okSum_abs {s : Nat} (h : isNan single s = false) : (FloatKind.f32.format.order (fabs (fsub s 1065353216)) 981668463 == some .gt) = !okSum s := by
  have hd := (fsub_run h one_fin).2
  have := gt_key (f := single) (by decide) (fabs_notNan hd) thou_notNan
  have h2 : (FloatKind.f32.format.order (fabs (fsub s 1065353216)) 981668463 == some .gt) = decide (key single 981668463 < key single (fabs (fsub s 1065353216))) := this
  rw [h2, key_thou, key_fabs]
  unfold okSum
  rw [← decide_not]
  apply decide_eq_decide.2
  omega

def rowsOk (xs : List Nat) (n m : Nat) : Bool := (List.range m).all fun i => okSum (fsum (rowAt xs n i))
theorem rowsOk_succ (xs : List Nat) (n m : Nat) : rowsOk xs n (m + 1) = (rowsOk xs n m && okSum (fsum (rowAt xs n m))) := by
  unfold rowsOk
  rw [List.range_succ, List.all_append]
  simp
/-- a chain is valid -/
def validB (side : Int) (xs : List Nat) : Bool := inB side 1 12 && (decide ((xs.length : Int) = side * side) && (xs.all partB && rowsOk xs side.toNat side.toNat))
theorem validB_facts {side : Int} {xs : List Nat} (h : validB side xs = true) : ∃ n : Nat, side = n ∧ 1 ≤ n ∧ n ≤ 12 ∧ xs.length = n * n ∧ xs.all partB = true ∧ rowsOk xs n n = true := by
  unfold validB inB at h
  simp only [Bool.and_eq_true, decide_eq_true_eq] at h
  obtain ⟨⟨h1, h2⟩, h3, h4, h5⟩ := h
  obtain ⟨n, rfl⟩ := Int.eq_ofNat_of_zero_le (show 0 ≤ side by omega)
  refine ⟨n, rfl, by omega, by omega, ?_, h4, h5⟩
  have : ((xs.length : Nat) : Int) = ((n * n : Nat) : Int) := by rw [h3]; push_cast; rfl
  exact Int.ofNat.inj this
theorem validB_bad1 {side : Int} {xs : List Nat} (h : inB side 1 12 = false) : validB side xs = false := by unfold validB; rw [h]; rfl
theorem validB_nat {n : Nat} {xs : List Nat} (h1 : 1 ≤ n) (h2 : n ≤ 12) : validB n xs = (decide (xs.length = n * n) && (xs.all partB && rowsOk xs n n)) := by
  unfold validB inB
  rw [decide_eq_true (by omega), Bool.true_and, Int.toNat_natCast]
  congr 1
  apply decide_eq_decide.2
  constructor
  · intro h
    have : ((xs.length : Nat) : Int) = ((n * n : Nat) : Int) := by rw [h]; push_cast; rfl
    exact Int.ofNat.inj this
  · intro h
    rw [h]
    push_cast
    rfl
theorem rowsOk_false {xs : List Nat} {n m : Nat} (h : rowsOk xs n m = false) (hm : m ≤ n) : rowsOk xs n n = false := by
  unfold rowsOk at *
  rw [List.all_eq_false] at h ⊢
  obtain ⟨i, hi, hb⟩ := h
  exact ⟨i, List.mem_range.2 (by have := List.mem_range.1 hi; omega), hb⟩

end Go.Proofs.Ytfkjnaaplhcheaa

