/-
  Differences in double precision (laws.b10Gap), and how long the inputs may be (laws.b10Long).
-/
import Derived.Test.YtlhepgdheopgaaaBa
import Derived.Test.YtlhepgdheopgaaaBy
namespace Go.Proofs.Ytlhepgdheopgaaa
open Go Go.RowKit Ieee

set_option exponentiation.threshold 2000
/-- the units of a single in units of a double -/
def uD : Nat := 2 ^ 925
theorem dA : kA ≤ double.binade := by decide +kernel
theorem dE : 1 ≤ double.exponentBits := by decide
theorem dL : double.leastPlace = -1074 := by decide +kernel
theorem muD_top : mu double 4926937992343322624 = uT * uD := by decide +kernel
theorem topD_lt : 4926937992343322624 < double.infRung := by decide +kernel
theorem uD_kA : kA ≤ uD := by decide +kernel
theorem uD_pos : 0 < uD := Nat.lt_of_lt_of_le kA_pos uD_kA
/-- a single as a double -/
def wd (x : Nat) : Nat := (floatToFloatBits .f32 x .f64).getD 0
theorem pow_split (e : Nat) : 2 ^ (e + 925) = 2 ^ e * uD := Nat.pow_add 2 e 925
theorem wd_near {x : Nat} (hx : NN single x) (ht : val x ≤ uT) : floatToFloatBits .f32 x .f64 = some (wd x) ∧ NN double (wd x) ∧ Nr 1 (val x * uD) (gval double (wd x)) := by
  obtain ⟨r, hr, -⟩ := wide x (fin_not_nan hx.1)
  have hw : wd x = r := by unfold wd; rw [hr]; rfl
  obtain ⟨s, m, e, h1, hs, h2, h3, -⟩ := read_nn sE hx.1 hx.2
  have hv : m * 2 ^ (e - single.leastPlace).toNat = val x := h3
  have hlp : single.leastPlace = -149 := least_lit
  rw [hlp] at h2 hv
  have hr2 := hr
  unfold floatToFloatBits at hr2
  rw [if_neg (by decide)] at hr2
  unfold FloatKind.decode FloatKind.encode at hr2
  have hr3 : (match single.read x with | .nan _ _ => none | .infinity s => some (double.write (.infinity s)) | .number s m e => if (double.read (double.write (.number s m e))).isInfinity = true then none else some (double.write (.number s m e))) = some r := hr2
  rw [h1] at hr3
  have hr4 : r = double.nearest s m e := by
    have hr5 : (if (double.read (double.write (.number s m e))).isInfinity = true then none else some (double.write (.number s m e))) = some r := hr3
    split at hr5
    · cases hr5
    · exact (Option.some.inj hr5).symm
  have hkey := key_nearest double s m e
  rw [← hr4] at hkey
  have e1 : (e - double.leastPlace).toNat = (e - -149).toNat + 925 := by rw [dL]; omega
  have e0 : (double.leastPlace - double.leastPlace).toNat = 0 := by omega
  have hM : m * 2 ^ (e - double.leastPlace).toNat = val x * uD := by
    rw [e1, pow_split, ← Nat.mul_assoc, hv]
  have hp : double.leastPlace ≤ e := by rw [dL]; omega
  rw [hw]
  by_cases hm : m = 0
  · have hz : rungTo double m e = 0 := by rw [hm]; rfl
    rw [hz] at hkey
    have hk0 : key double r = ((0 : Nat) : Int) := by rw [hkey]; split <;> simp
    have hx0 : val x = 0 := by rw [← hv, hm, Nat.zero_mul]
    refine ⟨hr, nn_key dE hk0 (Nat.lt_of_le_of_lt (Nat.zero_le _) topD_lt), ?_⟩
    rw [(gkey_val hk0).1, mu_zero, hx0, Nat.zero_mul]
    exact Nr.refl _ _
  · have hs' : s = false := by
      rcases hs with h | h
      · exact h
      · exact absurd h hm
    rw [hs'] at hkey
    simp only [Bool.false_eq_true, if_false] at hkey
    have hv0 : 0 < val x := by
      rw [← hv]
      exact Nat.mul_pos (by omega) (Nat.two_pow_pos _)
    obtain ⟨g1, g2⟩ := near_round double dA m e double.leastPlace hp (Int.le_refl _) 4926937992343322624 topD_lt
      (by rw [e0, Nat.pow_zero, Nat.mul_one, hM]; exact Nat.le_trans uD_kA (Nat.le_mul_of_pos_left _ hv0))
      (by rw [e0, Nat.pow_zero, Nat.mul_one, hM, muD_top]; exact Nat.mul_le_mul_right _ ht)
    rw [e0, Nat.pow_zero, Nat.mul_one, hM] at g2
    refine ⟨hr, nn_key dE hkey (Nat.lt_of_le_of_lt g1 topD_lt), ?_⟩
    rw [(gkey_val hkey).1]
    exact g2
/-- the difference, without its sign -/
def gapD (a b : Nat) : Nat := if key double a < key double b then gsub double b a else gsub double a b
theorem gap_below {a b r : Nat} (ha : NN double a) (hb : NN double b) (h : ((gval double a : Int) - (gval double b : Int)).natAbs ≤ mu double r) : key double (gapD a b) ≤ r := by
  unfold gapD
  split
  · have := gsub_below dE hb ha (r := r) (by omega)
    omega
  · have := gsub_below dE ha hb h
    omega
theorem gap_near {x y k T r : Nat} (hx : NN single x) (hy : NN single y) (h : Nr k (val x) (val y)) (hk : 2 * (k + 2) ≤ kA) (tx : val x ≤ T) (ty : val y ≤ T) (hT : T ≤ uT) (hr : 2 * T * uD * (2 * (k + 2)) ≤ kA * mu double r) : key double (gapD (wd x) (wd y)) ≤ r := by
  obtain ⟨-, a1, a2⟩ := wd_near hx (Nat.le_trans tx hT)
  obtain ⟨-, b1, b2⟩ := wd_near hy (Nat.le_trans ty hT)
  have h1 : Nr (k + 2) (gval double (wd x)) (gval double (wd y)) := by
    have := (a2.symm.trans (h.scale uD)).trans b2
    exact this.more (by omega)
  have ha := a2.twice (by decide)
  have hb := b2.twice (by decide)
  have tA : gval double (wd x) ≤ 2 * T * uD := Nat.le_trans ha (by rw [Nat.mul_assoc]; exact Nat.mul_le_mul_left _ (Nat.mul_le_mul_right _ tx))
  have tB : gval double (wd y) ≤ 2 * T * uD := Nat.le_trans hb (by rw [Nat.mul_assoc]; exact Nat.mul_le_mul_left _ (Nat.mul_le_mul_right _ ty))
  refine gap_below a1 b1 ?_
  have h2 := h1.dist hk tA tB
  refine Nat.le_of_mul_le_mul_right (c := kA) ?_ kA_pos
  rw [Nat.mul_comm (mu double r)]
  exact Nat.le_trans h2 hr
theorem gsub_run {a b : Nat} (ha : NN double a) (hb : NN double b) : floatBits .sub .f64 a b = some (gsub double a b) ∧ isNan double (gsub double a b) = false := by
  obtain ⟨r, h, hn⟩ := sub_some (f := double) (by decide) (fin_not_nan ha.1) hb.1
  have e : gsub double a b = r := by unfold gsub; rw [h]; rfl
  rw [e]
  exact ⟨h, hn⟩
theorem gap_notNan {a b : Nat} (ha : NN double a) (hb : NN double b) : isNan double (gapD a b) = false := by
  unfold gapD
  split
  · exact (gsub_run hb ha).2
  · exact (gsub_run ha hb).2
set_option maxRecDepth 100000 in
set_option maxHeartbeats 800000 in
theorem b10Gap_any (a b : Nat) (w : World) (ha : NN double a) (hb : NN double b) : Calls Try.prog 13 #[.float .f64 a, .float .f64 b] w (fun e w' => e = .returned (.float .f64 (gapD a b)) ∧ w' = w) := by
  have hl : (FloatKind.f64.format.order a b == some .lt) = decide (key double a < key double b) := lt_key (f := double) (by decide) (fin_not_nan ha.1) (fin_not_nan hb.1)
  have s1 := (gsub_run ha hb).1
  have s2 := (gsub_run hb ha).1
  have e1 := fun w => run_float_arith (P := Try.prog) w .sub 37 .f64 _ _ _ s1
  have e2 := fun w => run_float_arith (P := Try.prog) w .sub 37 .f64 _ _ _ s2
  have hg : gapD a b = if key double a < key double b then gsub double b a else gsub double a b := rfl
  by_cases h : key double a < key double b
  · rw [if_pos h] at hg
    rw [decide_eq_true h] at hl
    have HG := Lib.hid hg
    clear hg h ha hb s1 s2
    go_enter Try.func13, Try.ntmps13
    go_wp2
    go_ret
    exact ⟨by rw [HG.out]; rfl, rfl⟩
  · rw [if_neg h] at hg
    rw [decide_eq_false h] at hl
    have HG := Lib.hid hg
    clear hg h ha hb s1 s2
    go_enter Try.func13, Try.ntmps13
    go_wp2
    go_ret
    exact ⟨by rw [HG.out]; rfl, rfl⟩
theorem b10Gap_quiet (a b : Nat) (w : World) (ha : NN double a) (hb : NN double b) : Calls Try.prog 13 #[.float .f64 a, .float .f64 b] w (Quiet (.float .f64 (gapD a b)) w) :=
  (b10Gap_any a b w ha hb).mono fun _ _ ⟨h1, h2⟩ => ⟨h1, 0, h2⟩
theorem b10Long_any (A B : Option Addr) (n m ca cb : Nat) (w : World) : Calls Try.prog 6 #[.slice A n ca, .slice B m cb] w (fun e w' => e = .returned (.bool (decide (1048576 < n) || decide (1048576 < m))) ∧ w = w') := by
  by_cases h1 : 1048576 < n
  · have h1I : (1048576 : Int) < (n : Int) := by omega
    go_enter Try.func6, Try.ntmps6
    go_wp2
    go_ret
    exact ⟨by rw [decide_eq_true h1]; rfl, rfl⟩
  · have h1I : ¬ (1048576 : Int) < (n : Int) := by omega
    by_cases h2 : 1048576 < m
    · have h2I : (1048576 : Int) < (m : Int) := by omega
      go_enter Try.func6, Try.ntmps6
      go_wp2
      go_ret
      exact ⟨by simp, rfl⟩
    · have h2I : ¬ (1048576 : Int) < (m : Int) := by omega
      go_enter Try.func6, Try.ntmps6
      go_wp2
      go_ret
      exact ⟨by simp, rfl⟩
/-- how a single is made wider -/
theorem wd_run {x : Nat} (hx : NN single x) (ht : val x ≤ uT) (w : World) : (convert 31 37 (.float .f32 x)).run Try.prog w = .ok (.float .f64 (wd x)) w :=
  run_convert_float_float w _ _ .f32 .f64 x _ (by rw [Try.underlying31]; rfl) Try.underlying37 (wd_near hx ht).1
end Go.Proofs.Ytlhepgdheopgaaa
