/-
  A row changes less and less at each step, nearly: chains all of whose steps are thick come to rest. No program.
  When a row rests, and what it is then; chains that the laws draw have thick steps. No program.
  Joined chains make two steps, nearly; lazy chains make half of one. No program.
  Sums in double precision, and the bounds of the law on the rows of chains. No program but for the runs of conversions.
-/
import Derived.Test.YtlhepgdheopgaaaBa
import Derived.Test.YtlhepgdheopgaaaJoin
import Derived.Test.YtlhepgdheopgaaaLazy
import Derived.Test.YtlhepgdheopgaaaBg
namespace Go.Proofs.Ytlhepgdheopgaaa
open Go Ieee

/-- a sum of integers -/
def sumZ (f : Nat → Int) : Nat → Int
  | 0 => 0
  | n + 1 => sumZ f n + f n
theorem sumZ_cast (f : Nat → Nat) : ∀ n, ((sumN f n : Nat) : Int) = sumZ (fun i => (f i : Int)) n := by
  intro n
  induction n with
  | zero => rfl
  | succ n ih =>
    show ((sumN f n + f n : Nat) : Int) = sumZ _ n + _
    rw [Int.natCast_add, ih]
theorem sumZ_sub (f g : Nat → Int) : ∀ n, sumZ (fun i => f i - g i) n = sumZ f n - sumZ g n := by
  intro n
  induction n with
  | zero => rfl
  | succ n ih =>
    show sumZ _ n + (f n - g n) = sumZ f n + f n - (sumZ g n + g n)
    rw [ih]
    omega
theorem sumZ_add (f g : Nat → Int) : ∀ n, sumZ (fun i => f i + g i) n = sumZ f n + sumZ g n := by
  intro n
  induction n with
  | zero => rfl
  | succ n ih =>
    show sumZ _ n + (f n + g n) = sumZ f n + f n + (sumZ g n + g n)
    rw [ih]
    omega
theorem sumZ_mul (c : Int) (f : Nat → Int) : ∀ n, sumZ (fun i => c * f i) n = c * sumZ f n := by
  intro n
  induction n with
  | zero => exact (Int.mul_zero c).symm
  | succ n ih =>
    show sumZ _ n + c * f n = c * (sumZ f n + f n)
    rw [ih, Int.mul_add]
theorem sumZ_congr {f g : Nat → Int} : ∀ n, (∀ i, i < n → f i = g i) → sumZ f n = sumZ g n := by
  intro n
  induction n with
  | zero => intro _; rfl
  | succ n ih =>
    intro h
    show sumZ f n + f n = sumZ g n + g n
    rw [ih fun i hi => h i (by omega), h n (by omega)]
theorem sumZ_abs (f : Nat → Int) : ∀ n, (sumZ f n).natAbs ≤ sumN (fun i => (f i).natAbs) n := by
  intro n
  induction n with
  | zero => exact Nat.le_refl _
  | succ n ih =>
    show (sumZ f n + f n).natAbs ≤ sumN _ n + _
    exact Nat.le_trans (Int.natAbs_add_le _ _) (Nat.add_le_add_right ih _)

/-- how far two rows of numbers lie apart -/
def apart (r s : Nat → Nat) (i : Nat) : Nat := ((s i : Int) - (r i : Int)).natAbs
/-- a row behind a step -/
def stepP (r : Nat → Nat) (c : Nat → Nat → Nat) (n k : Nat) : Nat := sumN (fun i => r i * c i k) n
theorem apart_tri (r s t : Nat → Nat) (i : Nat) : apart r t i ≤ apart r s i + apart s t i := by
  unfold apart
  omega
/-- the exact law: steps not less than 2 E / (9 n) bring rows together -/
theorem contr {n E : Nat} {c : Nat → Nat → Nat} (r s : Nat → Nat) (h : ∀ i k, i < n → k < n → 2 * E ≤ 9 * n * c i k) :
    9 * n * sumN (apart (stepP r c n) (stepP s c n)) n + 2 * n * E * sumN (apart r s) n ≤ sumN (fun i => apart r s i * (9 * n * sumN (c i) n)) n + 2 * n * E * ((sumN s n : Int) - (sumN r n : Int)).natAbs := by
  have one : ∀ k, k < n → 9 * n * apart (stepP r c n) (stepP s c n) k ≤ sumN (fun i => apart r s i * (9 * n * c i k - 2 * E)) n + 2 * E * ((sumN s n : Int) - (sumN r n : Int)).natAbs := by
    intro k hk
    have e : ((9 * n : Nat) : Int) * ((stepP s c n k : Int) - (stepP r c n k : Int)) = sumZ (fun i => ((s i : Int) - (r i : Int)) * ((9 * n * c i k - 2 * E : Nat) : Int)) n + ((2 * E : Nat) : Int) * ((sumN s n : Int) - (sumN r n : Int)) := by
      unfold stepP
      rw [sumZ_cast, sumZ_cast, sumZ_cast, sumZ_cast, ← sumZ_sub, ← sumZ_sub, ← sumZ_mul, ← sumZ_mul, ← sumZ_add]
      refine sumZ_congr n fun i hi => ?_
      have hle := h i k hi hk
      rw [Int.ofNat_sub hle, Int.natCast_mul (s i), Int.natCast_mul (r i), Int.natCast_mul (9 * n) (c i k)]
      generalize ((9 * n : Nat) : Int) = a
      generalize ((2 * E : Nat) : Int) = b
      generalize (c i k : Int) = d
      generalize (s i : Int) = x
      generalize (r i : Int) = y
      rw [← Int.sub_mul, Int.mul_sub, Int.mul_left_comm a, Int.mul_comm b]
      omega
    have e2 := congrArg Int.natAbs e
    rw [Int.natAbs_mul, Int.natAbs_natCast] at e2
    have e3 : 9 * n * apart (stepP r c n) (stepP s c n) k = (sumZ (fun i => ((s i : Int) - (r i : Int)) * ((9 * n * c i k - 2 * E : Nat) : Int)) n + ((2 * E : Nat) : Int) * ((sumN s n : Int) - (sumN r n : Int))).natAbs := e2
    rw [e3]
    refine Nat.le_trans (Int.natAbs_add_le _ _) (Nat.add_le_add ?_ ?_)
    · refine Nat.le_trans (sumZ_abs _ n) (sumN_le n fun i hi => ?_)
      rw [Int.natAbs_mul, Int.natAbs_natCast]
      exact Nat.le_refl _
    · rw [Int.natAbs_mul, Int.natAbs_natCast]
      exact Nat.le_refl _
  have all := sumN_le n one
  rw [sumN_mul, sumN_add, sumN_const, ← sumN_swap (fun i k => apart r s i * (9 * n * c i k - 2 * E))] at all
  have rows : sumN (fun i => sumN (fun k => apart r s i * (9 * n * c i k - 2 * E)) n) n + 2 * n * E * sumN (apart r s) n = sumN (fun i => apart r s i * (9 * n * sumN (c i) n)) n := by
    rw [← sumN_mul, ← sumN_add]
    refine sumN_congr n fun i hi => ?_
    rw [sumN_mul, Nat.mul_comm (2 * n * E), ← Nat.mul_add]
    refine congrArg (apart r s i * ·) ?_
    have : 2 * n * E = sumN (fun _ => 2 * E) n := by rw [sumN_const, Nat.mul_comm 2 n, Nat.mul_assoc]
    rw [this, ← sumN_add, ← sumN_mul]
    refine sumN_congr n fun k hk => ?_
    have := h i k hi hk
    omega
  have e5 : n * (2 * E * ((sumN s n : Int) - (sumN r n : Int)).natAbs) = 2 * n * E * ((sumN s n : Int) - (sumN r n : Int)).natAbs := by
    generalize ((sumN s n : Int) - (sumN r n : Int)).natAbs = q
    ac_rfl
  rw [e5] at all
  omega
theorem Nr.dist2 {k X Y : Nat} (h : Nr k X Y) (hk : 2 * k ≤ kA) : ((X : Int) - (Y : Int)).natAbs * kA ≤ (X + Y) * (2 * k) := by
  obtain ⟨g1, g2⟩ := h.gap hk
  rw [Nat.add_mul]
  generalize X * (2 * k) = a at *
  generalize Y * (2 * k) = b at *
  rcases Nat.le_total X Y with hl | hl
  · have e : ((X : Int) - (Y : Int)).natAbs = Y - X := by omega
    rw [e, Nat.sub_mul]
    omega
  · have e : ((X : Int) - (Y : Int)).natAbs = X - Y := by omega
    rw [e, Nat.sub_mul]
    omega
/-- the numbers of a row -/
def vr (r : List Nat) (i : Nat) : Nat := val (rowOf r i)
theorem rowV_vr (r : List Nat) (n : Nat) : rowV r n = sumN (vr r) n := rfl
def vc (xs : List Nat) (n i k : Nat) : Nat := val (stepOf xs n i k)
/-- a chain all of whose steps are thick -/
def Thick (n : Nat) (xs : List Nat) : Prop := ∀ i k, i < n → k < n → 2 * uE ≤ 9 * n * vc xs n i k
section
variable {n : Nat} {xs : List Nat}
/-- the sum of a row behind an exact step -/
theorem mass_P (h : Chn 32 7 n xs) (r : List Nat) : kA * sumN (stepP (vr r) (vc xs n) n) n ≤ (kA + 14) * (rowV r n * uE) := by
  have e : sumN (stepP (vr r) (vc xs n) n) n = sumN (fun i => vr r i * sumN (vc xs n i) n) n := by
    have := sumN_swap (fun i k => vr r i * vc xs n i k) n n
    show sumN (fun k => sumN (fun i => vr r i * vc xs n i k) n) n = _
    rw [← this]
    exact sumN_congr n fun i _ => sumN_mul _ _ n
  rw [e, ← sumN_mul, rowV_vr, Nat.mul_comm (sumN (vr r) n), ← Nat.mul_assoc, ← sumN_mul]
  refine sumN_le n fun i hi => ?_
  have h1 := ((h.row i hi).gap (by decide)).1
  have h2 := ((h.row i hi).gap (by decide)).2
  have h3 := ne_lin (h.row i hi).1 (by decide)
  rw [Nat.mul_left_comm, Nat.mul_comm ((kA + 14) * uE)]
  refine Nat.mul_le_mul_left _ ?_
  rw [Nat.mul_comm kA, Nat.mul_comm _ uE]
  exact h3
/-- a rounded step lies near the exact one -/
theorem step_err (h : Chn 32 7 n xs) (h5 : n ≤ 5) {r : List Nat} (hr : Rw 128 2 n r) (m1 : 64 * rowV r n ≤ 65 * uE) (m2 : 64 * rowV (stepRow xs r n) n ≤ 65 * uE) :
    kA * sumN (apart (fun k => uE * vr (stepRow xs r n) k) (stepP (vr r) (vc xs n) n)) n ≤ 25 * uE * uE := by
  have hc : 128 * 32 * kA ≤ uE := by decide
  have hd : 48 * (2 * uE) ≤ uT := by decide
  have one : ∀ k, k < n → kA * apart (fun k => uE * vr (stepRow xs r n) k) (stepP (vr r) (vc xs n) n) k ≤ 12 * (uE * vr (stepRow xs r n) k + stepP (vr r) (vc xs n) n k) := by
    intro k hk
    have h1 := ((step_near h hr hc hd hk).more (show 1 + n ≤ 6 by omega)).dist2 (by decide)
    rw [Nat.mul_comm kA, Nat.mul_comm 12, Nat.mul_comm uE, Nat.add_comm (vr (stepRow xs r n) k * uE)]
    have e : apart (fun k => uE * vr (stepRow xs r n) k) (stepP (vr r) (vc xs n) n) k = (((sumN (fun i => val (rowOf r i) * val (stepOf xs n i k)) n : Nat) : Int) - ((val (rowOf (stepRow xs r n) k) * uE : Nat) : Int)).natAbs := by
      show (((stepP (vr r) (vc xs n) n k : Nat) : Int) - ((uE * vr (stepRow xs r n) k : Nat) : Int)).natAbs = _
      rw [Nat.mul_comm uE]
      rfl
    rw [e]
    exact h1
  have h2 := sumN_le n one
  rw [sumN_mul, sumN_mul, sumN_add, sumN_mul] at h2
  have h3 := mass_P h r
  have e4 : sumN (vr (stepRow xs r n)) n = rowV (stepRow xs r n) n := rfl
  rw [e4] at h2
  have m1' := Nat.mul_le_mul_right uE m1
  have m2' := Nat.mul_le_mul_right uE m2
  have hA : kA = 8388608 := rfl
  clear one hr h
  rw [Nat.mul_assoc] at m1' m2' ⊢
  rw [Nat.mul_assoc 65] at m1' m2'
  rw [Nat.mul_comm uE (rowV (stepRow xs r n) n)] at h2
  generalize rowV r n * uE = a at *
  generalize rowV (stepRow xs r n) n * uE = b at *
  generalize sumN (stepP (vr r) (vc xs n) n) n = p at *
  generalize uE * uE = q at *
  generalize sumN (apart (fun k => uE * vr (stepRow xs r n) k) (stepP (vr r) (vc xs n) n)) n = z at *
  rw [hA] at *
  omega
/-- rows behind steps come together -/
theorem rest_apart (h : Chn 32 7 n xs) (ht : Thick n xs) (h5 : n ≤ 5) {r s : List Nat} (hr : Rw 128 2 n r) (hs : Rw 128 2 n s) (es : s = stepRow xs r n) (m1 : 64 * rowV r n ≤ 65 * uE) (m2 : 64 * rowV s n ≤ 65 * uE) (m3 : 64 * rowV (stepRow xs s n) n ≤ 65 * uE) :
    9 * kA * sumN (apart (vr s) (vr (stepRow xs s n))) n ≤ (7 * kA + 126) * sumN (apart (vr r) (vr s)) n + 560 * uE := by
  have hc : 128 * 32 * kA ≤ uE := by decide
  have hd : 48 * (2 * uE) ≤ uT := by decide
  have e1 := step_err h h5 hr m1 (by rw [← es]; exact m2)
  rw [← es] at e1
  have e2 := step_err h h5 hs m2 m3
  have c := contr (vr r) (vr s) ht
  -- the masses
  have hS : ((sumN (vr s) n : Int) - (sumN (vr r) n : Int)).natAbs * kA ≤ 54 * uE := by
    have h1 := ((step_mass h hr hc hd).more (show 1 + n + 7 ≤ 13 by omega)).dist2 (by decide)
    rw [← es] at h1
    have e : ((sumN (vr s) n : Int) - (sumN (vr r) n : Int)).natAbs = ((rowV s n : Int) - (rowV r n : Int)).natAbs := rfl
    rw [e]
    omega
  -- the rows
  have hR : kA * sumN (fun i => apart (vr r) (vr s) i * (9 * n * sumN (vc xs n i) n)) n ≤ sumN (apart (vr r) (vr s)) n * (9 * n * ((kA + 14) * uE)) := by
    rw [← sumN_mul, Nat.mul_comm (sumN (apart (vr r) (vr s)) n), ← sumN_mul]
    refine sumN_le n fun i hi => ?_
    have h3 := ne_lin (h.row i hi).1 (by decide)
    rw [Nat.mul_left_comm, Nat.mul_comm (9 * n * ((kA + 14) * uE))]
    refine Nat.mul_le_mul_left _ ?_
    rw [Nat.mul_left_comm]
    refine Nat.mul_le_mul_left _ ?_
    rw [Nat.mul_comm kA, Nat.mul_comm _ uE]
    exact h3
  -- all of it
  have tri : uE * sumN (apart (vr s) (vr (stepRow xs s n))) n ≤ sumN (apart (fun k => uE * vr s k) (stepP (vr r) (vc xs n) n)) n + sumN (apart (stepP (vr r) (vc xs n) n) (stepP (vr s) (vc xs n) n)) n + sumN (apart (fun k => uE * vr (stepRow xs s n) k) (stepP (vr s) (vc xs n) n)) n := by
    rw [← sumN_mul, ← sumN_add, ← sumN_add]
    refine sumN_le n fun k hk => ?_
    have e : uE * apart (vr s) (vr (stepRow xs s n)) k = apart (fun k => uE * vr s k) (fun k => uE * vr (stepRow xs s n) k) k := by
      unfold apart
      rw [Int.natCast_mul, Int.natCast_mul, ← Int.mul_sub, Int.natAbs_mul, Int.natAbs_natCast]
    rw [e]
    unfold apart
    omega
  have hn : 0 < n := h.low
  have h4 := Nat.mul_le_mul_left kA c
  rw [Nat.mul_add, Nat.mul_add] at h4
  have hE := uE_pos
  have k1 : kA * (2 * n * uE * ((sumN (vr s) n : Int) - (sumN (vr r) n : Int)).natAbs) ≤ n * (108 * (uE * uE)) := by
    have := Nat.mul_le_mul_left (2 * n * uE) hS
    have e3 : kA * (2 * n * uE * ((sumN (vr s) n : Int) - (sumN (vr r) n : Int)).natAbs) = 2 * n * uE * (((sumN (vr s) n : Int) - (sumN (vr r) n : Int)).natAbs * kA) := by
      generalize ((sumN (vr s) n : Int) - (sumN (vr r) n : Int)).natAbs = q
      ac_rfl
    rw [e3]
    refine Nat.le_trans this (Nat.le_of_eq ?_)
    rw [show (108 : Nat) = 2 * 54 from rfl]
    ac_rfl
  clear hS c es ht m1 m2 m3 hr hs h hc hd
  generalize sumN (fun i => apart (vr r) (vr s) i * (9 * n * sumN (vc xs n i) n)) n = X at *
  generalize ((sumN (vr s) n : Int) - (sumN (vr r) n : Int)).natAbs = S at *
  generalize sumN (apart (stepP (vr r) (vc xs n) n) (stepP (vr s) (vc xs n) n)) n = PP at *
  generalize sumN (apart (fun k => uE * vr s k) (stepP (vr r) (vc xs n) n)) n = Q1 at *
  generalize sumN (apart (fun k => uE * vr (stepRow xs s n) k) (stepP (vr s) (vc xs n) n)) n = Q2 at *
  generalize sumN (apart (vr s) (vr (stepRow xs s n))) n = D2 at *
  generalize sumN (apart (vr r) (vr s)) n = D1 at *
  have k2 : n * (9 * (kA * PP)) + n * (2 * (kA * (uE * D1))) ≤ n * (9 * ((kA + 14) * (uE * D1))) + n * (108 * (uE * uE)) := by
    have a1 : kA * (9 * n * PP) = n * (9 * (kA * PP)) := by ac_rfl
    have a2 : kA * (2 * n * uE * D1) = n * (2 * (kA * (uE * D1))) := by ac_rfl
    have a3 : D1 * (9 * n * ((kA + 14) * uE)) = n * (9 * ((kA + 14) * (uE * D1))) := by
      generalize kA + 14 = y
      ac_rfl
    rw [a1, a2] at h4
    rw [a3] at hR
    omega
  rw [← Nat.mul_add, ← Nat.mul_add] at k2
  have k3 := Nat.le_of_mul_le_mul_left k2 hn
  have k4 := Nat.mul_le_mul_left kA tri
  rw [Nat.mul_add, Nat.mul_add] at k4
  refine Nat.le_of_mul_le_mul_left (c := uE) ?_ hE
  have b1 : uE * (9 * kA * D2) = 9 * (kA * (uE * D2)) := by ac_rfl
  have b2 : uE * ((7 * kA + 126) * D1 + 560 * uE) = (7 * kA + 126) * (uE * D1) + 560 * (uE * uE) := by
    rw [Nat.mul_add]
    generalize 7 * kA + 126 = y
    have : uE * (y * D1) = y * (uE * D1) := by ac_rfl
    rw [this, Nat.mul_left_comm uE 560]
  rw [b1, b2]
  rw [Nat.mul_assoc] at e1 e2
  have hA : kA = 8388608 := rfl
  generalize uE * uE = EE at *
  generalize uE * D1 = ED1 at *
  generalize uE * D2 = ED2 at *
  rw [hA] at *
  omega
/-- the rows on the way to rest -/
def restV (xs : List Nat) (n t : Nat) : Nat → Nat := vr (restR xs n t)
def restA (xs : List Nat) (n t : Nat) : Nat := sumN (apart (restV xs n t) (restV xs n (t + 1))) n
theorem rest_mass (h : Chn 32 7 n xs) (h5 : n ≤ 5) {t : Nat} (ht : t ≤ 303) : 64 * rowV (restR xs n t) n ≤ 65 * uE := by
  have h1 := ne_lin (rest_rows h h5 t (by omega)).2.1 (by
    have : kA = 8388608 := rfl
    omega)
  have hA : kA = 8388608 := rfl
  have h2 : uE * (kA + 2 * (13 * t + 2)) ≤ uE * (kA + 7882) := Nat.mul_le_mul_left _ (by omega)
  rw [hA] at h1 h2
  generalize rowV (restR xs n t) n = a at *
  generalize uE = e at *
  omega
theorem rest_near (h : Chn 32 7 n xs) (ht : Thick n xs) (h5 : n ≤ 5) {t : Nat} (h3 : t ≤ 301) : 9 * kA * restA xs n (t + 1) ≤ (7 * kA + 126) * restA xs n t + 560 * uE :=
  rest_apart h ht h5 (rest_rows h h5 t (by omega)).1 (rest_rows h h5 (t + 1) (by omega)).1 rfl (rest_mass h h5 (by omega)) (rest_mass h h5 (by omega)) (rest_mass h h5 (t := t + 2) (by omega))
/-- the number 0.0001 -/
def nearF : Nat := 953267991
theorem near_mu : 9999 * uE ≤ 100000000 * mu single nearF ∧ 100000000 * mu single (nearF + 1) ≤ 10001 * uE := by decide +kernel
theorem apart_le (r s : Nat → Nat) (i : Nat) : apart r s i ≤ r i + s i := by
  unfold apart
  omega
theorem rest_first (h : Chn 32 7 n xs) (h5 : n ≤ 5) : restA xs n 0 ≤ 3 * uE := by
  have h1 := sumN_le n fun i (_ : i < n) => apart_le (restV xs n 0) (restV xs n 1) i
  rw [sumN_add] at h1
  have m0 : 64 * sumN (restV xs n 0) n ≤ 65 * uE := rest_mass h h5 (t := 0) (by omega)
  have m1 : 64 * sumN (restV xs n 1) n ≤ 65 * uE := rest_mass h h5 (t := 1) (by omega)
  show sumN (apart (restV xs n 0) (restV xs n (0 + 1))) n ≤ _
  rw [Nat.zero_add]
  omega
theorem rest_far (h : Chn 32 7 n xs) (ht : Thick n xs) (h5 : n ≤ 5) (hf : ∀ t, t < 300 → mu single nearF < restA xs n t) : ∀ t, t ≤ 300 → 8 ^ t * restA xs n t ≤ 7 ^ t * (3 * uE) := by
  intro t
  induction t with
  | zero =>
    intro _
    have := rest_first h h5
    show 1 * _ ≤ 1 * _
    rw [Nat.one_mul, Nat.one_mul]
    exact this
  | succ t ih =>
    intro hle
    have h1 := ih (by omega)
    have h2 := rest_near h ht h5 (t := t) (by omega)
    have h3 := hf t (by omega)
    have h4 := near_mu.1
    have hA : kA = 8388608 := rfl
    have h6 : 8 * restA xs n (t + 1) ≤ 7 * restA xs n t := by
      rw [hA] at h2
      clear h1 ih
      generalize mu single nearF = m at *
      generalize restA xs n (t + 1) = a at *
      generalize restA xs n t = b at *
      generalize uE = e at *
      omega
    rw [Nat.pow_succ, Nat.pow_succ, Nat.mul_assoc, Nat.mul_assoc]
    have h7 := Nat.mul_le_mul_left (8 ^ t) h6
    have h8 := Nat.mul_le_mul_left 7 h1
    rw [Nat.mul_left_comm] at h8
    rw [Nat.mul_left_comm 7] at h8
    exact Nat.le_trans h7 h8
theorem far_lit : 7 ^ 200 * 3 * 100000000 < 8 ^ 200 * 9999 := by decide +kernel
theorem rest_comes (h : Chn 32 7 n xs) (ht : Thick n xs) (h5 : n ≤ 5) : ∃ t, t < 300 ∧ restA xs n t ≤ mu single nearF := by
  by_cases hf : ∀ t, t < 300 → mu single nearF < restA xs n t
  · exfalso
    have h1 := rest_far h ht h5 hf 200 (by omega)
    have h2 := hf 200 (by omega)
    have h3 := near_mu.1
    have h4 := far_lit
    generalize mu single nearF = m at *
    generalize restA xs n 200 = a at *
    have hp : 0 < 8 ^ 200 := Nat.pow_pos (by decide)
    have hE := uE_pos
    generalize uE = e at *
    generalize 8 ^ 200 = p at *
    generalize 7 ^ 200 = q at *
    have h5 : p * 9999 * e ≤ q * 3 * 100000000 * e := by
      have a1 := Nat.mul_le_mul_left p h3
      have a2 := Nat.mul_le_mul_left (100000000 * p) (Nat.le_of_lt h2)
      have a3 := Nat.mul_le_mul_left 100000000 h1
      have b1 : p * (9999 * e) = p * 9999 * e := by ac_rfl
      have b2 : p * (100000000 * m) = 100000000 * p * m := by ac_rfl
      have b3 : 100000000 * (p * a) = 100000000 * p * a := by ac_rfl
      have b4 : 100000000 * (q * (3 * e)) = q * 3 * 100000000 * e := by ac_rfl
      rw [b1, b2] at a1
      rw [b3, b4] at a3
      exact Nat.le_trans a1 (Nat.le_trans a2 a3)
    have h6 := Nat.le_of_mul_le_mul_right h5 hE
    omega
  · simp only [Classical.not_forall, Nat.not_lt] at hf
    obtain ⟨t, h1, h2⟩ := hf
    exact ⟨t, h1, h2⟩
end
end Go.Proofs.Ytlhepgdheopgaaa

namespace Go.Proofs.Ytlhepgdheopgaaa
open Go Ieee

theorem gsub_above {f : Format} (he : 1 ≤ f.exponentBits) {x y r : Nat} (hx : NN f x) (hy : NN f y) (hr : r < f.infRung) (h : (key f (gsub f x y)).natAbs ≤ r) : ((gval f x : Int) - (gval f y : Int)).natAbs < mu f (r + 1) := by
  obtain ⟨mag, place, h1, h2, h3, -⟩ := gsub_mag he hx hy
  rw [h3] at h
  rcases Nat.lt_or_ge (((gval f x : Int) - (gval f y : Int)).natAbs) (mu f (r + 1)) with hl | hl
  · exact hl
  · exfalso
    have := rungTo_low f mag place f.leastPlace (r + 1) h1 (Int.le_refl _) (by omega) (by rw [Int.sub_self, Int.toNat_zero, Nat.pow_zero, Nat.mul_one, h2]; exact hl)
    omega
section
variable {n : Nat} {xs : List Nat}
theorem close_key {d near : Nat} (hd : isNan single d = false) (hn : isNan single near = false) : closeB d near = decide (key single d ≤ key single near) := le_key (f := single) (by decide) hd hn
theorem near_lit : isNan single nearF = false ∧ key single nearF = 953267991 ∧ nearF + 1 < single.infRung ∧ leastB nearF = true := by decide +kernel
theorem chg_key {next now : List Nat} (h1 : next.length = n) (h2 : next.all leastB = true) (h3 : now.length = n) (h4 : now.all leastB = true) : ∀ k, k ≤ n → (key single (chgTo next now k) ≤ 953267991 ↔ ∀ j, j < k → (key single (chgAt next now j)).natAbs ≤ 953267991) := by
  intro k
  induction k with
  | zero =>
    intro _
    have : key single (chgTo next now 0) = 0 := key_zero
    rw [this]
    exact ⟨fun _ j hj => absurd hj (Nat.not_lt_zero j), fun _ => by decide⟩
  | succ k ih =>
    intro hk
    have ih' := ih (by omega)
    have hs := key_size (chgAt_runs h1 h2 h3 h4 (show k < n by omega)).2
    have e : chgTo next now (k + 1) = if key single (chgTo next now k) < key single (sizeF (chgAt next now k)) then sizeF (chgAt next now k) else chgTo next now k := rfl
    have hall : (∀ j, j < k + 1 → (key single (chgAt next now j)).natAbs ≤ 953267991) ↔ ((∀ j, j < k → (key single (chgAt next now j)).natAbs ≤ 953267991) ∧ (key single (chgAt next now k)).natAbs ≤ 953267991) := by
      constructor
      · exact fun h => ⟨fun j hj => h j (by omega), h k (by omega)⟩
      · rintro ⟨a, b⟩ j hj
        by_cases hjk : j = k
        · rw [hjk]; exact b
        · exact a j (by omega)
    rw [hall, ← ih', e]
    by_cases hlt : key single (chgTo next now k) < key single (sizeF (chgAt next now k))
    · rw [if_pos hlt]
      rw [hs] at hlt ⊢
      generalize key single (chgTo next now k) = p at *
      constructor
      · intro h
        exact ⟨by omega, by omega⟩
      · rintro ⟨-, h⟩
        omega
    · rw [if_neg hlt]
      rw [hs] at hlt
      generalize key single (chgTo next now k) = p at *
      constructor
      · intro h
        exact ⟨h, by omega⟩
      · exact fun h => h.1
theorem rest_ok (h : Chn 32 7 n xs) (h5 : n ≤ 5) {t : Nat} (ht : t ≤ 512) : (restR xs n t).length = n ∧ (restR xs n t).all leastB = true := ⟨(rest_rows h h5 t ht).1.len, (rest_rows h h5 t ht).1.least⟩
theorem close_iff (h : Chn 32 7 n xs) (h5 : n ≤ 5) {t : Nat} (ht : t < 512) : closeB (restD xs n t) nearF = true ↔ ∀ j, j < n → (key single (chgAt (restR xs n (t + 1)) (restR xs n t) j)).natAbs ≤ 953267991 := by
  obtain ⟨a1, a2⟩ := rest_ok h h5 (t := t + 1) (by omega)
  obtain ⟨b1, b2⟩ := rest_ok h h5 (t := t) (by omega)
  have hf := (chgTo_ok a1 a2 b1 b2 n (Nat.le_refl _)).2
  rw [close_key (show isNan single (restD xs n t) = false from fin_not_nan hf) near_lit.1, decide_eq_true_eq, near_lit.2.1]
  exact chg_key a1 a2 b1 b2 n (Nat.le_refl _)
/-- a row comes to rest -/
theorem rest_finds (h : Chn 32 7 n xs) (ht : Thick n xs) (h5 : n ≤ 5) : ∃ t, t < 300 ∧ restT xs n nearF 300 = some t ∧ restA xs n t ≤ 5 * mu single (nearF + 1) := by
  obtain ⟨t0, g1, g2⟩ := rest_comes h ht h5
  have hc : closeB (restD xs n t0) nearF = true := (close_iff h h5 (by omega)).2 fun j hj => by
    obtain ⟨r1, -⟩ := rest_rows h h5 (t0 + 1) (by omega)
    obtain ⟨r2, -⟩ := rest_rows h h5 t0 (by omega)
    refine gsub_below sE (r1.nn j hj) (r2.nn j hj) ?_
    exact Nat.le_trans (sumN_at (f := apart (restV xs n t0) (restV xs n (t0 + 1))) hj) g2
  have hs : (restT xs n nearF 300).isSome = true := by
    unfold restT
    rw [List.find?_isSome]
    exact ⟨t0, List.mem_range.2 g1, hc⟩
  obtain ⟨t, hT⟩ := Option.isSome_iff_exists.1 hs
  have hlt : t < 300 := by
    unfold restT at hT
    exact List.mem_range.1 (List.mem_of_find?_eq_some hT)
  have hcl : closeB (restD xs n t) nearF = true := by
    unfold restT at hT
    have := List.find?_some hT
    exact this
  have hall := (close_iff h h5 (by omega)).1 hcl
  refine ⟨t, hlt, hT, ?_⟩
  obtain ⟨r1, -⟩ := rest_rows h h5 (t + 1) (by omega)
  obtain ⟨r2, -⟩ := rest_rows h h5 t (by omega)
  have h6 : restA xs n t ≤ sumN (fun _ => mu single (nearF + 1)) n := sumN_le n fun j hj => by
    have := gsub_above sE (r1.nn j hj) (r2.nn j hj) (r := 953267991) (by have := near_lit.2.2.1; unfold nearF at this; omega) (hall j hj)
    exact Nat.le_of_lt this
  rw [sumN_const] at h6
  exact Nat.le_trans h6 (Nat.mul_le_mul_right _ h5)
/-- behind one step more the row is the same, nearly -/
theorem rest_still (h : Chn 32 7 n xs) (ht : Thick n xs) (h5 : n ≤ 5) {t : Nat} (h3 : t < 300) (ha : restA xs n t ≤ 5 * mu single (nearF + 1)) : 10000 * restA xs n (t + 1) ≤ 5 * uE := by
  have h1 := rest_near h ht h5 (t := t) (by omega)
  have h2 := near_mu.2
  have hA : kA = 8388608 := rfl
  rw [hA] at h1
  generalize restA xs n (t + 1) = a at *
  generalize restA xs n t = b at *
  generalize mu single (nearF + 1) = m at *
  generalize uE = e at *
  omega
end
/-- the chains that the laws draw -/
theorem src_thick {q : Nat → Nat → Nat} {n : Nat} (h2 : 2 ≤ n) (hn : n ≤ 5) (hq : ∀ i k, i < n → k < n → q i k < 5) : Thick n (tab n (srcF q n)) := by
  intro i k hi hk
  have hX : ∀ k, k < n → NN single (cntF (q i k)) ∧ uE ≤ val (cntF (q i k)) ∧ val (cntF (q i k)) ≤ 5 * uE := fun k hk => cnt_nn (hq i k hi hk)
  show 2 * uE ≤ 9 * n * val (stepOf (tab n (srcF q n)) n i k)
  rw [stepOf_tab n _ hi hk]
  show 2 * uE ≤ 9 * n * val (fdiv (cntF (q i k)) (fsF (fun j => cntF (q i j)) n))
  obtain ⟨-, d2, -⟩ := src_one hn h2 (X := fun j => cntF (q i j)) hX hk
  obtain ⟨g1, g2⟩ := fs_near hn (X := fun j => cntF (q i j)) hX n (Nat.le_refl _)
  have m1 := (g2.milli (by omega)).1
  have m2 := (d2.milli (by decide)).2
  obtain ⟨-, x2, -⟩ := hX k hk
  -- the sum is at most (5 n - 4) of the own number
  have hsum : sumN (fun j => val (cntF (q i j))) n + 4 * val (cntF (q i k)) ≤ 5 * n * val (cntF (q i k)) := by
    have h1 := sumN_le (f := fun j => val (cntF (q i j)) + if j = k then 4 * val (cntF (q i k)) else 0) (g := fun _ => 5 * val (cntF (q i k))) n fun j hj => by
      show (val (cntF (q i j)) + if j = k then _ else 0) ≤ _
      have := (hX j hj).2.2
      by_cases hjk : j = k
      · subst hjk
        rw [if_pos rfl]
        omega
      · rw [if_neg hjk]
        omega
    rw [sumN_add, sumN_const, sumN_if, if_pos hk] at h1
    rw [Nat.mul_comm 5 n, Nat.mul_assoc]
    exact h1
  have hp : 0 < val (cntF (q i k)) := Nat.lt_of_lt_of_le uE_pos x2
  clear g2 d2 hX
  have m1' : 1024 * val (fsF (fun j => cntF (q i j)) n) ≤ 1025 * sumN (fun j => val (cntF (q i j))) n := m1
  have m2' : 1024 * (val (cntF (q i k)) * uE) ≤ 1025 * (val (fdiv (cntF (q i k)) (fsF (fun j => cntF (q i j)) n)) * val (fsF (fun j => cntF (q i j)) n)) := m2
  clear m1 m2 g1 x2
  generalize val (fdiv (cntF (q i k)) (fsF (fun j => cntF (q i j)) n)) = c at *
  generalize val (fsF (fun j => cntF (q i j)) n) = F at *
  generalize sumN (fun j => val (cntF (q i j))) n = T at *
  generalize val (cntF (q i k)) = x at *
  have k1 := Nat.mul_le_mul_left c m1'
  have k2 := Nat.mul_le_mul_left c hsum
  refine Nat.le_of_mul_le_mul_left (c := x) ?_ hp
  have e1 : x * (2 * uE) = 2 * (x * uE) := by ac_rfl
  have e2 : c * (1024 * F) = 1024 * (c * F) := by ac_rfl
  have e3 : c * (1025 * T) = 1025 * (c * T) := by ac_rfl
  have e4 : c * (T + 4 * x) = c * T + 4 * (c * x) := by rw [Nat.mul_add, Nat.mul_left_comm c 4]
  have e5 : c * (5 * n * x) = 5 * n * (c * x) := by ac_rfl
  have e6 : x * (9 * n * c) = 9 * n * (c * x) := by ac_rfl
  rw [e2, e3] at k1
  rw [e4, e5] at k2
  rw [e1, e6]
  generalize c * F = cF at *
  generalize c * T = cT at *
  generalize c * x = cx at *
  generalize x * uE = xe at *
  have h : n = 2 ∨ n = 3 ∨ n = 4 ∨ n = 5 := by omega
  rcases h with rfl | rfl | rfl | rfl <;> omega
end Go.Proofs.Ytlhepgdheopgaaa

namespace Go.Proofs.Ytlhepgdheopgaaa
open Go Ieee

section
variable {n : Nat} {xs : List Nat}
/-- a step of a joined chain -/
theorem join_one (h : Chn 32 7 n xs) {i k : Nat} (hi : i < n) (hk : k < n) :
    NN single (joinF xs xs n i k) ∧ Nr (1 + n) (sumN (fun j => vc xs n i j * vc xs n j k) n) (val (joinF xs xs n i k) * uE) ∧ uE ≤ 2048 * val (joinF xs xs n i k) := by
  have hm : ∀ j, j < n → NN single (fmul (stepOf xs n i j) (stepOf xs n j k)) ∧ Nr 1 (vc xs n i j * vc xs n j k) (val (fmul (stepOf xs n i j) (stepOf xs n j k)) * uE) ∧ Bd (2 * (32 * 32)) (2 * (1 * 1)) (val (fmul (stepOf xs n i j) (stepOf xs n j k))) :=
    fun j hj => mul_bd (h.nn i j hi hj) (h.nn j k hj hk) (h.bd i j hi hj) (h.bd j k hj hk) (by decide) (by decide)
  have hT : 2 * sumN (fun j => val (fmul (stepOf xs n i j) (stepOf xs n j k))) n ≤ uT := by
    have h1 := sumN_le (g := fun _ => 2 * uE) n fun j hj => (hm j hj).2.2.2
    rw [sumN_const] at h1
    have h2 : n * (2 * uE) ≤ 12 * (2 * uE) := Nat.mul_le_mul_right _ h.top
    have h3 : 2 * (12 * (2 * uE)) ≤ uT := by decide
    omega
  obtain ⟨g1, g2⟩ := fold_near (D := dotTo xs xs n i k) (M := fun j => fmul (stepOf xs n i j) (stepOf xs n j k)) rfl n h.top (fun j _ => rfl) (fun j hj => (hm j hj).1) hT n (Nat.le_refl _)
  have h1 : Nr 1 (sumN (fun j => vc xs n i j * vc xs n j k) n) (sumN (fun j => uE * val (fmul (stepOf xs n i j) (stepOf xs n j k))) n) :=
    Nr.sum n fun j hj => by rw [Nat.mul_comm uE]; exact (hm j hj).2.1
  rw [sumN_mul, Nat.mul_comm uE] at h1
  have h2 : Nr (1 + n) (sumN (fun j => vc xs n i j * vc xs n j k) n) (val (joinF xs xs n i k) * uE) := h1.trans (g2.scale uE)
  refine ⟨g1, h2, ?_⟩
  have h3 := h2.symm.twice (by have := h.top; have : (26 : Nat) ≤ kA := by decide
                               omega)
  have h4 : uE * uE ≤ 1024 * sumN (fun j => vc xs n i j * vc xs n j k) n := by
    have a1 := sumN_at (f := fun j => vc xs n i j * vc xs n j k) (n := n) (i := 0) h.low
    have a2 := Nat.mul_le_mul (h.bd i 0 hi h.low).1 (h.bd 0 k h.low hk).1
    have a3 : 32 * val (stepOf xs n i 0) * (32 * val (stepOf xs n 0 k)) = 1024 * (vc xs n i 0 * vc xs n 0 k) := by
      unfold vc
      generalize val (stepOf xs n i 0) = a
      generalize val (stepOf xs n 0 k) = b
      rw [Nat.mul_mul_mul_comm]
    rw [a3] at a2
    have a4 : vc xs n i 0 * vc xs n 0 k ≤ sumN (fun j => vc xs n i j * vc xs n j k) n := a1
    omega
  refine Nat.le_of_mul_le_mul_right (c := uE) ?_ uE_pos
  rw [Nat.mul_assoc]
  omega
def joinL (xs : List Nat) (n : Nat) : List Nat := tab n (joinF xs xs n)
theorem join_row (h : Chn 32 7 n xs) (h5 : n ≤ 5) {i : Nat} (hi : i < n) : Nr 20 (sumN (fun k => val (joinF xs xs n i k)) n) uE := by
  have h1 : Nr (1 + n) (sumN (fun k => uE * val (joinF xs xs n i k)) n) (sumN (fun k => sumN (fun j => vc xs n i j * vc xs n j k) n) n) :=
    Nr.sum n fun k hk => by rw [Nat.mul_comm uE]; exact (join_one h hi hk).2.1.symm
  rw [sumN_mul, ← sumN_swap (fun j k => vc xs n i j * vc xs n j k)] at h1
  have h2 : Nr 7 (sumN (fun j => sumN (fun k => vc xs n i j * vc xs n j k) n) n) (sumN (fun j => uE * vc xs n i j) n) :=
    Nr.sum n fun j hj => by
      rw [sumN_mul, Nat.mul_comm uE]
      have := (h.row j hj).scale (vc xs n i j)
      rwa [Nat.mul_comm _ (vc xs n i j), Nat.mul_comm uE] at this
  rw [sumN_mul] at h2
  have h3 := (h.row i hi).scale uE
  rw [Nat.mul_comm _ uE] at h3
  have h4 := (h1.trans h2).trans h3
  rw [Nat.mul_comm uE] at h4
  exact (h4.cancel uE_pos).more (by omega)
theorem join_top (h : Chn 32 7 n xs) (h2 : 2 ≤ n) (h5 : n ≤ 5) {i k : Nat} (hi : i < n) (hk : k < n) : val (joinF xs xs n i k) ≤ uE := by
  have h1 := ne_lin (join_row h h5 hi).1 (by decide)
  have h3 := sumN_le (f := fun j => uE + if j = k then 2048 * val (joinF xs xs n i k) - uE else 0) (g := fun j => 2048 * val (joinF xs xs n i j)) n fun j hj => by
    show uE + (if j = k then _ else 0) ≤ _
    have := (join_one h hi hj).2.2
    by_cases hjk : j = k
    · subst hjk
      rw [if_pos rfl]
      omega
    · rw [if_neg hjk]
      omega
  rw [sumN_add, sumN_const, sumN_if, if_pos hk, sumN_mul] at h3
  have h4 := (join_one h hi hk).2.2
  have h6 : 2 * uE ≤ n * uE := Nat.mul_le_mul_right _ h2
  have hA : kA = 8388608 := rfl
  rw [hA] at h1
  generalize sumN (fun k => val (joinF xs xs n i k)) n = S at *
  generalize val (joinF xs xs n i k) = v at *
  generalize n * uE = m at *
  generalize uE = e at *
  omega
theorem join_chn (h : Chn 32 7 n xs) (h2 : 2 ≤ n) (h5 : n ≤ 5) : Chn 2048 20 n (joinL xs n) := by
  refine ⟨h.low, h.top, tab_len _ _, fun i k hi hk => ?_, fun i k hi hk => ?_, fun i hi => ?_⟩
  · show NN single (stepOf (tab n _) n i k)
    rw [stepOf_tab n _ hi hk]
    exact (join_one h hi hk).1
  · show Bd _ _ (val (stepOf (tab n _) n i k))
    rw [stepOf_tab n _ hi hk]
    exact ⟨(join_one h hi hk).2.2, by rw [Nat.one_mul]; exact join_top h h2 h5 hi hk⟩
  · have e : sumN (fun k => val (stepOf (joinL xs n) n i k)) n = sumN (fun k => val (joinF xs xs n i k)) n := sumN_congr n fun k hk => by
      show val (stepOf (tab n _) n i k) = _
      rw [stepOf_tab n _ hi hk]
    rw [e]
    exact join_row h h5 hi
/-- rows that are drawn, behind one step and two -/
theorem next_row {ws : List Nat} (h : Chn 32 7 n xs) (hw : Rw 4 4 n ws) (h5 : n ≤ 5) : Rw 256 40 n (stepRow xs ws n) ∧ Nr 13 (rowV (stepRow xs ws n) n) (rowV ws n) ∧ rowV ws n ≤ 20 * uE := by
  have hc : 4 * 32 * kA ≤ uE := by decide
  have hd : 48 * (4 * uE) ≤ uT := by decide
  have hm := (step_mass h hw hc hd).more (show 1 + n + 7 ≤ 13 by omega)
  have ht : rowV ws n ≤ 20 * uE := by
    have h1 := sumN_le (f := fun i => val (rowOf ws i)) (g := fun _ => 4 * uE) n fun i hi => (hw.bd i hi).2
    rw [sumN_const] at h1
    have h2 : n * (4 * uE) ≤ 5 * (4 * uE) := Nat.mul_le_mul_right _ h5
    unfold rowV
    omega
  refine ⟨⟨stepRow_len _ _ _, fun k hk => (step_fold h hw hc hd hk).1, fun k hk => ⟨?_, ?_⟩⟩, hm, ht⟩
  · have h3 := (step_near h hw hc hd hk).symm.twice (by have : (26 : Nat) ≤ kA := by decide
                                                        omega)
    have h4 : uE * uE ≤ 128 * sumN (fun i => val (rowOf ws i) * val (stepOf xs n i k)) n := by
      have a1 : val (rowOf ws 0) * val (stepOf xs n 0 k) ≤ sumN (fun i => val (rowOf ws i) * val (stepOf xs n i k)) n := sumN_at (f := fun i => val (rowOf ws i) * val (stepOf xs n i k)) (n := n) (i := 0) h.low
      have a2 := Nat.mul_le_mul (hw.bd 0 h.low).1 (h.bd 0 k h.low hk).1
      have a3 : 4 * val (rowOf ws 0) * (32 * val (stepOf xs n 0 k)) = 128 * (val (rowOf ws 0) * val (stepOf xs n 0 k)) := by
        generalize val (stepOf xs n 0 k) = b
        rw [Nat.mul_mul_mul_comm]
      rw [a3] at a2
      omega
    refine Nat.le_of_mul_le_mul_right (c := uE) ?_ uE_pos
    rw [Nat.mul_assoc]
    omega
  · have h1 := hm.symm.twice (by decide)
    have h2 : val (rowOf (stepRow xs ws n) k) ≤ rowV (stepRow xs ws n) n := sumN_at (f := fun i => val (rowOf (stepRow xs ws n) i)) hk
    omega
theorem then_row {ws : List Nat} (h : Chn 32 7 n xs) (hw : Rw 4 4 n ws) (h5 : n ≤ 5) {k : Nat} (hk : k < n) : NN single (rowOf (stepRow xs (stepRow xs ws n) n) k) ∧ val (rowOf (stepRow xs (stepRow xs ws n) n) k) ≤ 40 * uE := by
  obtain ⟨hr, hm, ht⟩ := next_row h hw h5
  have hc : 256 * 32 * kA ≤ uE := by decide
  have hd : 48 * (40 * uE) ≤ uT := by decide
  refine ⟨(step_fold h hr hc hd hk).1, ?_⟩
  have hm2 := ((step_mass h hr hc hd).trans hm).more (show 1 + n + 7 + 13 ≤ 26 by omega)
  have h1 := hm2.symm.twice (by decide)
  have h2 : val (rowOf (stepRow xs (stepRow xs ws n) n) k) ≤ rowV (stepRow xs (stepRow xs ws n) n) n := sumN_at (f := fun i => val (rowOf (stepRow xs (stepRow xs ws n) n) i)) hk
  omega
/-- a step of the joined chain makes two steps -/
theorem twice_near {ws : List Nat} (h : Chn 32 7 n xs) (hw : Rw 4 4 n ws) (h2 : 2 ≤ n) (h5 : n ≤ 5) {k : Nat} (hk : k < n) :
    NN single (rowOf (stepRow (joinL xs n) ws n) k) ∧ Nr 24 (val (rowOf (stepRow xs (stepRow xs ws n) n) k)) (val (rowOf (stepRow (joinL xs n) ws n) k)) := by
  obtain ⟨hr, -, -⟩ := next_row h hw h5
  have hj := join_chn h h2 h5
  have c1 : 4 * 2048 * kA ≤ uE := by decide
  have d1 : 48 * (4 * uE) ≤ uT := by decide
  refine ⟨(step_fold hj hw c1 d1 hk).1, ?_⟩
  have h1 := step_near hj hw c1 d1 hk
  have h3 := step_near h hr (by decide) (by decide) hk
  have h4 : Nr (1 + n) (sumN (fun i => uE * (val (rowOf ws i) * val (stepOf (joinL xs n) n i k))) n) (sumN (fun i => sumN (fun j => val (rowOf ws i) * (vc xs n i j * vc xs n j k)) n) n) :=
    Nr.sum n fun i hi => by
      have e : stepOf (joinL xs n) n i k = joinF xs xs n i k := stepOf_tab n _ hi hk
      rw [e, sumN_mul]
      have := (join_one h hi hk).2.1.symm.scale (val (rowOf ws i))
      rw [Nat.mul_comm (sumN _ n)] at this
      have e2 : uE * (val (rowOf ws i) * val (joinF xs xs n i k)) = val (joinF xs xs n i k) * uE * val (rowOf ws i) := by ac_rfl
      rw [e2]
      exact this
  rw [sumN_mul, sumN_swap (fun i j => val (rowOf ws i) * (vc xs n i j * vc xs n j k))] at h4
  have h6 : Nr (1 + n) (sumN (fun j => uE * (val (rowOf (stepRow xs ws n) j) * val (stepOf xs n j k))) n) (sumN (fun j => sumN (fun i => val (rowOf ws i) * (vc xs n i j * vc xs n j k)) n) n) :=
    Nr.sum n fun j hj => by
      have h7 := (step_near h hw (by decide) (by decide) hj).symm.scale (vc xs n j k)
      have e2 : uE * (val (rowOf (stepRow xs ws n) j) * val (stepOf xs n j k)) = val (rowOf (stepRow xs ws n) j) * uE * vc xs n j k := by
        unfold vc
        ac_rfl
      have e3 : sumN (fun i => val (rowOf ws i) * (vc xs n i j * vc xs n j k)) n = sumN (fun i => val (rowOf ws i) * val (stepOf xs n i j)) n * vc xs n j k := by
        rw [Nat.mul_comm _ (vc xs n j k), ← sumN_mul]
        refine sumN_congr n fun i _ => ?_
        unfold vc
        ac_rfl
      rw [e2, e3]
      exact h7
  rw [sumN_mul] at h6
  have a1 := (h3.scale uE)
  rw [Nat.mul_comm _ uE] at a1
  have a2 := (h1.scale uE)
  rw [Nat.mul_comm _ uE] at a2
  have a3 := ((a1.symm.trans h6).trans h4.symm).trans a2
  exact ((a3.cancel uE_pos).cancel uE_pos).more (by omega)

/-! ### lazy chains -/
theorem half_lit : fsub 1065353216 1056964608 = 1056964608 ∧ NN single 1056964608 ∧ 2 * val 1056964608 = uE ∧ partB 1056964608 = true := by
  have h : fsub 1065353216 1056964608 = 1056964608 ∧ leastB 1056964608 = true ∧ 2 * val 1056964608 = uE ∧ partB 1056964608 = true := by decide +kernel
  exact ⟨h.1, nn_least.1 h.2.1, h.2.2.1, h.2.2.2⟩
theorem lazy_one (h : Chn 32 7 n xs) {i k : Nat} (hi : i < n) (hk : k < n) :
    NN single (lazyF xs n 1056964608 i k) ∧ Nr 2 (vc xs n i k + if i = k then uE else 0) (2 * val (lazyF xs n 1056964608 i k)) := by
  obtain ⟨l1, l2, l3, -⟩ := half_lit
  have hb : Bd 2 1 (val 1056964608) := ⟨by omega, by omega⟩
  obtain ⟨m1, m2, m3⟩ := mul_bd l2 (h.nn i k hi hk) hb (h.bd i k hi hk) (by decide) (by decide)
  have e : lazyOff xs n 1056964608 i k = fmul 1056964608 (stepOf xs n i k) := by unfold lazyOff; rw [l1]
  have m4 : Nr 1 (vc xs n i k) (2 * val (fmul 1056964608 (stepOf xs n i k))) := by
    have := m2.scale 2
    have e2 : val 1056964608 * val (stepOf xs n i k) * 2 = vc xs n i k * uE := by
      rw [← l3]
      unfold vc
      generalize val 1056964608 = a
      ac_rfl
    have e3 : val (fmul 1056964608 (stepOf xs n i k)) * uE * 2 = 2 * val (fmul 1056964608 (stepOf xs n i k)) * uE := by ac_rfl
    rw [e2, e3] at this
    exact this.cancel uE_pos
  unfold lazyF
  rw [e]
  by_cases hik : i = k
  · rw [if_pos hik, if_pos hik]
    have hs : val (fmul 1056964608 (stepOf xs n i k)) + val 1056964608 ≤ uT := by
      have a1 := m3.2
      have a2 := hb.2
      have a3 : 2 * (1 * 1) * uE + 1 * uE ≤ uT := by decide
      omega
    obtain ⟨s1, s2⟩ := add_near m1 l2 hs
    refine ⟨s1, ?_⟩
    have s3 := s2.scale 2
    rw [Nat.add_mul, Nat.mul_comm _ 2, Nat.mul_comm _ 2, l3, Nat.mul_comm _ 2] at s3
    exact (m4.add (Nr.refl 1 uE)).trans s3
  · rw [if_neg hik, if_neg hik, Nat.add_zero]
    exact ⟨m1, m4.more (by decide)⟩
def lazyL (xs : List Nat) (n : Nat) : List Nat := tab n (lazyF xs n 1056964608)
theorem own_top (h : Chn 32 7 n xs) (h2 : 2 ≤ n) {i k : Nat} (hi : i < n) (hk : k < n) : 64 * vc xs n i k ≤ 63 * uE := by
  have h1 := ne_lin (h.row i hi).1 (by decide)
  have h3 := sumN_le (f := fun j => uE + if j = k then 32 * vc xs n i k - uE else 0) (g := fun j => 32 * vc xs n i j) n fun j hj => by
    show uE + (if j = k then _ else 0) ≤ _
    have := (h.bd i j hi hj).1
    have e : 32 * val (stepOf xs n i j) = 32 * vc xs n i j := rfl
    by_cases hjk : j = k
    · subst hjk
      rw [if_pos rfl]
      omega
    · rw [if_neg hjk]
      omega
  rw [sumN_add, sumN_const, sumN_if, if_pos hk, sumN_mul] at h3
  have h4 : uE ≤ 32 * vc xs n i k := (h.bd i k hi hk).1
  have h6 : 2 * uE ≤ n * uE := Nat.mul_le_mul_right _ h2
  have h7 : sumN (fun j => val (stepOf xs n i j)) n = sumN (fun j => vc xs n i j) n := rfl
  rw [h7] at h1
  have hA : kA = 8388608 := rfl
  rw [hA] at h1
  generalize sumN (fun j => vc xs n i j) n = S at *
  generalize vc xs n i k = v at *
  generalize n * uE = m at *
  generalize uE = e at *
  omega
theorem lazy_chn (h : Chn 32 7 n xs) (h2 : 2 ≤ n) : Chn 128 9 n (lazyL xs n) := by
  refine ⟨h.low, h.top, tab_len _ _, fun i k hi hk => ?_, fun i k hi hk => ?_, fun i hi => ?_⟩
  · show NN single (stepOf (tab n _) n i k)
    rw [stepOf_tab n _ hi hk]
    exact (lazy_one h hi hk).1
  · show Bd _ _ (val (stepOf (tab n _) n i k))
    rw [stepOf_tab n _ hi hk]
    show uE ≤ 128 * val (lazyF xs n 1056964608 i k) ∧ val (lazyF xs n 1056964608 i k) ≤ 1 * uE
    obtain ⟨-, g⟩ := lazy_one h hi hk
    have h1 := g.symm.twice (by decide)
    have h3 := ne_lin g.2 (by decide)
    have h4 : uE ≤ 32 * vc xs n i k := (h.bd i k hi hk).1
    have h6 := own_top h h2 hi hk
    have hA : kA = 8388608 := rfl
    rw [hA] at h3
    have h7 : (if i = k then uE else 0) ≤ uE := by split <;> omega
    generalize (if i = k then uE else 0) = q at *
    generalize vc xs n i k = v at *
    generalize val (lazyF xs n 1056964608 i k) = z at *
    generalize uE = e at *
    exact ⟨by omega, by omega⟩
  · have e : sumN (fun k => val (stepOf (lazyL xs n) n i k)) n = sumN (fun k => val (lazyF xs n 1056964608 i k)) n := sumN_congr n fun k hk => by
      show val (stepOf (tab n _) n i k) = _
      rw [stepOf_tab n _ hi hk]
    rw [e]
    have h1 : Nr 2 (sumN (fun k => 2 * val (lazyF xs n 1056964608 i k)) n) (sumN (fun k => vc xs n i k + if k = i then uE else 0) n) :=
      Nr.sum n fun k hk => by
        have := (lazy_one h hi hk).2.symm
        have e2 : (if i = k then uE else 0) = (if k = i then uE else 0) := by
          by_cases hik : i = k
          · rw [if_pos hik, if_pos hik.symm]
          · rw [if_neg hik, if_neg (fun h => hik h.symm)]
        rwa [e2] at this
    rw [sumN_mul, sumN_add, sumN_if, if_pos hi] at h1
    have h3 : Nr 7 (sumN (fun k => vc xs n i k) n + uE) (uE + uE) := (h.row i hi).add (Nr.refl 7 uE)
    have h4 := h1.trans h3
    rw [show uE + uE = uE * 2 by omega, Nat.mul_comm 2] at h4
    exact h4.cancel (by decide)
/-- a lazy step -/
theorem slow_near (h : Chn 32 7 n xs) (h2 : 2 ≤ n) (h5 : n ≤ 5) {r : List Nat} (hr : Rw 128 2 n r) {k : Nat} (hk : k < n) :
    NN single (rowOf (stepRow (lazyL xs n) r n) k) ∧ Nr 14 (val (rowOf (stepRow xs r n) k) + val (rowOf r k)) (2 * val (rowOf (stepRow (lazyL xs n) r n) k)) := by
  have hz := lazy_chn h h2
  have c1 : 128 * 128 * kA ≤ uE := by decide
  have d1 : 48 * (2 * uE) ≤ uT := by decide
  refine ⟨(step_fold hz hr c1 d1 hk).1, ?_⟩
  have h1 := (step_near hz hr c1 d1 hk).scale 2
  have h3 := (step_near h hr (by decide) (by decide) hk).symm
  have h4 : Nr 2 (sumN (fun i => val (rowOf r i) * val (stepOf xs n i k) + if i = k then val (rowOf r k) * uE else 0) n) (sumN (fun i => 2 * (val (rowOf r i) * val (stepOf (lazyL xs n) n i k))) n) :=
    Nr.sum n fun i hi => by
      have e : stepOf (lazyL xs n) n i k = lazyF xs n 1056964608 i k := stepOf_tab n _ hi hk
      rw [e, Nat.mul_left_comm]
      have := (lazy_one h hi hk).2.scale (val (rowOf r i))
      rw [Nat.mul_comm _ (val (rowOf r i)), Nat.mul_comm _ (val (rowOf r i)), Nat.mul_add] at this
      have e2 : val (rowOf r i) * (if i = k then uE else 0) = if i = k then val (rowOf r k) * uE else 0 := by
        by_cases hik : i = k
        · rw [if_pos hik, if_pos hik, hik]
        · rw [if_neg hik, if_neg hik, Nat.mul_zero]
      rw [e2] at this
      exact this
  rw [sumN_add, sumN_if, if_pos hk, sumN_mul, Nat.mul_comm 2] at h4
  have h6 := (h3.add (Nr.refl (1 + n) (val (rowOf r k) * uE))).trans (h4.trans h1)
  rw [← Nat.add_mul, Nat.mul_right_comm, Nat.mul_comm _ 2] at h6
  exact (h6.cancel uE_pos).more (by omega)
end
end Go.Proofs.Ytlhepgdheopgaaa

namespace Go.Proofs.Ytlhepgdheopgaaa
open Go Go.RowKit Ieee

set_option exponentiation.threshold 2000
theorem dI : double.binade ≤ double.infRung := by decide +kernel
theorem addD_near {x y : Nat} (hx : NN double x) (hy : NN double y) (h : gval double x + gval double y ≤ uT * uD) : NN double (gadd double x y) ∧ Nr 1 (gval double x + gval double y) (gval double (gadd double x y)) := by
  obtain ⟨mag, place, h1, h2, h3⟩ := gadd_mag dE hx hy
  have hv : gval double (gadd double x y) = mu double (rungTo double mag place) := (gkey_val h3).1
  have e0 : (double.leastPlace - double.leastPlace).toNat = 0 := by omega
  rw [hv]
  rcases Nat.le_total (mag * 2 ^ (place - double.leastPlace).toNat) double.binade with hs | hs
  · have e := exact_round double mag place h1 hs dI
    rw [e, h2]
    refine ⟨nn_key dE h3 ?_, Nr.refl _ _⟩
    have : mu double (rungTo double mag place) ≤ mu double 4926937992343322624 := by rw [e, h2, muD_top]; exact h
    exact Nat.lt_of_le_of_lt ((mu_le_iff double _ _).1 this) topD_lt
  · obtain ⟨g1, g2⟩ := near_round double dA mag place double.leastPlace h1 (Int.le_refl _) 4926937992343322624 topD_lt (by rw [e0, Nat.pow_zero, Nat.mul_one]; exact Nat.le_trans dA hs) (by rw [e0, Nat.pow_zero, Nat.mul_one, muD_top, h2]; exact h)
    rw [e0, Nat.pow_zero, Nat.mul_one, h2] at g2
    exact ⟨nn_key dE h3 (Nat.lt_of_le_of_lt g1 topD_lt), g2⟩
/-- a sum in double precision of singles, so far -/
def sumD (X : Nat → Nat) : Nat → Nat
  | 0 => 0
  | k + 1 => gadd double (sumD X k) (wd (X k))
theorem nnD_zero : NN double 0 ∧ gval double 0 = 0 := by
  have h : isFin double 0 = true ∧ key double 0 = 0 ∧ gval double 0 = 0 := by decide +kernel
  exact ⟨⟨h.1, by rw [h.2.1]; decide⟩, h.2.2⟩
theorem sumD_near {X : Nat → Nat} (n : Nat) (hn : n ≤ 12) (h : ∀ k, k < n → NN single (X k) ∧ val (X k) ≤ uT) (hT : 4 * sumN (fun k => val (X k)) n ≤ uT) :
    ∀ j, j ≤ n → NN double (sumD X j) ∧ Nr (j + 1) (sumN (fun k => val (X k)) j * uD) (gval double (sumD X j)) := by
  intro j
  induction j with
  | zero =>
    intro _
    refine ⟨nnD_zero.1, ?_⟩
    show Nr _ (0 * uD) (gval double 0)
    rw [nnD_zero.2, Nat.zero_mul]
    exact Nr.refl _ _
  | succ j ih =>
    intro hj
    obtain ⟨h1, h2⟩ := ih (by omega)
    obtain ⟨a1, a2⟩ := h j (by omega)
    obtain ⟨-, w2, w3⟩ := wd_near a1 a2
    have h5 : Nr (j + 1) (sumN (fun k => val (X k)) (j + 1) * uD) (gval double (sumD X j) + gval double (wd (X j))) := by
      show Nr _ ((sumN (fun k => val (X k)) j + val (X j)) * uD) _
      rw [Nat.add_mul]
      exact h2.add (w3.more (by omega))
    have h6 := h5.twice (by have : (26 : Nat) ≤ kA := by decide
                            omega)
    have h4 : sumN (fun k => val (X k)) (j + 1) ≤ sumN (fun k => val (X k)) n := sumN_mono (f := fun k => val (X k)) (m := j + 1) n hj
    obtain ⟨g1, g2⟩ := addD_near h1 w2 (by
      have h7 : 2 * (sumN (fun k => val (X k)) (j + 1) * uD) ≤ uT * uD := by
        rw [← Nat.mul_assoc]
        exact Nat.mul_le_mul_right _ (by omega)
      exact Nat.le_trans h6 h7)
    exact ⟨g1, h5.trans g2⟩
theorem sumD_run {X : Nat → Nat} {j : Nat} (h1 : NN double (sumD X j)) (h : NN single (X j)) (ht : val (X j) ≤ uT) : floatBits .add .f64 (sumD X j) (wd (X j)) = some (sumD X (j + 1)) := by
  obtain ⟨r, g, hn⟩ := add_some (f := double) (by decide) (fin_not_nan h1.1) (wd_near h ht).2.1.1
  have e : sumD X (j + 1) = r := by
    show gadd double _ _ = r
    unfold gadd
    rw [g]
    rfl
  rw [e]
  exact g
/-- a gap of numbers in double precision -/
theorem gapD_near {a b k T r : Nat} (ha : NN double a) (hb : NN double b) (h : Nr k (gval double a) (gval double b)) (hk : 2 * k ≤ kA) (ta : gval double a ≤ T) (tb : gval double b ≤ T) (hr : T * (2 * k) ≤ kA * mu double r) : key double (gapD a b) ≤ r := by
  refine gap_below ha hb ?_
  refine Nat.le_of_mul_le_mul_right (c := kA) ?_ kA_pos
  rw [Nat.mul_comm (mu double r)]
  exact Nat.le_trans (h.dist hk ta tb) hr
/-- a gap of singles that lie near one another -/
theorem gap_abs {x y A T r : Nat} (hx : NN single x) (hy : NN single y) (tx : val x ≤ T) (ty : val y ≤ T) (hT : T ≤ uT) (h : ((val x : Int) - (val y : Int)).natAbs ≤ A) (hr : A * uD * kA + 12 * (T * uD) ≤ kA * mu double r) : key double (gapD (wd x) (wd y)) ≤ r := by
  obtain ⟨-, a1, a2⟩ := wd_near hx (Nat.le_trans tx hT)
  obtain ⟨-, b1, b2⟩ := wd_near hy (Nat.le_trans ty hT)
  refine gap_below a1 b1 ?_
  have d1 := a2.dist2 (by decide)
  have d2 := b2.dist2 (by decide)
  have t1 := a2.twice (by decide)
  have t2 := b2.twice (by decide)
  have tx' := Nat.mul_le_mul_right uD tx
  have ty' := Nat.mul_le_mul_right uD ty
  have h' := Nat.mul_le_mul_right uD h
  have e : ((val x : Int) - (val y : Int)).natAbs * uD = ((val x * uD : Nat) - (val y * uD : Nat) : Int).natAbs := by
    rw [Int.natCast_mul, Int.natCast_mul, ← Int.sub_mul, Int.natAbs_mul, Int.natAbs_natCast]
  rw [e] at h'
  have hA : kA = 8388608 := rfl
  clear e h tx ty a1 b1 a2 b2 hx hy
  generalize gval double (wd x) = p at *
  generalize gval double (wd y) = q at *
  generalize val x * uD = s at *
  generalize val y * uD = t at *
  generalize T * uD = m at *
  generalize A * uD = a at *
  rw [hA] at *
  omega
/-- 0.001 of a number that is not less than 1 -/
def oneD : Nat := 4607182418800017408
def thouD : Nat := 4562254508917369340
def hundD : Nat := 4576918229304087675
theorem oneD_ok : NN double oneD ∧ gval double oneD = uE * uD ∧ oneD ≤ double.infRung ∧ mu double oneD = gval double oneD := by
  have h : isFin double oneD = true ∧ 0 ≤ key double oneD ∧ gval double oneD = uE * uD ∧ oneD ≤ double.infRung ∧ mu double oneD = gval double oneD := by decide +kernel
  exact ⟨⟨h.1, h.2.1⟩, h.2.2.1, h.2.2.2.1, h.2.2.2.2⟩
theorem thouD_ok : NN double thouD ∧ gval double thouD = mu double thouD ∧ thouD ≤ double.infRung ∧ gval double thouD ≤ uE * uD ∧ key double thouD = thouD ∧ uE * uD ≤ 1001 * mu double thouD ∧ isNan double thouD = false := by
  have h : isFin double thouD = true ∧ 0 ≤ key double thouD ∧ gval double thouD = mu double thouD ∧ thouD ≤ double.infRung ∧ gval double thouD ≤ uE * uD ∧ key double thouD = thouD ∧ uE * uD ≤ 1001 * mu double thouD ∧ isNan double thouD = false := by decide +kernel
  exact ⟨⟨h.1, h.2.1⟩, h.2.2⟩
theorem hundD_ok : key double hundD = hundD ∧ uE * uD ≤ 101 * mu double hundD ∧ isNan double hundD = false := by decide +kernel
theorem dlp : (double.leastPlace - (double.leastPlace + double.leastPlace)).toNat = 149 + 925 := by rw [dL]; rfl
theorem bound_run {x : Nat} (hx : NN double x) (ht : 2 * gval double x ≤ uT * uD) :
    ∃ s, floatBits .add .f64 oneD x = some s ∧ ∃ b, floatBits .mul .f64 thouD s = some b ∧ isNan double b = false ∧ (thouD : Int) ≤ key double b := by
  obtain ⟨o1, o2, o3, o4⟩ := oneD_ok
  obtain ⟨t1, t2, t3, t4, -, -, -⟩ := thouD_ok
  have hb : gval double oneD + gval double x ≤ uT * uD := by
    have : 2 * (uE * uD) ≤ uT * uD := by rw [← Nat.mul_assoc]; exact Nat.mul_le_mul_right _ (by decide)
    rw [o2]
    omega
  obtain ⟨g1, g2⟩ := addD_near o1 hx hb
  obtain ⟨mag, place, h1, h2, h3⟩ := gadd_mag dE o1 hx
  have hlow : mu double oneD ≤ gval double (gadd double oneD x) := by
    rw [(gkey_val h3).1]
    refine (mu_le_iff double _ _).2 (rungTo_low double mag place double.leastPlace oneD h1 (Int.le_refl _) o3 ?_)
    rw [Int.sub_self, Int.toNat_zero, Nat.pow_zero, Nat.mul_one, h2, o4]
    omega
  obtain ⟨s, hs, hsn⟩ := add_some (f := double) (by decide) (fin_not_nan o1.1) hx.1
  have es : gadd double oneD x = s := by unfold gadd; rw [hs]; rfl
  rw [es] at g1 g2 hlow
  obtain ⟨b, hb2, hbn⟩ := mul_some (f := double) (by decide) t1.1 g1.1
  have eb : gmul double thouD s = b := by unfold gmul; rw [hb2]; rfl
  obtain ⟨mag2, place2, k1, k2, k3⟩ := gmul_mag dE t1 g1
  rw [eb] at k3
  refine ⟨s, hs, b, hb2, hbn, ?_⟩
  rw [k3]
  have hl := rungTo_low double mag2 place2 (double.leastPlace + double.leastPlace) thouD k1 (by rw [dL]; decide) t3 (by
    rw [dlp, Nat.pow_add, k2, t2]
    refine Nat.mul_le_mul_left _ ?_
    rw [o4, o2] at hlow
    exact hlow)
  exact Int.ofNat_le.2 hl
theorem gt_no {a b : Nat} {r : Int} (ha : isNan double a = false) (hb : isNan double b = false) (h1 : key double a ≤ r) (h2 : r ≤ key double b) : (FloatKind.f64.format.order a b == some .gt) = false :=
  (gt_key (f := double) (by decide) ha hb).trans (decide_eq_false (by omega))

theorem twice_calc {a e m : Nat} (h4 : e ≤ 1001 * m) (h7 : 1400 * a ≤ e) : a * 8388608 + 12 * (80 * e) ≤ 8388608 * m := by omega
section
variable {n : Nat} {xs : List Nat}
theorem rest_top (h : Chn 32 7 n xs) (h5 : n ≤ 5) {t : Nat} (ht : t ≤ 303) {k : Nat} (hk : k < n) : NN single (rowOf (restR xs n t) k) ∧ val (rowOf (restR xs n t) k) ≤ 2 * uE := by
  obtain ⟨r, -⟩ := rest_rows h h5 t (by omega)
  exact ⟨r.nn k hk, (r.bd k hk).2⟩
set_option maxRecDepth 100000 in
/-- the row at rest and the row behind one more step -/
theorem still_gap (h : Chn 32 7 n xs) (ht : Thick n xs) (h5 : n ≤ 5) {t : Nat} (h3 : t < 300) (ha : restA xs n t ≤ 5 * mu single (nearF + 1)) {k : Nat} (hk : k < n) :
    key double (gapD (wd (rowOf (stepRow xs (restR xs n (t + 1)) n) k)) (wd (rowOf (restR xs n (t + 1)) k))) ≤ thouD := by
  obtain ⟨x1, x2⟩ := rest_top h h5 (t := t + 1) (by omega) hk
  obtain ⟨y1, y2⟩ := rest_top h h5 (t := t + 2) (by omega) hk
  have hs := rest_still h ht h5 h3 ha
  have h1 : apart (restV xs n (t + 1)) (restV xs n (t + 2)) k ≤ restA xs n (t + 1) := sumN_at (f := apart (restV xs n (t + 1)) (restV xs n (t + 2))) hk
  refine gap_abs (T := 2 * uE) (A := restA xs n (t + 1)) y1 x1 y2 x2 (by decide) h1 ?_
  have h4 := thouD_ok.2.2.2.2.2.1
  have h6 := Nat.mul_le_mul_right uD hs
  have hA : kA = 8388608 := rfl
  rw [hA]
  rw [Nat.mul_assoc, Nat.mul_assoc] at h6
  rw [Nat.mul_assoc 2]
  generalize restA xs n (t + 1) * uD = a at *
  generalize uE * uD = e at *
  generalize mu double thouD = m at *
  omega
set_option maxRecDepth 100000 in
/-- the row at rest and the row behind a lazy step -/
theorem slow_gap (h : Chn 32 7 n xs) (ht : Thick n xs) (h2 : 2 ≤ n) (h5 : n ≤ 5) {t : Nat} (h3 : t < 300) (ha : restA xs n t ≤ 5 * mu single (nearF + 1)) {k : Nat} (hk : k < n) :
    NN single (rowOf (stepRow (lazyL xs n) (restR xs n (t + 1)) n) k) ∧ val (rowOf (stepRow (lazyL xs n) (restR xs n (t + 1)) n) k) ≤ 4 * uE ∧
    key double (gapD (wd (rowOf (stepRow (lazyL xs n) (restR xs n (t + 1)) n) k)) (wd (rowOf (restR xs n (t + 1)) k))) ≤ thouD := by
  obtain ⟨x1, x2⟩ := rest_top h h5 (t := t + 1) (by omega) hk
  obtain ⟨y1, y2⟩ := rest_top h h5 (t := t + 2) (by omega) hk
  have hs := rest_still h ht h5 h3 ha
  have h1 : apart (restV xs n (t + 1)) (restV xs n (t + 2)) k ≤ restA xs n (t + 1) := sumN_at (f := apart (restV xs n (t + 1)) (restV xs n (t + 2))) hk
  obtain ⟨z1, z2⟩ := slow_near h h2 h5 (rest_rows h h5 (t + 1) (by omega)).1 hk
  have e : stepRow xs (restR xs n (t + 1)) n = restR xs n (t + 2) := rfl
  rw [e] at z2
  have z3 := z2.twice (by decide)
  have z4 := z2.dist2 (by decide)
  have hz : val (rowOf (stepRow (lazyL xs n) (restR xs n (t + 1)) n) k) ≤ 4 * uE := by omega
  refine ⟨z1, hz, ?_⟩
  have h1' : ((val (rowOf (restR xs n (t + 2)) k) : Int) - (val (rowOf (restR xs n (t + 1)) k) : Int)).natAbs ≤ restA xs n (t + 1) := h1
  have hA : kA = 8388608 := rfl
  have hd : ((val (rowOf (stepRow (lazyL xs n) (restR xs n (t + 1)) n) k) : Int) - (val (rowOf (restR xs n (t + 1)) k) : Int)).natAbs ≤ restA xs n (t + 1) + uE / 1000000 * 27 := by
    have hE : 1000000 ≤ uE := by decide
    clear h1 ha ht h z2
    rw [hA] at z4
    generalize val (rowOf (stepRow (lazyL xs n) (restR xs n (t + 1)) n) k) = a at *
    generalize val (rowOf (restR xs n (t + 2)) k) = b at *
    generalize val (rowOf (restR xs n (t + 1)) k) = c at *
    generalize restA xs n (t + 1) = d at *
    generalize uE = u at *
    omega
  refine gap_abs (T := 4 * uE) (A := restA xs n (t + 1) + uE / 1000000 * 27) z1 x1 hz (by omega) (by decide) hd ?_
  have h4 := thouD_ok.2.2.2.2.2.1
  have h6 := Nat.mul_le_mul_right uD hs
  have h7 : uE / 1000000 * 27 * uD ≤ uE * uD / 1000000 * 27 := by
    have : uE / 1000000 * uD ≤ uE * uD / 1000000 := by
      rw [Nat.le_div_iff_mul_le (by decide), Nat.mul_right_comm]
      exact Nat.mul_le_mul_right _ (Nat.div_mul_le_self _ _)
    rw [Nat.mul_right_comm]
    exact Nat.mul_le_mul_right _ this
  rw [hA, Nat.add_mul]
  rw [Nat.mul_assoc, Nat.mul_assoc] at h6
  rw [Nat.mul_assoc 4]
  generalize restA xs n (t + 1) * uD = a at *
  generalize uE / 1000000 * 27 * uD = b at *
  generalize uE * uD = e at *
  generalize mu double thouD = m at *
  omega
set_option maxRecDepth 100000 in
/-- two steps, and one of the joined chain -/
theorem twice_gap {ws : List Nat} (h : Chn 32 7 n xs) (hw : Rw 4 4 n ws) (h2 : 2 ≤ n) (h5 : n ≤ 5) {k : Nat} (hk : k < n) :
    NN single (rowOf (stepRow (joinL xs n) ws n) k) ∧ val (rowOf (stepRow (joinL xs n) ws n) k) ≤ 80 * uE ∧ key double (gapD (wd (rowOf (stepRow xs (stepRow xs ws n) n) k)) (wd (rowOf (stepRow (joinL xs n) ws n) k))) ≤ thouD := by
  obtain ⟨a1, a2⟩ := then_row h hw h5 hk
  obtain ⟨b1, b2⟩ := twice_near h hw h2 h5 hk
  have b3 := b2.twice (by decide)
  have b4 : val (rowOf (stepRow (joinL xs n) ws n) k) ≤ 80 * uE := by omega
  refine ⟨b1, b4, ?_⟩
  have c1 := b2.dist2 (by decide)
  refine gap_abs (T := 80 * uE) (A := uE / 1400) a1 b1 (by omega) b4 (by decide) ?_ ?_
  · have hA : kA = 8388608 := rfl
    rw [Nat.le_div_iff_mul_le (by decide)]
    rw [hA] at c1
    clear b2 h hw b3
    generalize val (rowOf (stepRow xs (stepRow xs ws n) n) k) = a at *
    generalize val (rowOf (stepRow (joinL xs n) ws n) k) = b at *
    generalize ((a : Int) - (b : Int)).natAbs = d at *
    generalize uE = u at *
    omega
  · have h4 := thouD_ok.2.2.2.2.2.1
    have hA : kA = 8388608 := rfl
    have h7 : 1400 * (uE / 1400 * uD) ≤ uE * uD := by
      rw [← Nat.mul_assoc, Nat.mul_comm 1400]
      exact Nat.mul_le_mul_right _ (Nat.div_mul_le_self _ _)
    rw [hA, Nat.mul_assoc 80]
    exact twice_calc h4 h7
set_option maxRecDepth 100000 in
/-- the sums of the rows -/
theorem sums_gap {ws : List Nat} (h : Chn 32 7 n xs) (hw : Rw 4 4 n ws) (h5 : n ≤ 5) :
    NN double (sumD (rowOf ws) n) ∧ NN double (sumD (rowOf (stepRow xs ws n)) n) ∧ 2 * gval double (sumD (rowOf ws) n) ≤ uT * uD ∧ key double (gapD (sumD (rowOf ws) n) (sumD (rowOf (stepRow xs ws n)) n)) ≤ thouD := by
  obtain ⟨hr, hm, ht⟩ := next_row h hw h5
  have tt : 40 * uE ≤ uT := by decide
  have t4 : 4 * (40 * uE) ≤ uT := by decide
  have hm2 := hm.symm.twice (by decide)
  obtain ⟨a1, a2⟩ := sumD_near n h.top (X := rowOf ws) (fun k hk => ⟨hw.nn k hk, by have := (hw.bd k hk).2; omega⟩) (by
    have : sumN (fun k => val (rowOf ws k)) n ≤ 20 * uE := ht
    omega) n (Nat.le_refl _)
  obtain ⟨b1, b2⟩ := sumD_near n h.top (X := rowOf (stepRow xs ws n)) (fun k hk => ⟨hr.nn k hk, by have := (hr.bd k hk).2; omega⟩) (by
    have : sumN (fun k => val (rowOf (stepRow xs ws n) k)) n ≤ 40 * uE := by
      have : rowV (stepRow xs ws n) n ≤ 40 * uE := by omega
      exact this
    omega) n (Nat.le_refl _)
  have a2' := a2.more (show n + 1 ≤ 6 by omega)
  have b2' := b2.more (show n + 1 ≤ 6 by omega)
  have hN : Nr 25 (gval double (sumD (rowOf ws) n)) (gval double (sumD (rowOf (stepRow xs ws n)) n)) := (a2'.symm.trans ((hm.symm).scale uD)).trans b2'
  have ta := a2'.twice (by decide)
  have tb := b2'.twice (by decide)
  have ta2 : gval double (sumD (rowOf ws) n) ≤ 80 * (uE * uD) := by
    have : rowV ws n * uD ≤ 40 * uE * uD := Nat.mul_le_mul_right _ (by omega)
    have e : sumN (fun k => val (rowOf ws k)) n = rowV ws n := rfl
    rw [e] at ta
    rw [Nat.mul_assoc] at this
    omega
  have tb2 : gval double (sumD (rowOf (stepRow xs ws n)) n) ≤ 80 * (uE * uD) := by
    have : rowV (stepRow xs ws n) n * uD ≤ 40 * uE * uD := Nat.mul_le_mul_right _ (by omega)
    have e : sumN (fun k => val (rowOf (stepRow xs ws n) k)) n = rowV (stepRow xs ws n) n := rfl
    rw [e] at tb
    rw [Nat.mul_assoc] at this
    omega
  refine ⟨a1, b1, ?_, gapD_near a1 b1 hN (by decide) ta2 tb2 ?_⟩
  · have : 2 * (80 * uE) * uD ≤ uT * uD := Nat.mul_le_mul_right _ (by decide)
    rw [Nat.mul_assoc, Nat.mul_assoc] at this
    omega
  · have h4 := thouD_ok.2.2.2.2.2.1
    have hA : kA = 8388608 := rfl
    rw [hA]
    generalize uE * uD = e at *
    generalize mu double thouD = m at *
    omega
set_option maxRecDepth 100000 in
theorem whole_gap (h : Chn 32 7 n xs) (h5 : n ≤ 5) {t : Nat} (ht : t ≤ 300) : NN double (sumD (rowOf (restR xs n t)) n) ∧ key double (gapD (sumD (rowOf (restR xs n t)) n) oneD) ≤ hundD := by
  obtain ⟨r, hm⟩ := rest_rows h h5 t (by omega)
  have tt : 40 * uE ≤ uT := by decide
  have t4 : 4 * (40 * uE) ≤ uT := by decide
  have m2 := hm.symm.twice (by have : (20000 : Nat) ≤ kA := by decide
                               omega)
  obtain ⟨a1, a2⟩ := sumD_near n h.top (X := rowOf (restR xs n t)) (fun k hk => ⟨r.nn k hk, by have := (r.bd k hk).2; omega⟩) (by
    have : sumN (fun k => val (rowOf (restR xs n t) k)) n ≤ 2 * uE := m2
    omega) n (Nat.le_refl _)
  obtain ⟨o1, o2, -, -⟩ := oneD_ok
  have hN : Nr 3908 (gval double (sumD (rowOf (restR xs n t)) n)) (gval double oneD) := by
    rw [o2]
    exact ((a2.symm).trans (hm.scale uD)).more (by omega)
  have ta := hN.symm.twice (by decide)
  refine ⟨a1, gapD_near a1 o1 hN (by decide) (T := 2 * (uE * uD)) (by rw [o2] at ta; exact ta) (by rw [o2]; omega) ?_⟩
  have h4 := hundD_ok.2.1
  have hA : kA = 8388608 := rfl
  rw [hA]
  generalize uE * uD = e at *
  generalize mu double hundD = m at *
  omega
end
end Go.Proofs.Ytlhepgdheopgaaa
