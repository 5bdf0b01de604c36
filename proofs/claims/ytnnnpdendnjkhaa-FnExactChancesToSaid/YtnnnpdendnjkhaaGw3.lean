/-
  A row grows by no more than an eighth at a step of a valid chain; 512 steps stay finite. No program.
-/
import Derived.Test.YtnnnpdendnjkhaaGw2
import Derived.Test.YtnnnpdendnjkhaaRow
namespace Go.Proofs.Ytnnnpdendnjkhaa
open Go Ieee

/-- a fold of roundings from below: the sum so far -/
theorem fold_up {D M : Nat → Nat} (hD0 : val (D 0) = 0) (n : Nat) (hn : n ≤ 12) (hS : ∀ i, i < n → D (i + 1) = fadd (D i) (M i)) (hM : ∀ i, i < n → isFin single (M i) = true ∧ 0 ≤ key single (M i)) (hf0 : isFin single (D 0) = true) (hk0 : 0 ≤ key single (D 0)) (hT : sumN (fun i => val (M i)) n ≤ 2 ^ 270) :
    ∀ i, i ≤ n → isFin single (D i) = true ∧ 0 ≤ key single (D i) ∧ Up i (val (D i)) (sumN (fun j => val (M j) + 1) i) := by
  intro i
  induction i with
  | zero =>
    intro _
    refine ⟨hf0, hk0, ?_⟩
    rw [hD0]
    exact Up.refl _ _
  | succ i ih =>
    intro hi
    obtain ⟨h1, h2, h3⟩ := ih (by omega)
    obtain ⟨m1, m2⟩ := hM i (by omega)
    have hk := (add_nn (fin_not_nan h1) h2 m1 m2).1
    have hu := add_up h1 h2 m1 m2
    rw [← hS i (by omega)] at hk hu
    have hU : Up 1 (val (D (i + 1))) (val (D i) + (val (M i) + 1)) := Up.one (by omega)
    have h4 : Up (1 + i) (val (D (i + 1))) (sumN (fun j => val (M j) + 1) (i + 1)) := hU.trans (h3.add (Up.refl i _))
    rw [Nat.add_comm 1 i] at h4
    refine ⟨val_fin ?_, hk, h4⟩
    rw [val_inf]
    have h5 := h4.twice (by omega)
    have h6 : sumN (fun j => val (M j) + 1) (i + 1) ≤ sumN (fun j => val (M j)) n + 12 := by
      rw [sumN_add, sumN_const, Nat.mul_one]
      exact Nat.add_le_add (sumN_mono n hi) (by omega)
    have h7 : 2 * (2 ^ 270 + 12) < 2 ^ 277 := by decide +kernel
    generalize 2 ^ 270 = a at *
    generalize 2 ^ 277 = b at *
    omega
/-- and from above -/
theorem fold_down {D M : Nat → Nat} (n : Nat) (hS : ∀ i, i < n → D (i + 1) = fadd (D i) (M i)) (hM : ∀ i, i < n → isFin single (M i) = true ∧ 0 ≤ key single (M i)) (hD : ∀ i, i ≤ n → isFin single (D i) = true ∧ 0 ≤ key single (D i)) :
    ∀ i, i ≤ n → Up i (sumN (fun j => val (M j)) i) (val (D i) + i) := by
  intro i
  induction i with
  | zero => intro _; exact (Up.refl 0 0).le (Nat.zero_le _)
  | succ i ih =>
    intro hi
    obtain ⟨h1, h2⟩ := hD i (by omega)
    obtain ⟨m1, m2⟩ := hM i (by omega)
    have hd := add_down h1 h2 m1 m2 (by rw [← hS i (by omega)]; exact (hD (i + 1) hi).1)
    rw [← hS i (by omega)] at hd
    have hU : Up 1 (val (D i) + val (M i)) (val (D (i + 1)) + 1) := Up.one (by omega)
    have h3 : Up i (sumN (fun j => val (M j)) (i + 1)) (val (D i) + i + val (M i)) := (ih (by omega)).add (Up.refl i _)
    have h4 : Up 1 (val (D i) + i + val (M i)) (val (D (i + 1)) + (i + 1)) := by
      have := hU.add (Up.refl 1 i)
      rwa [show val (D i) + val (M i) + i = val (D i) + i + val (M i) by omega, show val (D (i + 1)) + 1 + i = val (D (i + 1)) + (i + 1) by omega] at this
    exact h3.trans h4
/-- a row's worth -/
def rowV (row : List Nat) (n : Nat) : Nat := sumN (fun i => val (rowOf row i)) n
theorem part_val {x : Nat} (h : partB x = true) : val x ≤ 2 ^ 149 := by
  obtain ⟨a, b, c, d⟩ := part_key h
  rw [← val_one]
  exact val_mono b (by rw [key_one]; exact c)
/-- the sum of the steps of a state -/
theorem steps_sum {xs : List Nat} {n i : Nat} (hn2 : n ≤ 12) (hl : xs.length = n * n) (hp : xs.all partB = true) (ho : rowsOk xs n n = true) (hi : i < n) : Up 12 (sumN (fun k => val (stepOf xs n i k)) n) (129 * 2 ^ 142 + 12) := by
  have hpart := fun k (hk : k < n) => part_key (stepOf_part hl hp hi hk)
  have hS : ∀ k, k < n → fsum ((rowAt xs n i).take (k + 1)) = fadd (fsum ((rowAt xs n i).take k)) (stepOf xs n i k) := by
    intro k hk
    have hkl : k < (rowAt xs n i).length := by rw [rowAt_len hl hi]; exact hk
    rw [fsum_take_succ _ _ hkl, rowAt_get hl hi hk hkl]
    unfold stepOf
    rw [List.getD_eq_getElem?_getD, List.getElem?_eq_getElem (by rw [hl]; exact idx_lt hi hk)]
    rfl
  have hM : ∀ k, k < n → isFin single (stepOf xs n i k) = true ∧ 0 ≤ key single (stepOf xs n i k) := fun k hk => ⟨(hpart k hk).2.2.2, (hpart k hk).2.1⟩
  have h0 : fsum ((rowAt xs n i).take 0) = 0 := rfl
  have hT : sumN (fun k => val (stepOf xs n i k)) n ≤ 2 ^ 270 := by
    refine Nat.le_trans (sumN_le (g := fun _ => 2 ^ 149) n fun k hk => part_val (stepOf_part hl hp hi hk)) ?_
    rw [sumN_const]
    refine Nat.le_trans (Nat.mul_le_mul_right _ hn2) ?_
    decide +kernel
  have hup := fold_up (D := fun k => fsum ((rowAt xs n i).take k)) (M := stepOf xs n i) (by show val (fsum _) = 0; rw [h0]; exact val_zero) n hn2 hS hM (by show isFin single (fsum _) = true; rw [h0]; decide +kernel) (by show 0 ≤ key single (fsum _); rw [h0, key_zero]; exact Int.le_refl _) hT
  have hdn := fold_down (D := fun k => fsum ((rowAt xs n i).take k)) (M := stepOf xs n i) n hS hM (fun k hk => ⟨(hup k hk).1, (hup k hk).2.1⟩) n (Nat.le_refl _)
  refine (hdn.more hn2).le (Nat.add_le_add ?_ hn2)
  obtain ⟨f1, f2, -⟩ := hup n (Nat.le_refl _)
  have hfull : (rowAt xs n i).take n = rowAt xs n i := by
    rw [List.take_of_length_le]
    rw [rowAt_len hl hi]
    exact Nat.le_refl _
  show val (fsum ((rowAt xs n i).take n)) ≤ _
  have f1' : isFin single (fsum ((rowAt xs n i).take n)) = true := f1
  have f2' : 0 ≤ key single (fsum ((rowAt xs n i).take n)) := f2
  rw [hfull] at f1' f2' ⊢
  refine ok_val f1' f2' ?_
  unfold rowsOk at ho
  exact List.all_eq_true.1 ho i (List.mem_range.2 hi)
set_option maxRecDepth 10000 in
theorem mul_calc {V E P : Nat} (h : V * 1024 * E ≤ P * 1025 + 1024 * E) : E * (V + 1) * 1024 ≤ (P + 2 * E) * 1025 := by
  rw [Nat.mul_right_comm, Nat.mul_comm V E] at h
  rw [Nat.mul_add, Nat.mul_one]
  generalize E * V = W at *
  omega
set_option maxRecDepth 10000 in
theorem grow_calc {T T' A R Q C D : Nat} (hall : C * T' * D ≤ A * (T * R + Q)) (hc1 : A * (8 * R) ≤ 9 * (C * D)) (hc2 : A * (8 * Q) ≤ 4096 * (C * D)) (hpos : 0 < C * D) : 8 * T' ≤ 9 * T + 4096 := by
  refine Nat.le_of_mul_le_mul_right (c := C * D) ?_ hpos
  have hl' : 8 * T' * (C * D) = 8 * (C * T' * D) := by
    rw [Nat.mul_assoc, Nat.mul_left_comm T', Nat.mul_assoc]
  rw [hl']
  refine Nat.le_trans (Nat.mul_le_mul_left 8 hall) ?_
  have hd1 := Nat.mul_le_mul_left T hc1
  have e1 : 8 * (A * (T * R + Q)) = T * (A * (8 * R)) + A * (8 * Q) := by
    rw [Nat.mul_left_comm 8 A, Nat.mul_add, Nat.mul_add, Nat.mul_left_comm 8 T, Nat.mul_left_comm A T]
  have e2 : (9 * T + 4096) * (C * D) = T * (9 * (C * D)) + 4096 * (C * D) := by
    rw [Nat.add_mul, Nat.mul_left_comm T 9, Nat.mul_assoc]
  rw [e1, e2]
  exact Nat.add_le_add hd1 hc2
/-- one step: the row is finite, and its worth is no more than an eighth greater -/
theorem step_grow {xs row : List Nat} {n : Nat} (hn2 : n ≤ 12) (hl : xs.length = n * n) (hp : xs.all partB = true) (ho : rowsOk xs n n = true) (hrl : row.length = n) (hr : row.all leastB = true) (hT : rowV row n ≤ 2 ^ 250) :
    (stepRow xs row n).all (isFin single) = true ∧ 8 * rowV (stepRow xs row n) n ≤ 9 * rowV row n + 4096 := by
  have hrow := fun i (hi : i < n) => rowOf_least hr (show i < row.length by omega)
  have hpart := fun i k (hi : i < n) (hk : k < n) => part_key (stepOf_part hl hp hi hk)
  have hmul := fun i k (hi : i < n) (hk : k < n) => mul_nn (hrow i hi).1 (hpart i k hi hk).2.2.2 (hrow i hi).2 (hpart i k hi hk).2.1 (hpart i k hi hk).2.2.1
  have hdot : ∀ k, k < n → isFin single (dotRow xs row n k n) = true ∧ Up 12 (val (dotRow xs row n k n)) (sumN (fun i => val (fmul (rowOf row i) (stepOf xs n i k)) + 1) n) := by
    intro k hk
    have hTk : sumN (fun i => val (fmul (rowOf row i) (stepOf xs n i k))) n ≤ 2 ^ 270 := by
      refine Nat.le_trans (sumN_le (g := fun i => val (rowOf row i)) n fun i hi => ?_) (Nat.le_trans hT ?_)
      · exact val_mono (hmul i k hi hk).2.1 (hmul i k hi hk).2.2
      · decide +kernel
    have := fold_up (D := dotRow xs row n k) (M := fun i => fmul (rowOf row i) (stepOf xs n i k)) val_zero n hn2 (fun i _ => rfl) (fun i hi => ⟨(hmul i k hi hk).1, (hmul i k hi hk).2.1⟩) (by show isFin single 0 = true; decide +kernel) (by show 0 ≤ key single 0; rw [key_zero]; exact Int.le_refl _) hTk n (Nat.le_refl _)
    exact ⟨this.1, this.2.2.more hn2⟩
  have hrs : ∀ k, k < n → rowOf (stepRow xs row n) k = dotRow xs row n k n := by
    intro k hk
    unfold rowOf stepRow
    rw [List.getD_eq_getElem?_getD, List.getElem?_eq_getElem (by simpa using hk)]
    simp
  constructor
  · rw [List.all_eq_true]
    intro x hx
    unfold stepRow at hx
    rw [List.mem_map] at hx
    obtain ⟨k, hk, rfl⟩ := hx
    exact (hdot k (List.mem_range.1 hk)).1
  · -- E * T'
    have hE : ∀ k, k < n → Up 13 (2 ^ 149 * val (rowOf (stepRow xs row n) k)) (sumN (fun i => val (rowOf row i) * val (stepOf xs n i k) + 2 * 2 ^ 149) n) := by
      intro k hk
      rw [hrs k hk]
      have h1 := (hdot k hk).2.mul (2 ^ 149)
      rw [← sumN_mul] at h1
      have h2 : Up 1 (sumN (fun i => 2 ^ 149 * (val (fmul (rowOf row i) (stepOf xs n i k)) + 1)) n) (sumN (fun i => val (rowOf row i) * val (stepOf xs n i k) + 2 * 2 ^ 149) n) := by
        refine Up.sum n fun i hi => Up.one ?_
        have h3 := mul_up (hrow i hi).1 (hrow i hi).2 (hpart i k hi hk).2.2.2 (hpart i k hi hk).2.1
        generalize val (rowOf row i) * val (stepOf xs n i k) = P at *
        generalize val (fmul (rowOf row i) (stepOf xs n i k)) = V at *
        generalize 2 ^ 149 = E at *
        exact mul_calc h3
      exact h1.trans h2
    have hsum := Up.sum n hE
    rw [sumN_mul] at hsum
    have hrhs : sumN (fun k => sumN (fun i => val (rowOf row i) * val (stepOf xs n i k) + 2 * 2 ^ 149) n) n = sumN (fun i => val (rowOf row i) * sumN (fun k => val (stepOf xs n i k)) n) n + n * (n * (2 * 2 ^ 149)) := by
      rw [sumN_swap, ← sumN_const (n * (2 * 2 ^ 149)) n, ← sumN_add]
      refine sumN_congr n fun i hi => ?_
      rw [sumN_add, sumN_mul, sumN_const]
    rw [hrhs] at hsum
    have hS : Up 12 (sumN (fun i => val (rowOf row i) * sumN (fun k => val (stepOf xs n i k)) n) n + n * (n * (2 * 2 ^ 149))) (rowV row n * (129 * 2 ^ 142 + 12) + n * (n * (2 * 2 ^ 149))) := by
      refine Up.add ?_ (Up.refl _ _)
      have : rowV row n * (129 * 2 ^ 142 + 12) = sumN (fun i => val (rowOf row i) * (129 * 2 ^ 142 + 12)) n := by
        unfold rowV
        rw [Nat.mul_comm, ← sumN_mul]
        exact sumN_congr n fun i _ => Nat.mul_comm _ _
      rw [this]
      exact Up.sum n fun i hi => (steps_sum hn2 hl hp ho hi).mul _
    have hall : Up 25 (2 ^ 149 * rowV (stepRow xs row n) n) (rowV row n * (129 * 2 ^ 142 + 12) + 288 * 2 ^ 149) := by
      refine (hsum.trans hS).le (Nat.add_le_add_left ?_ _)
      have h1 : n * n ≤ 144 := Nat.mul_le_mul hn2 hn2
      rw [← Nat.mul_assoc, ← Nat.mul_assoc]
      exact Nat.mul_le_mul_right _ (by omega)
    unfold Up at hall
    have hc1 : 1025 ^ 25 * (8 * (129 * 2 ^ 142 + 12)) ≤ 9 * (2 ^ 149 * 1024 ^ 25) := by decide +kernel
    have hc2 : 1025 ^ 25 * (8 * (288 * 2 ^ 149)) ≤ 4096 * (2 ^ 149 * 1024 ^ 25) := by decide +kernel
    have hpos : 0 < 2 ^ 149 * 1024 ^ 25 := by decide +kernel
    generalize rowV (stepRow xs row n) n = T' at *
    generalize rowV row n = T at *
    exact grow_calc hall hc1 hc2 hpos
theorem nine_eight : ∀ d, 8 ^ d ≤ 9 ^ d := fun d => Nat.pow_le_pow_left (by decide) d
set_option exponentiation.threshold 600 in
theorem rest_bound {s T : Nat} (hs : s ≤ 512) (h : 8 ^ s * (T + 4096) ≤ 9 ^ s * (13 * 2 ^ 149)) : T ≤ 2 ^ 250 := by
  have hc : (9 : Nat) ^ 512 * (13 * 2 ^ 149) ≤ 8 ^ 512 * 2 ^ 250 := by decide +kernel
  have h1 : 8 ^ 512 * (T + 4096) ≤ 9 ^ 512 * (13 * 2 ^ 149) := by
    have e : 512 = (512 - s) + s := by omega
    rw [e, Nat.pow_add, Nat.pow_add, Nat.mul_assoc, Nat.mul_assoc]
    exact Nat.mul_le_mul (nine_eight _) h
  have h2 := Nat.le_of_mul_le_mul_left (Nat.le_trans h1 hc) (Nat.pow_pos (by decide))
  exact Nat.le_trans (Nat.le_add_right _ _) h2
/-- the row at a time -/
def restRow (xs row : List Nat) (n : Nat) : Nat → List Nat
  | 0 => row
  | s + 1 => stepRow xs (restRow xs row n s) n
theorem rest_grow {xs row : List Nat} {n : Nat} (hn2 : n ≤ 12) (hl : xs.length = n * n) (hp : xs.all partB = true) (ho : rowsOk xs n n = true) (hrl : row.length = n) (hr : row.all leastB = true) (hT : rowV row n ≤ 12 * 2 ^ 149) :
    ∀ s, s ≤ 512 → (restRow xs row n s).length = n ∧ (restRow xs row n s).all leastB = true ∧ 8 ^ s * (rowV (restRow xs row n s) n + 4096) ≤ 9 ^ s * (13 * 2 ^ 149) := by
  intro s
  induction s with
  | zero =>
    intro _
    refine ⟨hrl, hr, ?_⟩
    show 1 * _ ≤ 1 * _
    rw [Nat.one_mul, Nat.one_mul]
    refine Nat.le_trans (Nat.add_le_add_right hT _) ?_
    decide +kernel
  | succ s ih =>
    intro hs
    obtain ⟨h1, h2, h3⟩ := ih (by omega)
    have hb := rest_bound (by omega) h3
    obtain ⟨g1, g2⟩ := step_grow hn2 hl hp ho h1 h2 hb
    refine ⟨stepRow_len _ _ _, stepRow_least hl hp h1 h2 g1, ?_⟩
    show 8 ^ (s + 1) * (rowV (stepRow xs (restRow xs row n s) n) n + 4096) ≤ _
    generalize rowV (stepRow xs (restRow xs row n s) n) n = T' at *
    generalize rowV (restRow xs row n s) n = T at *
    have e1 : 8 ^ (s + 1) * (T' + 4096) = 8 ^ s * (8 * (T' + 4096)) := by rw [Nat.pow_succ, Nat.mul_assoc]
    have e2 : 8 * (T' + 4096) ≤ 9 * (T + 4096) := by
      clear hb h3 e1 g1 h1 h2 hs hT ih
      omega
    rw [e1]
    refine Nat.le_trans (Nat.mul_le_mul_left _ e2) ?_
    rw [Nat.mul_left_comm, Nat.pow_succ, Nat.mul_comm (9 ^ s) 9, Nat.mul_assoc 9]
    exact Nat.mul_le_mul_left 9 h3
end Go.Proofs.Ytnnnpdendnjkhaa
