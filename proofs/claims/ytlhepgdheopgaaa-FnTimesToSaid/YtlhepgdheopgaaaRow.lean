/-
  A row behind a step, many steps, the greatest miss of a balance: what they are, and that no NaN comes. No program.
-/
import Derived.Test.YtlhepgdheopgaaaNn
import Derived.Test.YtlhepgdheopgaaaStep
namespace Go.Proofs.Ytlhepgdheopgaaa
open Go Ieee

theorem least_iff {x : Nat} : leastB x = true ↔ isFin single x = true ∧ 0 ≤ key single x := by
  unfold leastB
  rw [Bool.and_eq_true]
  constructor
  · rintro ⟨h1, h2⟩
    refine ⟨h1, ?_⟩
    rw [ge_key (by decide) (fin_not_nan h1) zero_notNan, key_zero] at h2
    exact of_decide_eq_true h2
  · rintro ⟨h1, h2⟩
    refine ⟨h1, ?_⟩
    rw [ge_key (by decide) (fin_not_nan h1) zero_notNan, key_zero]
    exact decide_eq_true h2
def rowOf (row : List Nat) (i : Nat) : Nat := row.getD i 0
theorem rowOf_least {row : List Nat} {i : Nat} (hr : row.all leastB = true) (hi : i < row.length) : isFin single (rowOf row i) = true ∧ 0 ≤ key single (rowOf row i) := by
  unfold rowOf
  rw [List.getD_eq_getElem?_getD, List.getElem?_eq_getElem hi]
  exact least_iff.1 (List.all_eq_true.1 hr _ (List.getElem_mem hi))
theorem rowOf_cell {w : World} {b off i : Nat} {row : List Nat} (hi : i < row.length) (hc : ∀ p (h : p < (fl row).length), w.cell? ⟨b, off + p, none⟩ = some (fl row)[p]) : w.cell? ⟨b, off + i, none⟩ = some (.float .f32 (rowOf row i)) := by
  rw [hc _ (by rw [fl_len]; exact hi)]
  unfold rowOf
  rw [List.getD_eq_getElem?_getD, List.getElem?_eq_getElem hi]
  simp [fl]

/-- the number at a place behind a step, so far -/
def dotRow (xs row : List Nat) (n k : Nat) : Nat → Nat
  | 0 => 0
  | i + 1 => fadd (dotRow xs row n k i) (fmul (rowOf row i) (stepOf xs n i k))
def stepRow (xs row : List Nat) (n : Nat) : List Nat := (List.range n).map fun k => dotRow xs row n k n
theorem stepRow_len (xs row : List Nat) (n : Nat) : (stepRow xs row n).length = n := by simp [stepRow]
theorem dotRow_runs {xs row : List Nat} {n k : Nat} (hl : xs.length = n * n) (hp : xs.all partB = true) (hrl : row.length = n) (hr : row.all leastB = true) (hk : k < n) :
    ∀ i, i ≤ n → (isNan single (dotRow xs row n k i) = false ∧ 0 ≤ key single (dotRow xs row n k i)) ∧
      (i < n → floatBits .mul .f32 (rowOf row i) (stepOf xs n i k) = some (fmul (rowOf row i) (stepOf xs n i k)) ∧ floatBits .add .f32 (dotRow xs row n k i) (fmul (rowOf row i) (stepOf xs n i k)) = some (dotRow xs row n k (i + 1))) := by
  intro i
  induction i with
  | zero =>
    intro _
    refine ⟨⟨zero_notNan, by rw [show dotRow xs row n k 0 = 0 from rfl, key_zero]; exact Int.le_refl _⟩, fun hi => ?_⟩
    obtain ⟨f1, k1⟩ := rowOf_least hr (show 0 < row.length by omega)
    obtain ⟨p1, p2, p3, p4⟩ := part_key (stepOf_part hl hp hi hk)
    obtain ⟨m1, m2, m3⟩ := mul_nn f1 p4 k1 p2 p3
    exact ⟨(fmul_run f1 p4).1, (fadd_run zero_notNan m1).1⟩
  | succ i ih =>
    intro hi
    obtain ⟨⟨a1, a2⟩, a3⟩ := ih (by omega)
    obtain ⟨f1, k1⟩ := rowOf_least hr (show i < row.length by omega)
    obtain ⟨p1, p2, p3, p4⟩ := part_key (stepOf_part hl hp (show i < n by omega) hk)
    obtain ⟨m1, m2, m3⟩ := mul_nn f1 p4 k1 p2 p3
    have h1 : isNan single (dotRow xs row n k (i + 1)) = false := (fadd_run a1 m1).2
    refine ⟨⟨h1, (add_nn a1 a2 m1 m2).1⟩, fun hi' => ?_⟩
    obtain ⟨f1', k1'⟩ := rowOf_least hr (show i + 1 < row.length by omega)
    obtain ⟨p1', p2', p3', p4'⟩ := part_key (stepOf_part hl hp hi' hk)
    obtain ⟨m1', m2', m3'⟩ := mul_nn f1' p4' k1' p2' p3'
    exact ⟨(fmul_run f1' p4').1, (fadd_run h1 m1').1⟩
/-- a row behind a step is a row just if it is finite -/
theorem stepRow_row {xs row : List Nat} {n : Nat} (hn : 1 ≤ n) (hn2 : n ≤ 12) (hl : xs.length = n * n) (hp : xs.all partB = true) (hrl : row.length = n) (hr : row.all leastB = true) :
    rowB (stepRow xs row n) = (stepRow xs row n).all (isFin single) := by
  unfold rowB
  rw [stepRow_len, decide_eq_true hn, decide_eq_true hn2, Bool.and_true, Bool.and_true, Bool.eq_iff_iff, List.all_eq_true, List.all_eq_true]
  constructor
  · intro h x hx
    exact (least_iff.1 (h x hx)).1
  · intro h x hx
    refine least_iff.2 ⟨h x hx, ?_⟩
    unfold stepRow at hx
    rw [List.mem_map] at hx
    obtain ⟨k, hk, rfl⟩ := hx
    rw [List.mem_range] at hk
    exact ((dotRow_runs hl hp hrl hr hk) n (Nat.le_refl _)).1.2
theorem stepRow_least {xs row : List Nat} {n : Nat} (hl : xs.length = n * n) (hp : xs.all partB = true) (hrl : row.length = n) (hr : row.all leastB = true) (hf : (stepRow xs row n).all (isFin single) = true) : (stepRow xs row n).all leastB = true := by
  rw [List.all_eq_true] at hf ⊢
  intro x hx
  refine least_iff.2 ⟨hf x hx, ?_⟩
  unfold stepRow at hx
  rw [List.mem_map] at hx
  obtain ⟨k, hk, rfl⟩ := hx
  rw [List.mem_range] at hk
  exact ((dotRow_runs hl hp hrl hr hk) n (Nat.le_refl _)).1.2

/-- many steps; none if a number is not finite -/
def runRow (xs : List Nat) (n : Nat) : Nat → List Nat → Option (List Nat)
  | 0, row => some row
  | s + 1, row => if (stepRow xs row n).all (isFin single) = true then runRow xs n s (stepRow xs row n) else none

/-- the difference of a balance -/
def missAt (xs row : List Nat) (n i k : Nat) : Nat := fsub (fmul (rowOf row i) (stepOf xs n i k)) (fmul (rowOf row k) (stepOf xs n k i))
theorem missAt_runs {xs row : List Nat} {n i k : Nat} (hl : xs.length = n * n) (hp : xs.all partB = true) (hrl : row.length = n) (hr : row.all leastB = true) (hi : i < n) (hk : k < n) :
    floatBits .mul .f32 (rowOf row i) (stepOf xs n i k) = some (fmul (rowOf row i) (stepOf xs n i k)) ∧ floatBits .mul .f32 (rowOf row k) (stepOf xs n k i) = some (fmul (rowOf row k) (stepOf xs n k i)) ∧
    floatBits .sub .f32 (fmul (rowOf row i) (stepOf xs n i k)) (fmul (rowOf row k) (stepOf xs n k i)) = some (missAt xs row n i k) ∧ isFin single (missAt xs row n i k) = true := by
  obtain ⟨f1, k1⟩ := rowOf_least hr (show i < row.length by omega)
  obtain ⟨f2, k2⟩ := rowOf_least hr (show k < row.length by omega)
  obtain ⟨p1, p2, p3, p4⟩ := part_key (stepOf_part hl hp hi hk)
  obtain ⟨q1, q2, q3, q4⟩ := part_key (stepOf_part hl hp hk hi)
  obtain ⟨m1, m2, m3⟩ := mul_nn f1 p4 k1 p2 p3
  obtain ⟨m4, m5, m6⟩ := mul_nn f2 q4 k2 q2 q3
  exact ⟨(fmul_run f1 p4).1, (fmul_run f2 q4).1, (fsub_run (fin_not_nan m1) m4).1, sub_fin m1 m4 m2 m5⟩
/-- the greatest miss so far -/
def missTo (xs row : List Nat) (n : Nat) : Nat → Nat
  | 0 => 0
  | p + 1 => if key single (missTo xs row n p) < key single (sizeF (missAt xs row n (p / n) (p % n))) then sizeF (missAt xs row n (p / n) (p % n)) else missTo xs row n p
theorem missTo_at {xs row : List Nat} {n i k : Nat} (hk : k < n) : missTo xs row n (i * n + k + 1) = if key single (missTo xs row n (i * n + k)) < key single (sizeF (missAt xs row n i k)) then sizeF (missAt xs row n i k) else missTo xs row n (i * n + k) := by
  have e1 : (i * n + k) / n = i := by rw [Nat.mul_comm, Nat.mul_add_div (by omega), Nat.div_eq_of_lt hk, Nat.add_zero]
  have e2 : (i * n + k) % n = k := by rw [Nat.mul_comm, Nat.mul_add_mod, Nat.mod_eq_of_lt hk]
  show (if key single (missTo xs row n (i * n + k)) < key single (sizeF (missAt xs row n ((i * n + k) / n) ((i * n + k) % n))) then sizeF (missAt xs row n ((i * n + k) / n) ((i * n + k) % n)) else missTo xs row n (i * n + k)) = _
  rw [e1, e2]
theorem missTo_ok {xs row : List Nat} {n : Nat} (hn : 1 ≤ n) (hl : xs.length = n * n) (hp : xs.all partB = true) (hrl : row.length = n) (hr : row.all leastB = true) :
    ∀ p, p ≤ n * n → negOf single (missTo xs row n p) = false ∧ isFin single (missTo xs row n p) = true := by
  intro p
  induction p with
  | zero =>
    intro _
    have h0 : missTo xs row n 0 = 0 := rfl
    rw [h0]
    exact ⟨by decide +kernel, by decide +kernel⟩
  | succ p ih =>
    intro hp'
    obtain ⟨h1, h2⟩ := ih (by omega)
    have h3 := (missAt_runs (i := p / n) (k := p % n) hl hp hrl hr (by rw [Nat.div_lt_iff_lt_mul hn]; omega) (Nat.mod_lt _ hn)).2.2.2
    unfold missTo
    split
    · exact ⟨(size_fin h3).2, (size_fin h3).1⟩
    · exact ⟨h1, h2⟩
theorem missTo_max {xs row : List Nat} {n i k : Nat} (hl : xs.length = n * n) (hp : xs.all partB = true) (hrl : row.length = n) (hr : row.all leastB = true) (hi : i < n) (hk : k < n) :
    maxF (missTo xs row n (i * n + k)) (fabs (missAt xs row n i k)) = missTo xs row n (i * n + k + 1) := by
  have h1 := missTo_ok (show 1 ≤ n by omega) hl hp hrl hr (i * n + k) (Nat.le_of_lt (idx_lt hi hk))
  have h2 := (missAt_runs hl hp hrl hr hi hk).2.2.2
  rw [missTo_at hk, max_size h1.1 h2 (fsub_lt _ _)]
end Go.Proofs.Ytlhepgdheopgaaa

