/-
  StepMany, plain: quotients; what is put where, from the greatest share down.
-/
import Derived.Test.YtmpnfjajlmafgaaHl
namespace Go.Proofs.Ytmpnfjajlmafgaa
open Go Go.RowKit Go.Sort Ieee

/-- a quotient by a finite number that is not 0 is no NaN -/
theorem div_some {x y : Nat} (hx : isFin single x = true) (hy : isFin single y = true) (hk : key single y ≠ 0) : ∃ r, single.div x y = some r ∧ isNan single r = false := by
  have he : 1 ≤ single.exponentBits := by decide
  obtain ⟨m, i, hr, -, -⟩ := read_fin ((fin_iff single he x).1 hx)
  obtain ⟨n, j, hq, -, hn⟩ := read_fin ((fin_iff single he y).1 hy)
  have hn0 : n ≠ 0 := by
    intro h0
    rw [h0, Nat.zero_mul] at hn
    have h1 : rungOf single y = 0 := by
      rcases Nat.eq_zero_or_pos (rungOf single y) with h | h
      · exact h
      · have := mu_mono single h
        omega
    unfold key at hk
    rw [h1] at hk
    simp at hk
  unfold Format.div
  rw [hr, hq]
  simp only [Datum.quotient, if_neg hn0, Option.map_some]
  exact ⟨_, rfl, notNan_write single he _ rfl⟩
theorem fdiv_run {x y : Nat} (hx : isFin single x = true) (hy : isFin single y = true) (hk : key single y ≠ 0) : floatBits .quo .f32 x y = some (fdiv x y) ∧ isNan single (fdiv x y) = false := by
  obtain ⟨r, h1, h2⟩ := div_some hx hy hk
  have h3 : fdiv x y = r := by unfold fdiv; rw [h1]; rfl
  rw [h3]
  exact ⟨h1, h2⟩

theorem fdiv_lt (x y : Nat) : fdiv x y < 4294967296 := by
  unfold fdiv Format.div
  cases (single.read x).quotient (single.fractionBits + 2) (single.read y) with
  | none => decide
  | some d => exact write_lt d
theorem product_comm (a b : Datum) : a.product b = b.product a := by
  cases a <;> cases b <;> simp [Datum.product, Bool.xor_comm, Nat.mul_comm, Int.add_comm]
theorem fmul_comm (x y : Nat) : fmul x y = fmul y x := by
  unfold fmul Format.mul
  rw [product_comm]
/-- a row behind k stores: at D j lies g (j + 1), j below k -/
def outF (g D : Nat → Nat) : Nat → Nat → Nat
  | 0, _ => 0
  | k + 1, p => if p = D k then g (k + 1) else outF g D k p
def outFL (g D : Nat → Nat) (n : Nat) : List Nat := (List.range n).map (outF g D n)
theorem outFL_len (g D : Nat → Nat) (n : Nat) : (outFL g D n).length = n := by simp [outFL]
theorem outF_congr {g g' D D' : Nat → Nat} : ∀ k, (∀ j, j < k → g (j + 1) = g' (j + 1)) → (∀ j, j < k → D j = D' j) → ∀ p, outF g D k p = outF g' D' k p
  | 0, _, _, _ => rfl
  | k + 1, h, h', p => by
    show (if _ then _ else _) = (if _ then _ else _)
    rw [h k (by omega), h' k (by omega), outF_congr k (fun j hj => h j (by omega)) (fun j hj => h' j (by omega)) p]
theorem outFL_congr {g g' D D' : Nat → Nat} {n : Nat} (h : ∀ j, j < n → g (j + 1) = g' (j + 1)) (h' : ∀ j, j < n → D j = D' j) : outFL g D n = outFL g' D' n := by
  unfold outFL
  exact List.map_congr_left fun p _ => outF_congr n h h' p
/-- the order from its end -/
def backD (d : Array Nat) (n j : Nat) : Nat := d[n - 1 - j]!
/-- a share times all, by how many are not greater -/
def stepV (x n m : Nat) : Nat := fdiv (fmul x (floatOfInt .f32 (n : Int))) (floatOfInt .f32 (m : Int))
theorem stepV_run {x n m : Nat} (hx : partB x = true) (hn : n < 65) (hm : m < 65) (h0 : 0 < m) :
    floatBits .mul .f32 x (floatOfInt .f32 (n : Int)) = some (fmul x (floatOfInt .f32 (n : Int))) ∧ floatBits .quo .f32 (fmul x (floatOfInt .f32 (n : Int))) (floatOfInt .f32 (m : Int)) = some (stepV x n m) ∧ wordN (stepV x n m) := by
  have hp := part_key hx
  have h1 := (mul_run' hx hn).1
  have h2 : isFin single (fmul x (floatOfInt .f32 (n : Int))) = true := by
    rw [fmul_comm]
    rcases Nat.eq_zero_or_pos n with h | h
    · subst h
      exact (mul_nn (int_fin 0 (by omega)) hp.2.2.2 (by decide +kernel) hp.2.1 hp.2.2.1).1
    · exact (mul_nn (int_fin n hn) hp.2.2.2 (Int.le_of_lt (int_pos n hn h)) hp.2.1 hp.2.2.1).1
  have h3 := fdiv_run h2 (int_fin m hm) (by have := int_pos m hm h0; omega)
  exact ⟨h1, h3.1, h3.2, fdiv_lt _ _⟩
def stepX (xs : List Nat) (d : Array Nat) (j : Nat) : Nat := stepV (xs.getD (backD d xs.length j) 0) xs.length (xs.length - j)
def leastG (xs : List Nat) (d : Array Nat) (k : Nat) : Nat := capF (leastI (stepX xs d) k)
def stepL (xs : List Nat) (d : Array Nat) : List Nat := outFL (leastG xs d) (backD d xs.length) xs.length
theorem step_word {xs : List Nat} {d : Array Nat} (hp : xs.all partB = true) (hl : xs.length ≤ 64) (hd : ∀ k, k < xs.length → d[k]! < xs.length) : ∀ k, k < xs.length → wordN (stepX xs d k) := fun k hk =>
  (stepV_run (getD_part hp (hd (xs.length - 1 - k) (by omega))) (by omega) (by omega) (by omega)).2.2
/-- the numbers of the reference, capped one by one -/
def capS (xs : List Nat) (d : Array Nat) (k : Nat) : Nat := capF (stepX xs d k)
def specS (xs : List Nat) (d : Array Nat) (k : Nat) : Nat := leastI (capS xs d) k
theorem step_same {xs : List Nat} {d : Array Nat} (hp : xs.all partB = true) (hl : xs.length ≤ 64) (hd : ∀ k, k < xs.length → d[k]! < xs.length) : outFL (specS xs d) (backD d xs.length) xs.length = stepL xs d :=
  outFL_congr (fun j hj => least_cap (step_word hp hl hd) j hj) (fun _ _ => rfl)
theorem stepL_congr {xs : List Nat} {d e : Array Nat} (h : ∀ p, p < xs.length → d[p]! = e[p]!) : stepL xs d = stepL xs e := by
  have hb : ∀ j, j < xs.length → backD d xs.length j = backD e xs.length j := fun j hj => h _ (by omega)
  refine outFL_congr (fun j hj => ?_) hb
  show capF (leastI _ _) = capF (leastI _ _)
  rw [leastI_congr (n := xs.length) (f := stepX xs d) (g := stepX xs e) (fun k hk => by unfold stepX; rw [hb k hk]) (j + 1) (by omega)]
theorem step_one (xs : List Nat) : ∃ ys : List Nat, ys.length = xs.length ∧ ∀ d, OrdTo (keyI xs) xs.length d → stepL xs d = ys := by
  by_cases h : ∃ d, OrdTo (keyI xs) xs.length d
  · obtain ⟨d, hd⟩ := h
    exact ⟨stepL xs d, outFL_len _ _ _, fun e he => stepL_congr (he.same hd)⟩
  · exact ⟨xs, rfl, fun d hd => absurd ⟨d, hd⟩ h⟩
/-- the test of a number that is not greater, as the code makes it -/
theorem le_test {x m : Nat} (hx : wordN x) (hm : wordN m) : (FloatKind.f32.format.order x m == some .lt || FloatKind.f32.format.order x m == some .eq) = decide (FloatKind.f32.format.order x m ≠ some .gt) := by
  have hne : FloatKind.f32.format.order x m ≠ none := by
    intro h
    have e1 : ¬ key single x < key single m := fun h9 => by
      have := (lt_key' hx.1 hm.1).2 h9
      rw [h] at this
      cases this
    have e2 : ¬ key single m < key single x := fun h9 => by
      have := (gt_key' hx.1 hm.1).2 h9
      rw [h] at this
      cases this
    have h3 := eq_key (f := single) (by decide) hx.1 hm.1
    rw [decide_eq_true (show key single x = key single m by omega)] at h3
    have h4 : FloatKind.f32.format.order x m = some .eq := eq_of_beq h3
    rw [h] at h4
    cases h4
  rcases h : FloatKind.f32.format.order x m with _ | o
  · exact absurd h hne
  · cases o <;> decide
end Go.Proofs.Ytmpnfjajlmafgaa
