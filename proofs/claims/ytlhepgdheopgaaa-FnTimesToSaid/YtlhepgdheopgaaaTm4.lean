/-
  Rows that chains tell of the states that are none of some: they tell much of each point, and what is solved fulfils them, nearly. No program.
  Times to a state and chances of states: what the program tells fulfils the chain's rows, nearly. No program.
  Times to a state are one step more than those behind it, chances are those of the next states, and both chances are 1: nearly. No program.
  Numbers in double precision with their signs: sums, differences, products; singles made wider; gaps. No program.
  Singles made wider, gaps and sums of products in double precision, with signs; the laws' helper b10Gap.
  What one round of the law on times asks: gaps and bounds in double precision.
-/
import Derived.Test.YtlhepgdheopgaaaSo5
import Derived.Test.YtlhepgdheopgaaaAv1
import Derived.Test.YtlhepgdheopgaaaTt1
import Derived.Test.YtlhepgdheopgaaaCr3
namespace Go.Proofs.Ytlhepgdheopgaaa
open Go Go.RowKit Ieee

/-- a sum over the states that are none of some -/
theorem sum_open (but : List Int) (f : Nat → Int) : ∀ n, sumZ (fun c => f ((openN n but).getD c 0)) (openN n but).length = sumZ (fun k => if but.contains (k : Int) = true then 0 else f k) n := by
  have app : ∀ (l : List Nat) (a : Nat), sumZ (fun c => f ((l ++ [a]).getD c 0)) (l ++ [a]).length = sumZ (fun c => f (l.getD c 0)) l.length + f a := by
    intro l a
    rw [List.length_append]
    show sumZ _ l.length + f ((l ++ [a]).getD l.length 0) = _
    have e1 : (l ++ [a]).getD l.length 0 = a := by simp
    rw [e1]
    refine congrArg (· + f a) (sumZ_congr _ fun i hi => ?_)
    have : (l ++ [a]).getD i 0 = l.getD i 0 := by
      rw [List.getD_eq_getElem?_getD, List.getD_eq_getElem?_getD, List.getElem?_append_left hi]
    rw [this]
  intro n
  induction n with
  | zero => rfl
  | succ n ih =>
    have e : openN (n + 1) but = openN n but ++ (if but.contains (n : Int) = true then [] else [n]) := by
      unfold openN
      rw [List.range_succ, List.filter_append]
      refine congrArg ((List.range n).filter _ ++ ·) ?_
      by_cases h : but.contains (n : Int) = true
      · rw [if_pos h]
        have h' : (n : Int) ∈ but := by simpa using h
        simp [h']
      · rw [if_neg h]
        have h' : ¬ (n : Int) ∈ but := by simpa using h
        simp [h']
    show _ = sumZ _ n + (if but.contains (n : Int) = true then 0 else f n)
    rw [← ih, e]
    by_cases h : but.contains (n : Int) = true
    · rw [if_pos h, if_pos h, List.append_nil, Int.add_zero]
    · rw [if_neg h, if_neg h, app]
theorem sumZ_if (d : Int) (i : Nat) : ∀ n, sumZ (fun k => if k = i then d else 0) n = if i < n then d else 0 := by
  intro n
  induction n with
  | zero => rfl
  | succ n ih =>
    show sumZ _ n + (if n = i then d else 0) = _
    rw [ih]
    by_cases h1 : n = i
    · subst h1
      rw [if_neg (Nat.lt_irrefl _), if_pos rfl, if_pos (by omega)]
      omega
    · rw [if_neg h1, Int.add_zero]
      by_cases h2 : i < n
      · rw [if_pos h2, if_pos (by omega)]
      · rw [if_neg h2, if_neg (by omega)]
theorem sumZ_le {f g : Nat → Int} : ∀ n, (∀ i, i < n → f i ≤ g i) → sumZ f n ≤ sumZ g n := by
  intro n
  induction n with
  | zero => intro _; exact Int.le_refl _
  | succ n ih =>
    intro h
    show sumZ f n + f n ≤ sumZ g n + g n
    have h1 := ih fun i hi => h i (by omega)
    have h2 := h n (by omega)
    omega
section
variable {n : Nat} {xs : List Nat}
/-- the steps among the states that are open -/
def stP (xs : List Nat) (n : Nat) (ls : List Nat) (r c : Nat) : Int := (vc xs n (ls.getD r 0) (ls.getD c 0) : Int)
/-- the entries -/
theorem cof_entry (h : Chn 32 7 n xs) (h2 : 2 ≤ n) {but : List Int} {right : Nat → Nat} {r c : Nat} (hr : r < (openN n but).length) (hc : c < (openN n but).length) :
    isFin single (cofM xs n (openN n but) right r c) = true ∧ val (cofM xs n (openN n but) right r c) ≤ uE ∧ (sv (cofM xs n (openN n but) right r c) - ((if r = c then (uE : Int) else 0) - stP xs n (openN n but) r c)).natAbs ≤ uV := by
  have hi := (openN_lt hr).1
  have hk := (openN_lt hc).1
  have hs := h.nn _ _ hi hk
  have hown := own_top h h2 hi hk
  have hlow : uE ≤ 32 * vc xs n ((openN n but).getD r 0) ((openN n but).getD c 0) := (h.bd _ _ hi hk).1
  have hsv : sv (stepOf xs n ((openN n but).getD r 0) ((openN n but).getD c 0)) = (vc xs n ((openN n but).getD r 0) ((openN n but).getD c 0) : Int) := by
    have h1 := nn_rung hs
    have h3 := (sv_of_key (s := false) (by simpa using h1)).1
    rw [if_neg (by decide)] at h3
    exact h3
  have hun : isFin single (unitF (decide (r = c))) = true ∧ sv (unitF (decide (r = c))) = if r = c then (uE : Int) else 0 := by
    by_cases hrc : r = c
    · rw [decide_eq_true hrc, if_pos hrc]
      have : isFin single (unitF true) = true ∧ sv (unitF true) = (uE : Int) := by decide +kernel
      exact this
    · rw [decide_eq_false hrc, if_neg hrc]
      have : isFin single (unitF false) = true ∧ sv (unitF false) = 0 := by decide +kernel
      exact this
  have e : cofM xs n (openN n but) right r c = fsub (unitF (decide (r = c))) (stepOf xs n ((openN n but).getD r 0) ((openN n but).getD c 0)) := by
    unfold cofM
    rw [if_pos hc]
  rw [e]
  have hT : 2 * uE ≤ uT := by decide
  have hd : (sv (unitF (decide (r = c))) - sv (stepOf xs n ((openN n but).getD r 0) ((openN n but).getD c 0))).natAbs ≤ uE ∧ 64 * (sv (unitF (decide (r = c))) - sv (stepOf xs n ((openN n but).getD r 0) ((openN n but).getD c 0))).natAbs ≤ 63 * uE := by
    rw [hun.2, hsv]
    generalize vc xs n ((openN n but).getD r 0) ((openN n but).getD c 0) = p at *
    generalize uE = u at *
    split <;> constructor <;> omega
  obtain ⟨s1, s2⟩ := sub_s hun.1 hs.1 (by omega)
  have hA : kA = 8388608 := rfl
  have hE : uE = 8388608 * uV := uV_eq
  refine ⟨s1, ?_, ?_⟩
  · rw [← sv_abs]
    rw [hA] at s2
    clear e hE
    generalize sv (fsub (unitF (decide (r = c))) (stepOf xs n ((openN n but).getD r 0) ((openN n but).getD c 0))) = a at *
    generalize sv (unitF (decide (r = c))) - sv (stepOf xs n ((openN n but).getD r 0) ((openN n but).getD c 0)) = b at *
    generalize uE = u at *
    omega
  · have e2 : (if r = c then (uE : Int) else 0) - stP xs n (openN n but) r c = sv (unitF (decide (r = c))) - sv (stepOf xs n ((openN n but).getD r 0) ((openN n but).getD c 0)) := by rw [hun.2, hsv]; rfl
    rw [e2]
    rw [hA] at s2
    have h3 := hd.1
    rw [hE] at h3
    omega
/-- a row of the entries, and the row that the chain tells -/
theorem cof_row (h : Chn 32 7 n xs) (h2 : 2 ≤ n) {but : List Int} {right : Nat → Nat} {x : Nat → Int} {X r : Nat} (hr : r < (openN n but).length) (hx : ∀ c, c < (openN n but).length → (x c).natAbs ≤ X) :
    (rowE (cofM xs n (openN n but) right) (openN n but).length 0 x r - ((uE : Int) * x r - sumZ (fun c => stP xs n (openN n but) r c * x c) (openN n but).length + sv (right ((openN n but).getD r 0)) * x (openN n but).length)).natAbs ≤ (openN n but).length * (uV * X) := by
  have e1 : rowE (cofM xs n (openN n but) right) (openN n but).length 0 x r = sumZ (fun c => sv (cofM xs n (openN n but) right r c) * x c) (openN n but).length + sv (right ((openN n but).getD r 0)) * x (openN n but).length := by
    unfold rowE
    rw [Nat.min_zero, Nat.sub_zero]
    show sumZ (fun j => sv (cofM xs n (openN n but) right r (0 + j)) * x (0 + j)) (openN n but).length + sv (cofM xs n (openN n but) right r (0 + (openN n but).length)) * x (0 + (openN n but).length) = _
    rw [Nat.zero_add, cofM_right]
    refine congrArg (· + sv (right ((openN n but).getD r 0)) * x (openN n but).length) (sumZ_congr _ fun c _ => ?_)
    rw [Nat.zero_add]
  have e2 : (uE : Int) * x r = sumZ (fun c => if c = r then (uE : Int) * x r else 0) (openN n but).length := by rw [sumZ_if, if_pos hr]
  rw [e1, e2, ← sumZ_sub]
  have e3 : ∀ p q t : Int, p + t - (q + t) = p - q := fun p q t => by omega
  rw [e3, ← sumZ_sub]
  refine Nat.le_trans (sumZ_abs _ _) ?_
  rw [← sumN_const]
  refine sumN_le _ fun c hc => ?_
  have e4 : sv (cofM xs n (openN n but) right r c) * x c - ((if c = r then (uE : Int) * x r else 0) - stP xs n (openN n but) r c * x c) = (sv (cofM xs n (openN n but) right r c) - ((if r = c then (uE : Int) else 0) - stP xs n (openN n but) r c)) * x c := by
    by_cases hcr : c = r
    · subst hcr
      rw [if_pos rfl, if_pos rfl]
      generalize sv (cofM xs n (openN n but) right c c) = a
      generalize stP xs n (openN n but) c c = b
      grind
    · rw [if_neg hcr, if_neg (fun h => hcr h.symm)]
      generalize sv (cofM xs n (openN n but) right r c) = a
      generalize stP xs n (openN n but) r c = b
      grind
  rw [e4, Int.natAbs_mul]
  exact Nat.mul_le_mul (cof_entry h h2 hr hc).2.2 (hx c hc)
/-- how much a state steps to the states that are not open -/
def Leak (xs : List Nat) (n : Nat) (but : List Int) (D : Nat) : Prop := ∀ r, r < (openN n but).length → (uE : Int) + D * (5 * uV) ≤ D * ((uE : Int) - sumZ (stP xs n (openN n but) r) (openN n but).length)
theorem stP_nn (ls : List Nat) (r c : Nat) : 0 ≤ stP xs n ls r c := Int.natCast_nonneg _
theorem dom_of (h : Chn 32 7 n xs) (h2 : 2 ≤ n) {but : List Int} {right : Nat → Nat} {D : Nat} (hl : Leak xs n but D) (h4 : (openN n but).length ≤ 4) (h1 : 1 ≤ (openN n but).length) : Dom (cofM xs n (openN n but) right) (openN n but).length D := by
  intro x hxm j hj
  obtain ⟨i, hi, hmax⟩ := max_at x (openN n but).length h1
  refine ⟨i, hi, ?_⟩
  have hr := cof_row h h2 (right := right) hi hmax
  rw [hxm, Int.mul_zero, Int.add_zero] at hr
  have hs : (sumZ (fun c => stP xs n (openN n but) i c * x c) (openN n but).length).natAbs ≤ (sumZ (stP xs n (openN n but) i) (openN n but).length * (x i).natAbs).toNat := by
    refine Nat.le_trans (sumZ_abs _ _) ?_
    have e1 : sumZ (stP xs n (openN n but) i) (openN n but).length = ((sumN (fun c => vc xs n ((openN n but).getD i 0) ((openN n but).getD c 0)) (openN n but).length : Nat) : Int) := (sumZ_cast _ _).symm
    rw [e1, ← Int.natCast_mul, Int.toNat_natCast, Nat.mul_comm, ← sumN_mul]
    refine sumN_le _ fun c hc => ?_
    rw [Int.natAbs_mul]
    show (vc xs n ((openN n but).getD i 0) ((openN n but).getD c 0) : Int).natAbs * (x c).natAbs ≤ _
    rw [Int.natAbs_natCast, Nat.mul_comm]
    exact Nat.mul_le_mul_right _ (hmax c hc)
  have hlk := hl i hi
  have hle : uE * (x j).natAbs ≤ uE * (x i).natAbs := Nat.mul_le_mul_left _ (hmax j hj)
  refine Nat.le_trans hle ?_
  -- all in integers
  have h5 : (uE : Int) * ((x i).natAbs : Int) + D * (5 * uV) * ((x i).natAbs : Int) ≤ D * (((uE : Int) - sumZ (stP xs n (openN n but) i) (openN n but).length) * ((x i).natAbs : Int)) := by
    have := Int.mul_le_mul_of_nonneg_right hlk (show (0 : Int) ≤ ((x i).natAbs : Int) by omega)
    rwa [Int.add_mul, Int.mul_assoc (D : Int) ((uE : Int) - _)] at this
  have hS0 : 0 ≤ sumZ (stP xs n (openN n but) i) (openN n but).length * ((x i).natAbs : Int) := by
    refine Int.mul_nonneg ?_ (by omega)
    rw [show sumZ (stP xs n (openN n but) i) (openN n but).length = ((sumN (fun c => vc xs n ((openN n but).getD i 0) ((openN n but).getD c 0)) (openN n but).length : Nat) : Int) from (sumZ_cast _ _).symm]
    omega
  have h6 : (((uE : Int) - sumZ (stP xs n (openN n but) i) (openN n but).length) * ((x i).natAbs : Int)) ≤ ((rowE (cofM xs n (openN n but) right) (openN n but).length 0 x i).natAbs : Int) + 4 * (uV * ((x i).natAbs : Int)) := by
    rw [Int.sub_mul]
    have e1 : ((uE : Int) * x i).natAbs = uE * (x i).natAbs := by rw [Int.natAbs_mul, Int.natAbs_natCast]
    have e2 : ((uE * (x i).natAbs : Nat) : Int) = (uE : Int) * ((x i).natAbs : Int) := Int.natCast_mul _ _
    have e3 : (openN n but).length * (uV * (x i).natAbs) ≤ 4 * (uV * (x i).natAbs) := Nat.mul_le_mul_right _ h4
    have e4 : ((uV * (x i).natAbs : Nat) : Int) = (uV : Int) * ((x i).natAbs : Int) := Int.natCast_mul _ _
    generalize sumZ (stP xs n (openN n but) i) (openN n but).length * ((x i).natAbs : Int) = S at *
    generalize (openN n but).length * (uV * (x i).natAbs) = q at *
    generalize (uV : Int) * ((x i).natAbs : Int) = v at *
    generalize (uE : Int) * ((x i).natAbs : Int) = w at *
    generalize (uE : Int) * x i = z at *
    omega
  have h7 := Int.mul_le_mul_of_nonneg_left h6 (show (0 : Int) ≤ (D : Int) by omega)
  rw [Int.mul_add] at h7
  have h8 : (D : Int) * (4 * ((uV : Int) * ((x i).natAbs : Int))) ≤ D * (5 * uV) * ((x i).natAbs : Int) := by
    have e1 : (D : Int) * (5 * uV) * ((x i).natAbs : Int) = (D : Int) * (5 * ((uV : Int) * ((x i).natAbs : Int))) := by rw [Int.mul_assoc, Int.mul_assoc]
    rw [e1]
    refine Int.mul_le_mul_of_nonneg_left ?_ (by omega)
    have : (0 : Int) ≤ (uV : Int) * ((x i).natAbs : Int) := Int.mul_nonneg (by omega) (by omega)
    omega
  have h9 : ((uE * (x i).natAbs : Nat) : Int) ≤ ((D * (rowE (cofM xs n (openN n but) right) (openN n but).length 0 x i).natAbs : Nat) : Int) := by
    rw [Int.natCast_mul, Int.natCast_mul]
    generalize (uE : Int) * ((x i).natAbs : Int) = w at *
    generalize (D : Int) * ((rowE (cofM xs n (openN n but) right) (openN n but).length 0 x i).natAbs : Int) = y at *
    generalize (D : Int) * (4 * ((uV : Int) * ((x i).natAbs : Int))) = z at *
    generalize D * (5 * uV) * ((x i).natAbs : Int) = t at *
    generalize D * (((uE : Int) - sumZ (stP xs n (openN n but) i) (openN n but).length) * ((x i).natAbs : Int)) = s at *
    omega
  exact Int.ofNat_le.1 h9
/-- rows that are not less than a bound tell numbers that are not -/
theorem mini {m D : Nat} {P : Nat → Nat → Int} {y : Nat → Int} {rho : Int} (hP : ∀ r c, r < m → c < m → 0 ≤ P r c) (hD : ∀ r, r < m → (uE : Int) ≤ D * ((uE : Int) - sumZ (P r) m)) (hrho : 0 ≤ rho) (hy : ∀ r, r < m → -rho ≤ (uE : Int) * y r - sumZ (fun c => P r c * y c) m) : ∀ c, c < m → -(D * rho) ≤ (uE : Int) * y c := by
  by_cases hm : m = 0
  · subst hm
    intro c hc
    omega
  · obtain ⟨j, hj, hmin⟩ : ∃ j, j < m ∧ ∀ c, c < m → y j ≤ y c := by
      have : ∀ m, 1 ≤ m → ∃ j, j < m ∧ ∀ c, c < m → y j ≤ y c := by
        intro m
        induction m with
        | zero => intro h; omega
        | succ m ih =>
          intro _
          by_cases hm0 : m = 0
          · subst hm0
            exact ⟨0, by omega, fun c hc => by rw [show c = 0 by omega]; exact Int.le_refl _⟩
          · obtain ⟨j, hj, h⟩ := ih (by omega)
            by_cases hle : y j ≤ y m
            · exact ⟨j, by omega, fun c hc => by
                by_cases hcm : c = m
                · rw [hcm]; exact hle
                · exact h c (by omega)⟩
            · exact ⟨m, by omega, fun c hc => by
                by_cases hcm : c = m
                · rw [hcm]; exact Int.le_refl _
                · have := h c (by omega); omega⟩
      exact this m (by omega)
    intro c hc
    have hcj : (uE : Int) * y j ≤ (uE : Int) * y c := Int.mul_le_mul_of_nonneg_left (hmin c hc) (by omega)
    refine Int.le_trans ?_ hcj
    have hDr : 0 ≤ (D : Int) * rho := Int.mul_nonneg (by omega) hrho
    by_cases hneg : 0 ≤ y j
    · have : 0 ≤ (uE : Int) * y j := Int.mul_nonneg (by omega) hneg
      omega
    · have h1 := hy j hj
      have h2 : sumZ (fun c => P j c * y j) m ≤ sumZ (fun c => P j c * y c) m := sumZ_le m fun c hc => Int.mul_le_mul_of_nonneg_left (hmin c hc) (hP j c hj hc)
      have e1 : sumZ (fun c => P j c * y j) m = y j * sumZ (P j) m := by
        rw [← sumZ_mul]
        exact sumZ_congr m fun c _ => Int.mul_comm _ _
      rw [e1] at h2
      have h3 : -rho ≤ ((uE : Int) - sumZ (P j) m) * y j := by
        rw [Int.sub_mul, Int.mul_comm (sumZ (P j) m)]
        omega
      have h4 := Int.mul_le_mul_of_nonneg_left h3 (show (0 : Int) ≤ (D : Int) by omega)
      have h5 := Int.mul_le_mul_of_nonneg_right (hD j hj) (show (0 : Int) ≤ -(y j) by omega)
      have e2 : (uE : Int) * -(y j) = -((uE : Int) * y j) := Int.mul_neg _ _
      have e3 : (D : Int) * ((uE : Int) - sumZ (P j) m) * -(y j) = -((D : Int) * (((uE : Int) - sumZ (P j) m) * y j)) := by rw [Int.mul_neg, Int.mul_assoc]
      have e4 : (D : Int) * -rho = -((D : Int) * rho) := Int.mul_neg _ _
      rw [e2, e3] at h5
      rw [e4] at h4
      omega
end
end Go.Proofs.Ytlhepgdheopgaaa

namespace Go.Proofs.Ytlhepgdheopgaaa
open Go Go.RowKit Ieee

theorem putM_at {ls : List Nat} {x f : Nat → Nat} : ∀ k, k ≤ ls.length → (∀ a b, a < ls.length → b < ls.length → (ls.getD a 0 = ls.getD b 0 ↔ a = b)) → (∀ c, c < k → putM ls x f k (ls.getD c 0) = x c) ∧ ∀ i, (∀ c, c < k → ls.getD c 0 ≠ i) → putM ls x f k i = f i := by
  intro k
  induction k with
  | zero => exact fun _ _ => ⟨fun c hc => absurd hc (Nat.not_lt_zero c), fun _ _ => rfl⟩
  | succ k ih =>
    intro hk hinj
    obtain ⟨h1, h2⟩ := ih (by omega) hinj
    refine ⟨fun c hc => ?_, fun i hi => ?_⟩
    · show (if ls.getD c 0 = ls.getD k 0 then x k else putM ls x f k (ls.getD c 0)) = _
      by_cases hck : c = k
      · rw [hck, if_pos rfl]
      · rw [if_neg (fun h => hck ((hinj c k (by omega) (by omega)).1 h))]
        exact h1 c (by omega)
    · show (if i = ls.getD k 0 then x k else putM ls x f k i) = _
      rw [if_neg (fun h => hi k (by omega) h.symm)]
      exact h2 i fun c hc => hi c (by omega)
theorem open_at {n : Nat} {but : List Int} {i : Nat} (hi : i < n) (hb : but.contains (i : Int) = false) : ∃ c, c < (openN n but).length ∧ (openN n but).getD c 0 = i := by
  have hm : i ∈ openN n but := by
    unfold openN
    rw [List.mem_filter]
    exact ⟨List.mem_range.2 hi, by rw [hb]; rfl⟩
  obtain ⟨c, hc, e⟩ := List.mem_iff_getElem.1 hm
  exact ⟨c, hc, by rw [List.getD_eq_getElem?_getD, List.getElem?_eq_getElem hc, ← e]; rfl⟩
/-- the row that is given, out of what is solved -/
def rowX (n : Nat) (but : List Int) (X f : Nat → Nat) : List Nat := (List.range n).map (putM (openN n but) X f (openN n but).length)
theorem rowX_len (n : Nat) (but : List Int) (X f : Nat → Nat) : (rowX n but X f).length = n := by simp [rowX]
theorem rowX_of {n : Nat} {but : List Int} {X f : Nat → Nat} {i : Nat} (hi : i < n) : rowOf (rowX n but X f) i = putM (openN n but) X f (openN n but).length i := by
  unfold rowOf rowX
  rw [List.getD_eq_getElem?_getD, List.getElem?_eq_getElem (by simpa using hi)]
  simp
theorem rowX_open {n : Nat} {but : List Int} {X f : Nat → Nat} {c : Nat} (hc : c < (openN n but).length) : rowOf (rowX n but X f) ((openN n but).getD c 0) = X c := by
  rw [rowX_of (openN_lt hc).1]
  exact (putM_at _ (Nat.le_refl _) (fun a b ha hb => openN_inj ha hb)).1 c hc
theorem rowX_given {n : Nat} {but : List Int} {X f : Nat → Nat} {i : Nat} (hi : i < n) (hb : but.contains (i : Int) = true) : rowOf (rowX n but X f) i = f i := by
  rw [rowX_of hi]
  refine (putM_at _ (Nat.le_refl _) (fun a b ha hb => openN_inj ha hb)).2 i fun c hc he => ?_
  have := (openN_lt hc).2
  rw [he, hb] at this
  cases this
theorem given_some {xs : List Nat} {n : Nat} {but : List Int} {right f X : Nat → Nat} (h : solM (cofM xs n (openN n but) right) (openN n but).length = some ((List.range (openN n but).length).map X)) : givenO xs n (openN n but) right f = some (rowX n but X f) := by
  unfold givenO rowX
  rw [h, Option.map_some]
  refine congrArg some (List.map_congr_left fun i _ => ?_)
  have : ∀ k, k ≤ (openN n but).length → putM (openN n but) (fun k => ((List.range (openN n but).length).map X).getD k 0) f k i = putM (openN n but) X f k i := by
    intro k
    induction k with
    | zero => intro _; rfl
    | succ k ih =>
      intro hk
      show (if i = (openN n but).getD k 0 then ((List.range (openN n but).length).map X).getD k 0 else putM (openN n but) _ f k i) = (if i = (openN n but).getD k 0 then X k else putM (openN n but) X f k i)
      rw [ih (by omega)]
      have : ((List.range (openN n but).length).map X).getD k 0 = X k := by
        rw [List.getD_eq_getElem?_getD, List.getElem?_eq_getElem (by rw [List.length_map, List.length_range]; omega)]
        simp
      rw [this]
  exact this _ (Nat.le_refl _)
section
variable {n : Nat} {xs : List Nat}
/-- the sum over all states -/
def allS (xs : List Nat) (n : Nat) (T : List Nat) (i : Nat) : Int := sumZ (fun k => (vc xs n i k : Int) * sv (rowOf T k)) n
theorem all_split {but : List Int} {X f : Nat → Nat} (i : Nat) : allS xs n (rowX n but X f) i = sumZ (fun c => (vc xs n i ((openN n but).getD c 0) : Int) * sv (X c)) (openN n but).length + sumZ (fun k => if but.contains (k : Int) = true then (vc xs n i k : Int) * sv (f k) else 0) n := by
  have e1 : sumZ (fun c => (vc xs n i ((openN n but).getD c 0) : Int) * sv (X c)) (openN n but).length = sumZ (fun c => (fun k => (vc xs n i k : Int) * sv (rowOf (rowX n but X f) k)) ((openN n but).getD c 0)) (openN n but).length :=
    sumZ_congr _ fun c hc => by
      show _ = (vc xs n i ((openN n but).getD c 0) : Int) * sv (rowOf (rowX n but X f) ((openN n but).getD c 0))
      rw [rowX_open hc]
  rw [e1, sum_open but (fun k => (vc xs n i k : Int) * sv (rowOf (rowX n but X f) k)), ← sumZ_add]
  refine sumZ_congr n fun k hk => ?_
  by_cases hb : but.contains (k : Int) = true
  · rw [if_pos hb, if_pos hb, rowX_given hk hb, Int.zero_add]
  · rw [if_neg hb, if_neg hb, Int.add_zero]
theorem row_bounds (h : Chn 32 7 n xs) {i : Nat} (hi : i < n) : (sumN (vc xs n i) n : Int) ≤ (uE : Int) + 15 * uV ∧ (uE : Int) ≤ (sumN (vc xs n i) n : Int) + 15 * uV := by
  have h1 := ne_lin (h.row i hi).1 (by decide)
  have h2 := ne_lin (h.row i hi).2 (by decide)
  have hA : kA = 8388608 := rfl
  have hE : uE = 8388608 * uV := uV_eq
  have e : sumN (fun k => val (stepOf xs n i k)) n = sumN (vc xs n i) n := rfl
  rw [e, hA, hE] at h1 h2
  rw [hE]
  have hV := uV_big
  generalize sumN (vc xs n i) n = R at *
  generalize uV = v at *
  constructor <;> omega
/-- the sum over the open states, by what is left out -/
theorem open_sum {but : List Int} (i : Nat) : sumZ (fun c => (vc xs n i ((openN n but).getD c 0) : Int)) (openN n but).length + sumZ (fun k => if but.contains (k : Int) = true then (vc xs n i k : Int) else 0) n = (sumN (vc xs n i) n : Int) := by
  rw [sum_open but (fun k => (vc xs n i k : Int)), sumZ_cast, ← sumZ_add]
  refine sumZ_congr n fun k _ => ?_
  by_cases hb : but.contains (k : Int) = true
  · rw [if_pos hb, if_pos hb, Int.zero_add]
  · rw [if_neg hb, if_neg hb, Int.add_zero]
theorem one_sum (g : Nat) (f : Nat → Int) (hg : g < n) : sumZ (fun k => if ([(g : Int)] : List Int).contains (k : Int) = true then f k else 0) n = f g := by
  have : sumZ (fun k => if ([(g : Int)] : List Int).contains (k : Int) = true then f k else 0) n = sumZ (fun k => if k = g then f g else 0) n := sumZ_congr n fun k _ => by
    by_cases hk : k = g
    · subst hk
      simp
    · rw [if_neg (by simp; omega), if_neg hk]
  rw [this, sumZ_if, if_pos hg]
theorem two_sum (g o : Nat) (f : Nat → Int) (hg : g < n) (ho : o < n) (hgo : g ≠ o) : sumZ (fun k => if ([(g : Int), (o : Int)] : List Int).contains (k : Int) = true then f k else 0) n = f g + f o := by
  have : sumZ (fun k => if ([(g : Int), (o : Int)] : List Int).contains (k : Int) = true then f k else 0) n = sumZ (fun k => (if k = g then f g else 0) + (if k = o then f o else 0)) n := sumZ_congr n fun k _ => by
    by_cases hk : k = g
    · subst hk
      rw [if_pos (by simp), if_pos rfl, if_neg hgo]
      omega
    · by_cases hk2 : k = o
      · subst hk2
        rw [if_pos (by simp), if_neg hk, if_pos rfl]
        omega
      · rw [if_neg (by simp; omega), if_neg hk, if_neg hk2]
        rfl
  rw [this, sumZ_add, sumZ_if, sumZ_if, if_pos hg, if_pos ho]
theorem open_len (n : Nat) (but : List Int) : (openN n but).length = (sumZ (fun k => if but.contains (k : Int) = true then 0 else 1) n).toNat := by
  have h1 : ∀ m, sumZ (fun _ => (1 : Int)) m = (m : Int) := by
    intro m
    induction m with
    | zero => rfl
    | succ m ih =>
      show sumZ (fun _ => (1 : Int)) m + 1 = _
      rw [ih]
      omega
  have h := sum_open but (fun _ => 1) n
  rw [h1] at h
  omega
theorem len_sum (n : Nat) (but : List Int) : ((openN n but).length : Int) + sumZ (fun k => if but.contains (k : Int) = true then 1 else 0) n = n := by
  have h1 : ∀ m, sumZ (fun _ => (1 : Int)) m = (m : Int) := by
    intro m
    induction m with
    | zero => rfl
    | succ m ih =>
      show sumZ (fun _ => (1 : Int)) m + 1 = _
      rw [ih]
      omega
  have h := sum_open but (fun _ => 1) n
  rw [h1] at h
  rw [h, ← sumZ_add]
  have : sumZ (fun k => (if but.contains (k : Int) = true then (0 : Int) else 1) + (if but.contains (k : Int) = true then 1 else 0)) n = sumZ (fun _ => (1 : Int)) n := sumZ_congr n fun k _ => by
    by_cases hb : but.contains (k : Int) = true
    · rw [if_pos hb, if_pos hb]; rfl
    · rw [if_neg hb, if_neg hb]; rfl
  rw [this, h1]
theorem thick_at (ht : Thick n xs) (h5 : n ≤ 5) {i k : Nat} (hi : i < n) (hk : k < n) : 2 * uE ≤ 45 * vc xs n i k := by
  have h1 := ht i k hi hk
  have h2 : 9 * n * vc xs n i k ≤ 45 * vc xs n i k := Nat.mul_le_mul_right _ (by omega)
  omega
theorem leak_one (h : Chn 32 7 n xs) (ht : Thick n xs) (h5 : n ≤ 5) {g : Nat} (hg : g < n) : Leak xs n [(g : Int)] 23 := by
  intro r hr
  have hi := (openN_lt hr).1
  have e := open_sum (xs := xs) (n := n) (but := [(g : Int)]) ((openN n [(g : Int)]).getD r 0)
  rw [one_sum g (fun k => (vc xs n ((openN n [(g : Int)]).getD r 0) k : Int)) hg] at e
  have hb := (row_bounds h hi).1
  have hth := thick_at ht h5 hi hg
  have e2 : sumZ (stP xs n (openN n [(g : Int)]) r) (openN n [(g : Int)]).length = sumZ (fun c => (vc xs n ((openN n [(g : Int)]).getD r 0) ((openN n [(g : Int)]).getD c 0) : Int)) (openN n [(g : Int)]).length := rfl
  rw [e2]
  have hE : uE = 8388608 * uV := uV_eq
  have hV := uV_big
  rw [hE] at hb hth ⊢
  generalize sumZ (fun c => (vc xs n ((openN n [(g : Int)]).getD r 0) ((openN n [(g : Int)]).getD c 0) : Int)) (openN n [(g : Int)]).length = S at *
  generalize vc xs n ((openN n [(g : Int)]).getD r 0) g = p at *
  generalize sumN (vc xs n ((openN n [(g : Int)]).getD r 0)) n = R at *
  generalize uV = v at *
  omega
theorem leak_two (h : Chn 32 7 n xs) (ht : Thick n xs) (h5 : n ≤ 5) {g o : Nat} (hg : g < n) (ho : o < n) (hgo : g ≠ o) : Leak xs n [(g : Int), (o : Int)] 12 := by
  intro r hr
  have hi := (openN_lt hr).1
  have e := open_sum (xs := xs) (n := n) (but := [(g : Int), (o : Int)]) ((openN n [(g : Int), (o : Int)]).getD r 0)
  rw [two_sum g o (fun k => (vc xs n ((openN n [(g : Int), (o : Int)]).getD r 0) k : Int)) hg ho hgo] at e
  have hb := (row_bounds h hi).1
  have hth := thick_at ht h5 hi hg
  have hth2 := thick_at ht h5 hi ho
  have e2 : sumZ (stP xs n (openN n [(g : Int), (o : Int)]) r) (openN n [(g : Int), (o : Int)]).length = sumZ (fun c => (vc xs n ((openN n [(g : Int), (o : Int)]).getD r 0) ((openN n [(g : Int), (o : Int)]).getD c 0) : Int)) (openN n [(g : Int), (o : Int)]).length := rfl
  rw [e2]
  have hE : uE = 8388608 * uV := uV_eq
  have hV := uV_big
  rw [hE] at hb hth hth2 ⊢
  generalize sumZ (fun c => (vc xs n ((openN n [(g : Int), (o : Int)]).getD r 0) ((openN n [(g : Int), (o : Int)]).getD c 0) : Int)) (openN n [(g : Int), (o : Int)]).length = S at *
  generalize vc xs n ((openN n [(g : Int), (o : Int)]).getD r 0) g = p at *
  generalize vc xs n ((openN n [(g : Int), (o : Int)]).getD r 0) o = q at *
  generalize sumN (vc xs n ((openN n [(g : Int), (o : Int)]).getD r 0)) n = R at *
  generalize uV = v at *
  omega
theorem cof_rowE {but : List Int} {right : Nat → Nat} (x : Nat → Int) (r : Nat) : rowE (cofM xs n (openN n but) right) (openN n but).length 0 x r = sumZ (fun c => sv (cofM xs n (openN n but) right r c) * x c) (openN n but).length + sv (right ((openN n but).getD r 0)) * x (openN n but).length := by
  unfold rowE
  rw [Nat.min_zero, Nat.sub_zero]
  show sumZ (fun j => sv (cofM xs n (openN n but) right r (0 + j)) * x (0 + j)) (openN n but).length + sv (cofM xs n (openN n but) right r (0 + (openN n but).length)) * x (0 + (openN n but).length) = _
  rw [Nat.zero_add, cofM_right]
  refine congrArg (· + sv (right ((openN n but).getD r 0)) * x (openN n but).length) (sumZ_congr _ fun c _ => ?_)
  rw [Nat.zero_add]
/-- what is solved: its size, and how well -/
theorem solved_size (h : Chn 32 7 n xs) (h2 : 2 ≤ n) {but : List Int} {right : Nat → Nat} {D : Nat} (hl : Leak xs n but D) (h4 : (openN n but).length ≤ 4) (h1 : 1 ≤ (openN n but).length) (hD : D ≤ 23) (hD1 : 1 ≤ D)
    (hr1 : ∀ r, r < (openN n but).length → isFin single (right ((openN n but).getD r 0)) = true ∧ val (right ((openN n but).getD r 0)) ≤ uE) :
    ∃ X : Nat → Nat, solM (cofM xs n (openN n but) right) (openN n but).length = some ((List.range (openN n but).length).map X) ∧ (∀ c, c < (openN n but).length → isFin single (X c) = true ∧ val (X c) ≤ (D + 1) * uE) ∧
      ∀ Xb, uE ≤ Xb → Xb ≤ 2 ^ 52 * uE → (∀ c, c < (openN n but).length → val (X c) ≤ Xb) → ∀ r, r < (openN n but).length →
        ((uE : Int) * sv (X r) - sumZ (fun c => stP xs n (openN n but) r c * sv (X c)) (openN n but).length - sv (right ((openN n but).getD r 0)) * (uE : Int)).natAbs ≤ (kapB (openN n but).length + 4) * (uV * Xb) := by
  have hdom := dom_of h h2 (right := right) hl h4 h1
  have hc1 : ∀ r c, r < (openN n but).length → c ≤ (openN n but).length → isFin single (cofM xs n (openN n but) right r c) = true ∧ val (cofM xs n (openN n but) right r c) ≤ uE := fun r c hr hc => by
    by_cases hcm : c = (openN n but).length
    · rw [hcm, cofM_right]
      exact hr1 r hr
    · have := cof_entry h h2 (right := right) hr (show c < (openN n but).length by omega)
      exact ⟨this.1, this.2.1⟩
  obtain ⟨X, x1, x2, x3⟩ := solved h1 h4 hD hdom (fun r c hr hc => (hc1 r c hr hc).1) (fun r c hr hc => (hc1 r c hr hc).2)
  have hres : ∀ Xb, uE ≤ Xb → Xb ≤ 2 ^ 52 * uE → (∀ c, c < (openN n but).length → val (X c) ≤ Xb) → ∀ r, r < (openN n but).length →
        ((uE : Int) * sv (X r) - sumZ (fun c => stP xs n (openN n but) r c * sv (X c)) (openN n but).length - sv (right ((openN n but).getD r 0)) * (uE : Int)).natAbs ≤ (kapB (openN n but).length + 4) * (uV * Xb) := fun Xb hX1 hX2 hx r hr => by
    have a1 := x3 Xb hX1 hX2 hx r hr
    have a2 := cof_row h h2 (right := right) (x := ptM X (openN n but).length) (X := Xb) hr (fun c hc => by
      unfold ptM
      rw [if_pos hc, sv_abs]
      exact hx c hc)
    have e1 : ptM X (openN n but).length r = sv (X r) := if_pos hr
    have e2 : ptM X (openN n but).length (openN n but).length = -(uE : Int) := if_neg (by omega)
    have e3 : sumZ (fun c => stP xs n (openN n but) r c * ptM X (openN n but).length c) (openN n but).length = sumZ (fun c => stP xs n (openN n but) r c * sv (X c)) (openN n but).length := sumZ_congr _ fun c hc => by
      have : ptM X (openN n but).length c = sv (X c) := if_pos hc
      rw [this]
    rw [e1, e2, e3, Int.mul_neg] at a2
    have a3 : (openN n but).length * (uV * Xb) ≤ 4 * (uV * Xb) := Nat.mul_le_mul_right _ h4
    rw [Nat.add_mul]
    generalize rowE (cofM xs n (openN n but) right) (openN n but).length 0 (ptM X (openN n but).length) r = p at *
    generalize (uE : Int) * sv (X r) = q at *
    generalize sumZ (fun c => stP xs n (openN n but) r c * sv (X c)) (openN n but).length = s at *
    generalize sv (right ((openN n but).getD r 0)) * (uE : Int) = t at *
    generalize (openN n but).length * (uV * Xb) = u at *
    omega
  refine ⟨X, x1, fun c hc => ⟨(x2 c hc).1, ?_⟩, hres⟩
  -- the size
  obtain ⟨j, hj, hmax⟩ := max_at (fun c => sv (X c)) (openN n but).length h1
  have hmax' : ∀ c, c < (openN n but).length → val (X c) ≤ val (X j) := fun c hc => by
    have := hmax c hc
    rwa [sv_abs, sv_abs] at this
  rcases Nat.le_total (val (X j)) uE with hle | hle
  · refine Nat.le_trans (hmax' c hc) (Nat.le_trans hle (Nat.le_mul_of_pos_left _ (by omega)))
  · refine Nat.le_trans (hmax' c hc) ?_
    obtain ⟨r, hr, hdr⟩ := hdom (fun c => if c < (openN n but).length then sv (X c) else 0) (if_neg (by omega)) j hj
    have hdr' : uE * val (X j) ≤ D * (rowE (cofM xs n (openN n but) right) (openN n but).length 0 (fun c => if c < (openN n but).length then sv (X c) else 0) r).natAbs := by
      have e : (if j < (openN n but).length then sv (X j) else 0).natAbs = val (X j) := by rw [if_pos hj, sv_abs]
      rw [← e]
      exact hdr
    have a1 := x3 (val (X j)) hle (x2 j hj).2 hmax' r hr
    have hk : kapB (openN n but).length ≤ 590 := by
      have hm : (openN n but).length = 1 ∨ (openN n but).length = 2 ∨ (openN n but).length = 3 ∨ (openN n but).length = 4 := by omega
      rcases hm with e | e | e | e <;> rw [e] <;> decide
    have a2 : kapB (openN n but).length * (uV * val (X j)) ≤ 590 * (uV * val (X j)) := Nat.mul_le_mul_right _ hk
    have hE2 : rowE (cofM xs n (openN n but) right) (openN n but).length 0 (fun c => if c < (openN n but).length then sv (X c) else 0) r = rowE (cofM xs n (openN n but) right) (openN n but).length 0 (ptM X (openN n but).length) r + sv (right ((openN n but).getD r 0)) * (uE : Int) := by
      rw [cof_rowE, cof_rowE]
      have b1 : sumZ (fun c => sv (cofM xs n (openN n but) right r c) * (if c < (openN n but).length then sv (X c) else 0)) (openN n but).length = sumZ (fun c => sv (cofM xs n (openN n but) right r c) * ptM X (openN n but).length c) (openN n but).length := sumZ_congr _ fun c hc => by
        unfold ptM
        rw [if_pos hc, if_pos hc]
      have b2 : ptM X (openN n but).length (openN n but).length = -(uE : Int) := if_neg (by omega)
      have b3 : (if (openN n but).length < (openN n but).length then sv (X (openN n but).length) else 0) = (0 : Int) := if_neg (by omega)
      rw [b1, b2, b3, Int.mul_zero, Int.mul_neg]
      generalize sumZ _ (openN n but).length = p
      generalize sv (right ((openN n but).getD r 0)) * (uE : Int) = q
      omega
    have a3 : (sv (right ((openN n but).getD r 0)) * (uE : Int)).natAbs ≤ uE * uE := by
      rw [Int.natAbs_mul, sv_abs, Int.natAbs_natCast]
      exact Nat.mul_le_mul_right _ (hr1 r hr).2
    rw [hE2] at hdr'
    have a4 : (rowE (cofM xs n (openN n but) right) (openN n but).length 0 (ptM X (openN n but).length) r + sv (right ((openN n but).getD r 0)) * (uE : Int)).natAbs ≤ 590 * (uV * val (X j)) + uE * uE := by omega
    have a5 := Nat.le_trans hdr' (Nat.mul_le_mul_left D a4)
    have hK : kA * (uV * val (X j)) = uE * val (X j) := by rw [← Nat.mul_assoc, ← uV_eq]
    have a6 : D * (590 * (uV * val (X j)) + uE * uE) ≤ 23 * (590 * (uV * val (X j))) + D * (uE * uE) := by
      rw [Nat.mul_add]
      exact Nat.add_le_add_right (Nat.mul_le_mul_right _ hD) _
    refine Nat.le_of_mul_le_mul_left (c := uE) ?_ uE_pos
    have a7 : uE * ((D + 1) * uE) = D * (uE * uE) + uE * uE := by
      generalize uE = u
      grind
    rw [a7]
    have a8 : D * (uE * uE) ≤ 23 * (uE * uE) := Nat.mul_le_mul_right _ hD
    have hA : kA = 8388608 := rfl
    rw [hA] at hK
    clear a1 a2 a3 a4 hE2 hdr hdr' a7 x3 hres
    generalize uV * val (X j) = v at *
    generalize uE * val (X j) = w at *
    generalize D * (uE * uE) = z at *
    generalize uE * uE = y at *
    omega
end
end Go.Proofs.Ytlhepgdheopgaaa

namespace Go.Proofs.Ytlhepgdheopgaaa
open Go Go.RowKit Ieee

theorem sv_one : isFin single oneF = true ∧ sv oneF = (uE : Int) ∧ val oneF = uE := by decide +kernel
theorem sv_nought : isFin single 0 = true ∧ sv 0 = 0 ∧ val 0 = 0 := by decide +kernel
section
variable {n : Nat} {xs : List Nat}
theorem len_one {g : Nat} (hg : g < n) : (openN n [(g : Int)]).length + 1 = n := by
  have h1 := len_sum n [(g : Int)]
  rw [one_sum g (fun _ => 1) hg] at h1
  omega
theorem len_two {g o : Nat} (hg : g < n) (ho : o < n) (hgo : g ≠ o) : (openN n [(g : Int), (o : Int)]).length + 2 = n := by
  have h1 := len_sum n [(g : Int), (o : Int)]
  rw [two_sum g o (fun _ => 1) hg ho hgo] at h1
  omega
/-- what the program tells of times -/
structure TimesR (xs : List Nat) (n g : Nat) (T : List Nat) : Prop where
  len : T.length = n
  fin : ∀ i, i < n → isFin single (rowOf T i) = true ∧ val (rowOf T i) ≤ 24 * uE
  goal : rowOf T g = 0
  nn : ∀ i, i < n → 0 ≤ sv (rowOf T i)
  eq : ∀ i, i < n → i ≠ g → ((uE : Int) * sv (rowOf T i) - allS xs n T i - (uE : Int) * uE).natAbs ≤ 15000 * (uV * uE)
theorem one_case {g i : Nat} : ([(g : Int)] : List Int).contains (i : Int) = true ∧ i = g ∨ ([(g : Int)] : List Int).contains (i : Int) = false ∧ i ≠ g := by
  by_cases h : i = g
  · exact .inl ⟨by simp [h], h⟩
  · exact .inr ⟨by simp; omega, h⟩
theorem times_r (h : Chn 32 7 n xs) (ht : Thick n xs) (h2 : 2 ≤ n) (h5 : n ≤ 5) {g : Nat} (hg : g < n) : ∃ T, timesN xs n g = some T ∧ TimesR xs n g T := by
  have hlen := len_one hg
  obtain ⟨X, x1, x2, x3⟩ := solved_size h h2 (right := fun _ => oneF) (leak_one h ht h5 hg) (by omega) (by omega) (by decide) (by decide) (fun r _ => ⟨sv_one.1, Nat.le_of_eq sv_one.2.2⟩)
  refine ⟨rowX n [(g : Int)] X (fun _ => 0), given_some x1, rowX_len _ _ _ _, fun i hi => ?_, rowX_given hg (by simp), fun i hi => ?_, fun i hi hig => ?_⟩
  · rcases one_case (g := g) (i := i) with ⟨hb, -⟩ | ⟨hb, -⟩
    · rw [rowX_given hi hb]
      exact ⟨sv_nought.1, by rw [sv_nought.2.2]; exact Nat.zero_le _⟩
    · obtain ⟨c, hc, he⟩ := open_at hi hb
      rw [← he, rowX_open hc]
      exact x2 c hc
  · rcases one_case (g := g) (i := i) with ⟨hb, -⟩ | ⟨hb, -⟩
    · rw [rowX_given hi hb, sv_nought.2.1]
      exact Int.le_refl _
    · obtain ⟨c, hc, he⟩ := open_at hi hb
      rw [← he, rowX_open hc]
      have hU : (0 : Int) < (uE : Int) := by have := uE_pos; omega
      have hlk := leak_one h ht h5 hg
      have lo := mini (m := (openN n [(g : Int)]).length) (D := 23) (P := stP xs n (openN n [(g : Int)])) (y := fun c => sv (X c)) (rho := 0) (fun r c _ _ => stP_nn _ r c) (fun r hr => by
        have := hlk r hr
        have h3 : (0 : Int) ≤ (23 : Nat) * (5 * uV) := by omega
        omega) (Int.le_refl _) (fun r hr => by
        have h1 := x3 (24 * uE) (Nat.le_mul_of_pos_left _ (by decide)) (Nat.mul_le_mul_right _ (by decide)) (fun c hc => (x2 c hc).2) r hr
        rw [sv_one.2.1] at h1
        have hk : kapB (openN n [(g : Int)]).length ≤ 590 := by
          have hm : (openN n [(g : Int)]).length = 1 ∨ (openN n [(g : Int)]).length = 2 ∨ (openN n [(g : Int)]).length = 3 ∨ (openN n [(g : Int)]).length = 4 := by omega
          rcases hm with e | e | e | e <;> rw [e] <;> decide
        have h3 : (kapB (openN n [(g : Int)]).length + 4) * (uV * (24 * uE)) ≤ 594 * (uV * (24 * uE)) := Nat.mul_le_mul_right _ (by omega)
        have h4 : 594 * (uV * (24 * uE)) ≤ uE * uE := by
          have e : 594 * (uV * (24 * uE)) = 14256 * uV * uE := by
            generalize uV = v
            generalize uE = u
            grind
          rw [e]
          refine Nat.mul_le_mul_right _ ?_
          rw [uV_eq]
          exact Nat.mul_le_mul_right _ (by decide)
        have h5 : (uE : Int) * (uE : Int) = ((uE * uE : Nat) : Int) := (Int.natCast_mul _ _).symm
        show -(0 : Int) ≤ (uE : Int) * sv (X r) - sumZ (fun c => stP xs n (openN n [(g : Int)]) r c * sv (X c)) (openN n [(g : Int)]).length
        rw [h5] at h1
        generalize (uE : Int) * sv (X r) = z at *
        generalize sumZ (fun c => stP xs n (openN n [(g : Int)]) r c * sv (X c)) (openN n [(g : Int)]).length = y at *
        generalize uE * uE = uu at *
        omega) c hc
      rw [Int.mul_zero] at lo
      have lo' : (uE : Int) * 0 ≤ (uE : Int) * sv (X c) := by rw [Int.mul_zero]; exact lo
      exact Int.le_of_mul_le_mul_left lo' hU
  · rcases one_case (g := g) (i := i) with ⟨-, hb⟩ | ⟨hb, -⟩
    · exact absurd hb hig
    · obtain ⟨c, hc, he⟩ := open_at hi hb
      have h1 := x3 (24 * uE) (Nat.le_mul_of_pos_left _ (by decide)) (Nat.mul_le_mul_right _ (by decide)) (fun c hc => (x2 c hc).2) c hc
      rw [all_split, one_sum g (fun k => (vc xs n i k : Int) * sv 0) hg, sv_nought.2.1, Int.mul_zero, Int.add_zero]
      have e2 : sumZ (fun c_1 => stP xs n (openN n [(g : Int)]) c c_1 * sv (X c_1)) (openN n [(g : Int)]).length = sumZ (fun c => (vc xs n i ((openN n [(g : Int)]).getD c 0) : Int) * sv (X c)) (openN n [(g : Int)]).length := by
        unfold stP
        rw [he]
      rw [e2, sv_one.2.1] at h1
      have e3 : rowOf (rowX n [(g : Int)] X (fun _ => 0)) i = X c := by rw [← he, rowX_open hc]
      rw [e3]
      refine Nat.le_trans h1 ?_
      have hk : kapB (openN n [(g : Int)]).length ≤ 590 := by
        have hm : (openN n [(g : Int)]).length = 1 ∨ (openN n [(g : Int)]).length = 2 ∨ (openN n [(g : Int)]).length = 3 ∨ (openN n [(g : Int)]).length = 4 := by omega
        rcases hm with e | e | e | e <;> rw [e] <;> decide
      have h3 : (kapB (openN n [(g : Int)]).length + 4) * (uV * (24 * uE)) ≤ 594 * (uV * (24 * uE)) := Nat.mul_le_mul_right _ (by omega)
      rw [Nat.mul_left_comm uV] at h3 ⊢
      omega
/-- what the program tells of chances -/
structure ChR (xs : List Nat) (n g o : Nat) (T : List Nat) : Prop where
  len : T.length = n
  fin : ∀ i, i < n → isFin single (rowOf T i) = true ∧ val (rowOf T i) ≤ 2 * uE
  goal : rowOf T g = oneF
  other : rowOf T o = 0
  rng : ∀ i, i < n → -(4000 * (uV : Int)) ≤ sv (rowOf T i) ∧ sv (rowOf T i) ≤ (uE : Int) + 4000 * uV
  eq : ∀ i, i < n → i ≠ g → i ≠ o → ((uE : Int) * sv (rowOf T i) - allS xs n T i).natAbs ≤ 302 * (uV * uE)
theorem two_case {g o i : Nat} : ([(g : Int), (o : Int)] : List Int).contains (i : Int) = true ∧ (i = g ∨ i = o) ∨ ([(g : Int), (o : Int)] : List Int).contains (i : Int) = false ∧ i ≠ g ∧ i ≠ o := by
  by_cases h : i = g
  · exact .inl ⟨by simp [h], .inl h⟩
  · by_cases h2 : i = o
    · exact .inl ⟨by simp [h2], .inr h2⟩
    · exact .inr ⟨by simp; omega, h, h2⟩
/-- pure numbers -/
theorem lo_calc {U V k y rho : Int} (hU : 0 < U) (h : -(12 * rho) ≤ U * y) (hr : rho ≤ k * (V * U)) : -(12 * k * V) ≤ y := by
  have e : U * (-(12 * k * V)) = -(12 * (k * (V * U))) := by grind
  have h1 : U * (-(12 * k * V)) ≤ U * y := by rw [e]; omega
  exact Int.le_of_mul_le_mul_left h1 hU
theorem hi_calc {U V a b R S z s rho : Int} (hR : R ≤ U + 15 * V) (hU : 0 ≤ U) (hb : 0 ≤ b) (eR : S + (a + b) = R) (h : (z - s - a * U).natAbs ≤ rho.toNat) (hrho : 0 ≤ rho) : -(rho + 15 * (V * U)) ≤ U * U - z - (U * S - s) := by
  have e1 : U * U - U * S - a * U = U * (U - R + b) := by grind
  have e2 : U * (-(15 * V)) ≤ U * (U - R + b) := Int.mul_le_mul_of_nonneg_left (by omega) hU
  have e3 : U * (-(15 * V)) = -(15 * (V * U)) := by grind
  rw [e3] at e2
  generalize U * (U - R + b) = w at *
  generalize U * U = uu at *
  generalize U * S = us at *
  generalize a * U = au at *
  generalize V * U = vu at *
  omega
/-- rows of chances tell chances, nearly -/
theorem chance_key {m : Nat} {P : Nat → Nat → Int} {y a b R : Nat → Int} {rho : Int} (hrho : 0 ≤ rho) (hP : ∀ r c, r < m → c < m → 0 ≤ P r c) (hD : ∀ r, r < m → (uE : Int) ≤ (12 : Nat) * ((uE : Int) - sumZ (P r) m))
    (hs : ∀ r, r < m → 0 ≤ a r ∧ 0 ≤ b r ∧ sumZ (P r) m + (a r + b r) = R r ∧ R r ≤ (uE : Int) + 15 * uV) (hres : ∀ r, r < m → ((uE : Int) * y r - sumZ (fun c => P r c * y c) m - a r * uE).natAbs ≤ rho.toNat) :
    ∀ c, c < m → -(12 * rho) ≤ (uE : Int) * y c ∧ -(12 * (rho + 15 * (uV * uE))) ≤ (uE : Int) * ((uE : Int) - y c) := by
  have lo := mini (D := 12) (y := y) hP hD hrho (fun r hr => by
    have h1 := hres r hr
    have h3 : 0 ≤ a r * (uE : Int) := Int.mul_nonneg (hs r hr).1 (by omega)
    generalize a r * (uE : Int) = p at *
    generalize (uE : Int) * y r = z at *
    generalize sumZ (fun c => P r c * y c) m = s at *
    omega)
  have hVU : 0 ≤ (uV : Int) * uE := Int.mul_nonneg (by omega) (by omega)
  have hi := mini (D := 12) (y := fun c => (uE : Int) - y c) (rho := rho + 15 * (uV * uE)) hP hD (by omega) (fun r hr => by
    have h1 := hres r hr
    obtain ⟨-, hb, eR, hR⟩ := hs r hr
    have e1 : sumZ (fun c => P r c * ((uE : Int) - y c)) m = (uE : Int) * sumZ (P r) m - sumZ (fun c => P r c * y c) m := by
      rw [← sumZ_mul, ← sumZ_sub]
      refine sumZ_congr _ fun c _ => ?_
      rw [Int.mul_sub, Int.mul_comm (uE : Int)]
    show -(rho + 15 * ((uV : Int) * uE)) ≤ (uE : Int) * ((uE : Int) - y r) - sumZ (fun c => P r c * ((uE : Int) - y c)) m
    rw [e1, Int.mul_sub]
    exact hi_calc hR (by omega) hb eR h1 hrho)
  exact fun c hc => ⟨lo c hc, hi c hc⟩
/-- what is solved for chances -/
theorem chances_x (h : Chn 32 7 n xs) (ht : Thick n xs) (h2 : 2 ≤ n) (h5 : n ≤ 5) {g o : Nat} (hg : g < n) (ho : o < n) (hgo : g ≠ o) :
    ∃ X : Nat → Nat, solM (cofM xs n (openN n [(g : Int), (o : Int)]) (fun i => stepOf xs n i g)) (openN n [(g : Int), (o : Int)]).length = some ((List.range (openN n [(g : Int), (o : Int)]).length).map X) ∧
      ∀ c, c < (openN n [(g : Int), (o : Int)]).length → isFin single (X c) = true ∧ (-(4000 * (uV : Int)) ≤ sv (X c) ∧ sv (X c) ≤ (uE : Int) + 4000 * uV) ∧
        ((uE : Int) * sv (X c) - sumZ (fun d => stP xs n (openN n [(g : Int), (o : Int)]) c d * sv (X d)) (openN n [(g : Int), (o : Int)]).length - (vc xs n ((openN n [(g : Int), (o : Int)]).getD c 0) g : Int) * (uE : Int)).natAbs ≤ 302 * (uV * uE) := by
  have hlen := len_two hg ho hgo
  by_cases hm0 : (openN n [(g : Int), (o : Int)]).length = 0
  · refine ⟨fun _ => 0, ?_, fun c hc => absurd hc (by omega)⟩
    rw [hm0]
    rfl
  · have hright : ∀ r, r < (openN n [(g : Int), (o : Int)]).length → isFin single (stepOf xs n ((openN n [(g : Int), (o : Int)]).getD r 0) g) = true ∧ val (stepOf xs n ((openN n [(g : Int), (o : Int)]).getD r 0) g) ≤ uE := fun r hr => by
      have hi := (openN_lt hr).1
      have := (h.bd _ _ hi hg).2
      rw [Nat.one_mul] at this
      exact ⟨(h.nn _ _ hi hg).1, this⟩
    have hsv : ∀ i, i < n → sv (stepOf xs n i g) = (vc xs n i g : Int) := fun i hi => by
      have h1 := nn_rung (h.nn i g hi hg)
      have h3 := (sv_of_key (s := false) (by simpa using h1)).1
      rw [if_neg (by decide)] at h3
      exact h3
    have hlk := leak_two h ht h5 hg ho hgo
    obtain ⟨X, x1, x2, x3⟩ := solved_size h h2 (right := fun i => stepOf xs n i g) hlk (by omega) (by omega) (by decide) (by decide) hright
    have hk : kapB (openN n [(g : Int), (o : Int)]).length ≤ 147 := by
      have hm : (openN n [(g : Int), (o : Int)]).length = 1 ∨ (openN n [(g : Int), (o : Int)]).length = 2 ∨ (openN n [(g : Int), (o : Int)]).length = 3 := by omega
      rcases hm with e | e | e <;> rw [e] <;> decide
    have hU : (0 : Int) < (uE : Int) := by have := uE_pos; omega
    have hD : ∀ r, r < (openN n [(g : Int), (o : Int)]).length → (uE : Int) ≤ (12 : Nat) * ((uE : Int) - sumZ (stP xs n (openN n [(g : Int), (o : Int)]) r) (openN n [(g : Int), (o : Int)]).length) := fun r hr => by
      have := hlk r hr
      have h3 : (0 : Int) ≤ (12 : Nat) * (5 * uV) := by omega
      omega
    have hs : ∀ r, r < (openN n [(g : Int), (o : Int)]).length → 0 ≤ (vc xs n ((openN n [(g : Int), (o : Int)]).getD r 0) g : Int) ∧ 0 ≤ (vc xs n ((openN n [(g : Int), (o : Int)]).getD r 0) o : Int) ∧ sumZ (stP xs n (openN n [(g : Int), (o : Int)]) r) (openN n [(g : Int), (o : Int)]).length + ((vc xs n ((openN n [(g : Int), (o : Int)]).getD r 0) g : Int) + (vc xs n ((openN n [(g : Int), (o : Int)]).getD r 0) o : Int)) = (sumN (vc xs n ((openN n [(g : Int), (o : Int)]).getD r 0)) n : Int) ∧ (sumN (vc xs n ((openN n [(g : Int), (o : Int)]).getD r 0)) n : Int) ≤ (uE : Int) + 15 * uV := fun r hr => by
      have hi := (openN_lt hr).1
      have e := open_sum (xs := xs) (n := n) (but := [(g : Int), (o : Int)]) ((openN n [(g : Int), (o : Int)]).getD r 0)
      rw [two_sum g o (fun k => (vc xs n ((openN n [(g : Int), (o : Int)]).getD r 0) k : Int)) hg ho hgo] at e
      exact ⟨Int.natCast_nonneg _, Int.natCast_nonneg _, e, (row_bounds h hi).1⟩
    have hres : ∀ q : Nat, uE ≤ q * uE → q * uE ≤ 2 ^ 52 * uE → (∀ c, c < (openN n [(g : Int), (o : Int)]).length → val (X c) ≤ q * uE) → ∀ c, c < (openN n [(g : Int), (o : Int)]).length → ((uE : Int) * sv (X c) - sumZ (fun d => stP xs n (openN n [(g : Int), (o : Int)]) c d * sv (X d)) (openN n [(g : Int), (o : Int)]).length - (vc xs n ((openN n [(g : Int), (o : Int)]).getD c 0) g : Int) * (uE : Int)).natAbs ≤ 151 * q * (uV * uE) := fun q hq1 hq2 hx c hc => by
      have h1 := x3 (q * uE) hq1 hq2 hx c hc
      rw [hsv _ (openN_lt hc).1] at h1
      refine Nat.le_trans h1 ?_
      have h3 : (kapB (openN n [(g : Int), (o : Int)]).length + 4) * (uV * (q * uE)) ≤ 151 * (uV * (q * uE)) := Nat.mul_le_mul_right _ (by omega)
      rw [Nat.mul_left_comm uV] at h3 ⊢
      rw [Nat.mul_assoc]
      exact h3
    have key : ∀ q : Nat, uE ≤ q * uE → q * uE ≤ 2 ^ 52 * uE → (∀ c, c < (openN n [(g : Int), (o : Int)]).length → val (X c) ≤ q * uE) → ∀ c, c < (openN n [(g : Int), (o : Int)]).length → -(12 * ((151 * q : Nat) : Int) * (uV : Int)) ≤ sv (X c) ∧ -(12 * ((151 * q + 15 : Nat) : Int) * (uV : Int)) ≤ (uE : Int) - sv (X c) := fun q hq1 hq2 hx c hc => by
      have hr := chance_key (m := (openN n [(g : Int), (o : Int)]).length) (P := stP xs n (openN n [(g : Int), (o : Int)])) (y := fun c => sv (X c)) (a := fun r => (vc xs n ((openN n [(g : Int), (o : Int)]).getD r 0) g : Int)) (b := fun r => (vc xs n ((openN n [(g : Int), (o : Int)]).getD r 0) o : Int)) (R := fun r => (sumN (vc xs n ((openN n [(g : Int), (o : Int)]).getD r 0)) n : Int)) (rho := ((151 * q * (uV * uE) : Nat) : Int)) (Int.natCast_nonneg _) (fun r c _ _ => stP_nn _ r c) hD hs (fun r hr => by rw [Int.toNat_natCast]; exact hres q hq1 hq2 hx r hr) c hc
      refine ⟨lo_calc hU hr.1 (Int.le_of_eq ?_), lo_calc hU hr.2 (Int.le_of_eq ?_)⟩
      · rw [Int.natCast_mul (151 * q), Int.natCast_mul uV]
      · rw [Int.natCast_mul (151 * q), Int.natCast_mul uV, Int.natCast_add, Int.add_mul]
        rfl
    -- first with a great bound, then with a small one
    have hV : (100000000000 : Int) ≤ (uV : Int) := Int.ofNat_le.2 uV_big
    have hE : (uE : Int) = 8388608 * (uV : Int) := by rw [uV_eq, Int.natCast_mul]; rfl
    have first := key 13 (Nat.le_mul_of_pos_left _ (by decide)) (Nat.mul_le_mul_right _ (by decide)) (fun c hc => (x2 c hc).2)
    have small : ∀ c, c < (openN n [(g : Int), (o : Int)]).length → val (X c) ≤ 2 * uE := fun c hc => by
      obtain ⟨f1, f2⟩ := first c hc
      rw [← sv_abs]
      have hE' : uE = 8388608 * uV := uV_eq
      rw [hE] at f2
      rw [hE']
      clear hres key hs hD hlk x3 x2 x1 hright hsv first hE hE'
      generalize sv (X c) = z at *
      generalize uV = v at *
      omega
    refine ⟨X, x1, fun c hc => ⟨(x2 c hc).1, ?_, hres 2 (Nat.le_mul_of_pos_left _ (by decide)) (Nat.mul_le_mul_right _ (by decide)) small c hc⟩⟩
    obtain ⟨f1, f2⟩ := key 2 (Nat.le_mul_of_pos_left _ (by decide)) (Nat.mul_le_mul_right _ (by decide)) small c hc
    clear hres key hs hD hlk x3 x2 x1 hright hsv first hE
    generalize sv (X c) = z at *
    generalize (uE : Int) = u at *
    generalize (uV : Int) = v at *
    constructor <;> omega
theorem chances_r (h : Chn 32 7 n xs) (ht : Thick n xs) (h2 : 2 ≤ n) (h5 : n ≤ 5) {g o : Nat} (hg : g < n) (ho : o < n) (hgo : g ≠ o) : ∃ T, chancesN xs n g o = some T ∧ ChR xs n g o T := by
  obtain ⟨X, x1, x2⟩ := chances_x h ht h2 h5 hg ho hgo
  have hV : (100000000000 : Int) ≤ (uV : Int) := Int.ofNat_le.2 uV_big
  have hE : (uE : Int) = 8388608 * (uV : Int) := by rw [uV_eq, Int.natCast_mul]; rfl
  have hgiven : ∀ i, i < n → ([(g : Int), (o : Int)] : List Int).contains (i : Int) = true → rowOf (rowX n [(g : Int), (o : Int)] X (fun i => if i = g then oneF else 0)) i = if i = g then oneF else 0 := fun i hi hb => rowX_given hi hb
  have hgg : rowOf (rowX n [(g : Int), (o : Int)] X (fun i => if i = g then oneF else 0)) g = oneF := by rw [hgiven g hg (by simp), if_pos rfl]
  have hoo : rowOf (rowX n [(g : Int), (o : Int)] X (fun i => if i = g then oneF else 0)) o = 0 := by rw [hgiven o ho (by simp), if_neg (fun h => hgo h.symm)]
  have hall : ∀ i, i < n → isFin single (rowOf (rowX n [(g : Int), (o : Int)] X (fun i => if i = g then oneF else 0)) i) = true ∧ -(4000 * (uV : Int)) ≤ sv (rowOf (rowX n [(g : Int), (o : Int)] X (fun i => if i = g then oneF else 0)) i) ∧ sv (rowOf (rowX n [(g : Int), (o : Int)] X (fun i => if i = g then oneF else 0)) i) ≤ (uE : Int) + 4000 * uV := fun i hi => by
    rcases two_case (g := g) (o := o) (i := i) with ⟨-, h1⟩ | ⟨hb, -⟩
    · rcases h1 with h1 | h1
      · rw [h1, hgg, sv_one.2.1]
        exact ⟨sv_one.1, by omega, by omega⟩
      · rw [h1, hoo, sv_nought.2.1]
        exact ⟨sv_nought.1, by omega, by omega⟩
    · obtain ⟨c, hc, he⟩ := open_at hi hb
      rw [← he, rowX_open hc]
      exact ⟨(x2 c hc).1, (x2 c hc).2.1⟩
  refine ⟨rowX n [(g : Int), (o : Int)] X (fun i => if i = g then oneF else 0), given_some x1, rowX_len _ _ _ _, fun i hi => ⟨(hall i hi).1, ?_⟩, hgg, hoo, fun i hi => (hall i hi).2, fun i hi hig hio => ?_⟩
  · obtain ⟨-, h3, h4⟩ := hall i hi
    rw [← sv_abs]
    clear hgiven hgg hoo hall x1 x2
    generalize sv (rowOf (rowX n [(g : Int), (o : Int)] X (fun i => if i = g then oneF else 0)) i) = z at *
    omega
  · rcases two_case (g := g) (o := o) (i := i) with ⟨-, h1⟩ | ⟨hb, -⟩
    · rcases h1 with h1 | h1
      · exact absurd h1 hig
      · exact absurd h1 hio
    · obtain ⟨c, hc, he⟩ := open_at hi hb
      have h1 := (x2 c hc).2.2
      rw [all_split, two_sum g o (fun k => (vc xs n i k : Int) * sv (if k = g then oneF else 0)) hg ho hgo]
      show ((uE : Int) * sv (rowOf (rowX n [(g : Int), (o : Int)] X (fun i => if i = g then oneF else 0)) i) - (sumZ (fun c => (vc xs n i ((openN n [(g : Int), (o : Int)]).getD c 0) : Int) * sv (X c)) (openN n [(g : Int), (o : Int)]).length + ((vc xs n i g : Int) * sv (if g = g then oneF else 0) + (vc xs n i o : Int) * sv (if o = g then oneF else 0)))).natAbs ≤ _
      rw [if_pos rfl, if_neg (fun h => hgo h.symm), sv_one.2.1, sv_nought.2.1, Int.mul_zero, Int.add_zero]
      have e2 : sumZ (fun d => stP xs n (openN n [(g : Int), (o : Int)]) c d * sv (X d)) (openN n [(g : Int), (o : Int)]).length = sumZ (fun d => (vc xs n i ((openN n [(g : Int), (o : Int)]).getD d 0) : Int) * sv (X d)) (openN n [(g : Int), (o : Int)]).length := by
        unfold stP
        rw [he]
      rw [e2, he] at h1
      have e3 : rowOf (rowX n [(g : Int), (o : Int)] X (fun i => if i = g then oneF else 0)) i = X c := by rw [← he, rowX_open hc]
      rw [e3]
      generalize (vc xs n i g : Int) * (uE : Int) = p at *
      generalize (uE : Int) * sv (X c) = z at *
      generalize sumZ (fun d => (vc xs n i ((openN n [(g : Int), (o : Int)]).getD d 0) : Int) * sv (X d)) (openN n [(g : Int), (o : Int)]).length = s at *
      omega
/-- both chances together are 1 -/
theorem both_r (h : Chn 32 7 n xs) (ht : Thick n xs) (h5 : n ≤ 5) {g o : Nat} (hg : g < n) (ho : o < n) (hgo : g ≠ o) {T T' : List Nat} (hT : ChR xs n g o T) (hT' : ChR xs n o g T') {i : Nat} (hi : i < n) :
    (sv (rowOf T i) + sv (rowOf T' i) - (uE : Int)).natAbs ≤ 7500 * uV := by
  have hlk := leak_two h ht h5 hg ho hgo
  have hU : (0 : Int) < (uE : Int) := by have := uE_pos; omega
  have hD : ∀ r, r < (openN n [(g : Int), (o : Int)]).length → (uE : Int) ≤ (12 : Nat) * ((uE : Int) - sumZ (stP xs n (openN n [(g : Int), (o : Int)]) r) (openN n [(g : Int), (o : Int)]).length) := fun r hr => by
    have := hlk r hr
    have h3 : (0 : Int) ≤ (12 : Nat) * (5 * uV) := by omega
    omega
  have hw : ∀ i, i < n → ([(g : Int), (o : Int)] : List Int).contains (i : Int) = true → sv (rowOf T i) + sv (rowOf T' i) - (uE : Int) = 0 := fun i hi hb => by
    rcases two_case (g := g) (o := o) (i := i) with ⟨-, h1⟩ | ⟨hb', -⟩
    · rcases h1 with h1 | h1
      · rw [h1, hT.goal, hT'.other, sv_one.2.1, sv_nought.2.1]
        omega
      · rw [h1, hT.other, hT'.goal, sv_one.2.1, sv_nought.2.1]
        omega
    · rw [hb] at hb'
      cases hb'
  -- the row of the sums
  have hrow : ∀ r, r < (openN n [(g : Int), (o : Int)]).length → ((uE : Int) * (sv (rowOf T ((openN n [(g : Int), (o : Int)]).getD r 0)) + sv (rowOf T' ((openN n [(g : Int), (o : Int)]).getD r 0)) - (uE : Int)) - sumZ (fun c => stP xs n (openN n [(g : Int), (o : Int)]) r c * (sv (rowOf T ((openN n [(g : Int), (o : Int)]).getD c 0)) + sv (rowOf T' ((openN n [(g : Int), (o : Int)]).getD c 0)) - (uE : Int))) (openN n [(g : Int), (o : Int)]).length).natAbs ≤ 619 * (uV * uE) := fun r hr => by
    have hi := (openN_lt hr).1
    have hb := (openN_lt hr).2
    generalize hir : (openN n [(g : Int), (o : Int)]).getD r 0 = i at *
    have hig : i ≠ g ∧ i ≠ o := by
      rcases two_case (g := g) (o := o) (i := i) with ⟨h1, -⟩ | ⟨-, h1⟩
      · rw [hb] at h1; cases h1
      · exact h1
    have e1 := hT.eq i hi hig.1 hig.2
    have e2 := hT'.eq i hi hig.2 hig.1
    have hR := row_bounds h hi
    have e3 : sumZ (fun c => stP xs n (openN n [(g : Int), (o : Int)]) r c * (sv (rowOf T ((openN n [(g : Int), (o : Int)]).getD c 0)) + sv (rowOf T' ((openN n [(g : Int), (o : Int)]).getD c 0)) - (uE : Int))) (openN n [(g : Int), (o : Int)]).length = allS xs n T i + allS xs n T' i - (uE : Int) * (sumN (vc xs n i) n : Int) := by
      have e4 : sumZ (fun c => stP xs n (openN n [(g : Int), (o : Int)]) r c * (sv (rowOf T ((openN n [(g : Int), (o : Int)]).getD c 0)) + sv (rowOf T' ((openN n [(g : Int), (o : Int)]).getD c 0)) - (uE : Int))) (openN n [(g : Int), (o : Int)]).length = sumZ (fun c => (fun k => (vc xs n i k : Int) * (sv (rowOf T k) + sv (rowOf T' k) - (uE : Int))) ((openN n [(g : Int), (o : Int)]).getD c 0)) (openN n [(g : Int), (o : Int)]).length := by
        unfold stP
        rw [hir]
      rw [e4, sum_open [(g : Int), (o : Int)] (fun k => (vc xs n i k : Int) * (sv (rowOf T k) + sv (rowOf T' k) - (uE : Int)))]
      unfold allS
      rw [sumZ_cast, ← sumZ_mul, ← sumZ_add, ← sumZ_sub]
      refine sumZ_congr n fun k hk => ?_
      by_cases hbk : ([(g : Int), (o : Int)] : List Int).contains (k : Int) = true
      · rw [if_pos hbk]
        have := hw k hk hbk
        generalize sv (rowOf T k) = a at *
        generalize sv (rowOf T' k) = b at *
        generalize (vc xs n i k : Int) = p at *
        generalize (uE : Int) = u at *
        have e5 : p * a + p * b - u * p = p * (a + b - u) := by grind
        rw [e5, this, Int.mul_zero]
      · rw [if_neg hbk]
        generalize sv (rowOf T k) = a at *
        generalize sv (rowOf T' k) = b at *
        generalize (vc xs n i k : Int) = p at *
        generalize (uE : Int) = u at *
        grind
    rw [e3]
    have e6 : ((uE : Int) * ((sumN (vc xs n i) n : Int) - (uE : Int))).natAbs ≤ 15 * (uV * uE) := by
      rw [Int.natAbs_mul, Int.natAbs_natCast, Nat.mul_comm uV, Nat.mul_left_comm]
      refine Nat.mul_le_mul_left _ ?_
      omega
    have e7 : (uE : Int) * (sv (rowOf T i) + sv (rowOf T' i) - (uE : Int)) - (allS xs n T i + allS xs n T' i - (uE : Int) * (sumN (vc xs n i) n : Int)) = ((uE : Int) * sv (rowOf T i) - allS xs n T i) + ((uE : Int) * sv (rowOf T' i) - allS xs n T' i) + (uE : Int) * ((sumN (vc xs n i) n : Int) - (uE : Int)) := by
      generalize sv (rowOf T i) = a
      generalize sv (rowOf T' i) = b
      generalize (uE : Int) = u
      grind
    rw [e7]
    generalize (uE : Int) * sv (rowOf T i) - allS xs n T i = p at *
    generalize (uE : Int) * sv (rowOf T' i) - allS xs n T' i = q at *
    generalize (uE : Int) * ((sumN (vc xs n i) n : Int) - (uE : Int)) = r at *
    omega
  by_cases hb : ([(g : Int), (o : Int)] : List Int).contains (i : Int) = true
  · rw [hw i hi hb]
    exact Nat.zero_le _
  · obtain ⟨c, hc, he⟩ := open_at hi (eq_false_of_ne_true hb)
    have lo := mini (m := (openN n [(g : Int), (o : Int)]).length) (D := 12) (P := stP xs n (openN n [(g : Int), (o : Int)])) (y := fun c => sv (rowOf T ((openN n [(g : Int), (o : Int)]).getD c 0)) + sv (rowOf T' ((openN n [(g : Int), (o : Int)]).getD c 0)) - (uE : Int)) (rho := ((619 * (uV * uE) : Nat) : Int)) (fun r c _ _ => stP_nn _ r c) hD (Int.natCast_nonneg _) (fun r hr => by
      have := hrow r hr
      omega) c hc
    have hi2 := mini (m := (openN n [(g : Int), (o : Int)]).length) (D := 12) (P := stP xs n (openN n [(g : Int), (o : Int)])) (y := fun c => -(sv (rowOf T ((openN n [(g : Int), (o : Int)]).getD c 0)) + sv (rowOf T' ((openN n [(g : Int), (o : Int)]).getD c 0)) - (uE : Int))) (rho := ((619 * (uV * uE) : Nat) : Int)) (fun r c _ _ => stP_nn _ r c) hD (Int.natCast_nonneg _) (fun r hr => by
      have h1 := hrow r hr
      have e1 : sumZ (fun c => stP xs n (openN n [(g : Int), (o : Int)]) r c * -(sv (rowOf T ((openN n [(g : Int), (o : Int)]).getD c 0)) + sv (rowOf T' ((openN n [(g : Int), (o : Int)]).getD c 0)) - (uE : Int))) (openN n [(g : Int), (o : Int)]).length = -1 * sumZ (fun c => stP xs n (openN n [(g : Int), (o : Int)]) r c * (sv (rowOf T ((openN n [(g : Int), (o : Int)]).getD c 0)) + sv (rowOf T' ((openN n [(g : Int), (o : Int)]).getD c 0)) - (uE : Int))) (openN n [(g : Int), (o : Int)]).length := by
        rw [← sumZ_mul]
        refine sumZ_congr _ fun c _ => ?_
        rw [Int.mul_neg]
        omega
      show -((619 * (uV * uE) : Nat) : Int) ≤ (uE : Int) * -(sv (rowOf T ((openN n [(g : Int), (o : Int)]).getD r 0)) + sv (rowOf T' ((openN n [(g : Int), (o : Int)]).getD r 0)) - (uE : Int)) - sumZ (fun c => stP xs n (openN n [(g : Int), (o : Int)]) r c * -(sv (rowOf T ((openN n [(g : Int), (o : Int)]).getD c 0)) + sv (rowOf T' ((openN n [(g : Int), (o : Int)]).getD c 0)) - (uE : Int))) (openN n [(g : Int), (o : Int)]).length
      rw [e1, Int.mul_neg]
      omega) c hc
    have e0 : ((619 * (uV * uE) : Nat) : Int) = 619 * ((uV : Int) * uE) := by rw [Int.natCast_mul, Int.natCast_mul]; rfl
    have l1 := lo_calc hU lo (k := 619) (V := (uV : Int)) (Int.le_of_eq e0)
    have l2 := lo_calc hU hi2 (k := 619) (V := (uV : Int)) (Int.le_of_eq e0)
    have l1' : -(12 * 619 * (uV : Int)) ≤ sv (rowOf T ((openN n [(g : Int), (o : Int)]).getD c 0)) + sv (rowOf T' ((openN n [(g : Int), (o : Int)]).getD c 0)) - (uE : Int) := l1
    have l2' : -(12 * 619 * (uV : Int)) ≤ -(sv (rowOf T ((openN n [(g : Int), (o : Int)]).getD c 0)) + sv (rowOf T' ((openN n [(g : Int), (o : Int)]).getD c 0)) - (uE : Int)) := l2
    rw [he] at l1' l2'
    generalize sv (rowOf T i) + sv (rowOf T' i) - (uE : Int) = z at *
    omega
end
end Go.Proofs.Ytlhepgdheopgaaa

namespace Go.Proofs.Ytlhepgdheopgaaa
open Go Ieee

set_option exponentiation.threshold 2000
/-- the units of 1 -/
def oD : Nat := uE * uD
theorem oD_pos : 0 < oD := Nat.mul_pos uE_pos uD_pos
/-- a number with its sign, in least units -/
def sd (x : Nat) : Int := if negOf double x = true then -(gval double x : Int) else gval double x
theorem sd_abs (x : Nat) : (sd x).natAbs = gval double x := by
  unfold sd
  split <;> omega
theorem sd_of_key {x r : Nat} {s : Bool} (h : key double x = if s = true then -(r : Int) else r) : sd x = (if s = true then -(mu double r : Int) else mu double r) ∧ rungOf double x = r := by
  have hr : rungOf double x = r := by
    unfold key at h
    split at h <;> split at h <;> omega
  refine ⟨?_, hr⟩
  unfold sd
  have hv : gval double x = mu double r := by unfold gval; rw [hr]
  rw [hv]
  unfold key at h
  rw [hr] at h
  rcases Nat.eq_zero_or_pos r with h0 | h0
  · subst h0
    rw [mu_zero]
    split <;> split <;> rfl
  · split at h
    · rename_i hn
      rw [if_pos hn]
      split at h
      · rename_i hs
        rw [if_pos hs]
      · omega
    · rename_i hn
      rw [if_neg hn]
      split at h
      · omega
      · rename_i hs
        rw [if_neg hs]
theorem sd_read {x : Nat} (hx : isFin double x = true) : ∃ s m e, double.read x = .number s m e ∧ double.leastPlace ≤ e ∧ m * 2 ^ (e - double.leastPlace).toNat = gval double x ∧ ∀ _ : Nat, sd x = if s = true then -((m * 2 ^ (e - double.leastPlace).toNat : Nat) : Int) else ((m * 2 ^ (e - double.leastPlace).toNat : Nat) : Int) := by
  obtain ⟨m, e, hr, hl, hm⟩ := read_fin ((fin_iff double dE x).1 hx)
  have hv : m * 2 ^ (e - double.leastPlace).toNat = gval double x := hm
  refine ⟨_, m, e, hr, hl, hv, fun _ => ?_⟩
  rw [hv]
  rfl
/-- the difference -/
theorem sub_d {x y : Nat} (hx : isFin double x = true) (hy : isFin double y = true) (h : (sd x - sd y).natAbs ≤ (uT * uD)) :
    isFin double (gsub double x y) = true ∧ (sd (gsub double x y) - (sd x - sd y)).natAbs * kA ≤ (sd x - sd y).natAbs := by
  obtain ⟨s, m, i, hr, hli, -, hm⟩ := sd_read hx
  obtain ⟨t, n, j, hq, hlj, -, hn⟩ := sd_read hy
  have hsub : double.sub x y = some (double.nearest (if signed s m (i - min i j).toNat + signed (!t) n (j - min i j).toNat = 0 then s && !t else decide (signed s m (i - min i j).toNat + signed (!t) n (j - min i j).toNat < 0)) (signed s m (i - min i j).toNat + signed (!t) n (j - min i j).toNat).natAbs (min i j)) := by
    unfold Format.sub
    rw [hr, hq]
    rfl
  have hv := congrArg (fun o => Option.getD o 0) hsub
  change gsub double x y = _ at hv
  simp only [Option.getD_some] at hv
  have e1 : (i - double.leastPlace).toNat = (i - min i j).toNat + (min i j - double.leastPlace).toNat := by omega
  have e2 : (j - double.leastPlace).toNat = (j - min i j).toNat + (min i j - double.leastPlace).toNat := by omega
  have hx2 := hm 0
  have hy2 := hn 0
  rw [e1, mul_pow_add, sgn_mul, ← signed_eq] at hx2
  rw [e2, mul_pow_add, sgn_mul, ← signed_eq] at hy2
  have hneg : signed (!t) n (j - min i j).toNat = -signed t n (j - min i j).toNat := by
    rw [signed_eq, signed_eq]
    cases t <;> simp
  rw [hneg] at hv
  have hlp : double.leastPlace ≤ min i j := by omega
  generalize signed s m (i - min i j).toNat = a at *
  generalize signed t n (j - min i j).toNat = b at *
  generalize min i j = place at *
  clear hsub hm hn hr hq e1 e2 hneg
  have hd : sd x - sd y = (a + -b) * ((2 ^ (place - double.leastPlace).toNat : Nat) : Int) := by rw [hx2, hy2, ← Int.sub_eq_add_neg, Int.sub_mul]
  have hkey := key_nearest double (if a + -b = 0 then s && !t else decide (a + -b < 0)) (a + -b).natAbs place
  rw [← hv] at hkey
  obtain ⟨k1, k2⟩ := sd_of_key hkey
  generalize a + -b = z at *
  have hX : (sd x - sd y).natAbs = z.natAbs * 2 ^ (place - double.leastPlace).toNat := by rw [hd, Int.natAbs_mul, Int.natAbs_natCast]
  have e0 : (double.leastPlace - double.leastPlace).toNat = 0 := by omega
  -- what the rounded number is worth
  have hmag : rungTo double z.natAbs place ≤ 4926937992343322624 ∧ (((mu double (rungTo double z.natAbs place) : Nat) : Int) - ((z.natAbs * 2 ^ (place - double.leastPlace).toNat : Nat) : Int)).natAbs * kA ≤ z.natAbs * 2 ^ (place - double.leastPlace).toNat := by
    rw [hX] at h
    rcases Nat.le_total (z.natAbs * 2 ^ (place - double.leastPlace).toNat) double.binade with hs | hs
    · have e := exact_round double z.natAbs place hlp hs dI
      rw [e]
      refine ⟨?_, by rw [Int.sub_self, Int.natAbs_zero, Nat.zero_mul]; exact Nat.zero_le _⟩
      have : mu double (rungTo double z.natAbs place) ≤ mu double 4926937992343322624 := by rw [e, muD_top]; exact h
      exact (mu_le_iff double _ _).1 this
    · obtain ⟨g1, g2⟩ := near_round double dA z.natAbs place double.leastPlace hlp (Int.le_refl _) 4926937992343322624 topD_lt (by rw [e0, Nat.pow_zero, Nat.mul_one]; exact Nat.le_trans dA hs) (by rw [e0, Nat.pow_zero, Nat.mul_one, muD_top]; exact h)
      rw [e0, Nat.pow_zero, Nat.mul_one] at g2
      exact ⟨g1, near_abs g2⟩
  refine ⟨(fin_iff double dE _).2 (by rw [k2]; exact Nat.lt_of_le_of_lt hmag.1 topD_lt), ?_⟩
  have hfin : (sd (gsub double x y) - (sd x - sd y)).natAbs = (((mu double (rungTo double z.natAbs place) : Nat) : Int) - ((z.natAbs * 2 ^ (place - double.leastPlace).toNat : Nat) : Int)).natAbs := by
    rw [k1, hd]
    generalize 2 ^ (place - double.leastPlace).toNat = P
    generalize hM : mu double (rungTo double z.natAbs place) = M
    by_cases hz : z = 0
    · subst hz
      have : M = 0 := by rw [← hM]; rfl
      subst this
      simp
    · rw [if_neg hz]
      by_cases hlt : z < 0
      · rw [if_pos (decide_eq_true hlt), Int.natCast_mul]
        have e : z = -(z.natAbs : Int) := by omega
        rw [show z * (P : Int) = -((z.natAbs : Int) * (P : Int)) by rw [← Int.neg_mul, ← e]]
        generalize (z.natAbs : Int) * (P : Int) = q
        omega
      · rw [if_neg (by simpa using hlt), Int.natCast_mul]
        have e : z = (z.natAbs : Int) := by omega
        rw [show z * (P : Int) = (z.natAbs : Int) * (P : Int) by rw [← e]]
  rw [hfin, hX]
  exact hmag.2
/-- the sum -/
theorem add_d {x y : Nat} (hx : isFin double x = true) (hy : isFin double y = true) (h : (sd x + sd y).natAbs ≤ (uT * uD)) :
    isFin double (gadd double x y) = true ∧ (sd (gadd double x y) - (sd x + sd y)).natAbs * kA ≤ (sd x + sd y).natAbs := by
  obtain ⟨s, m, i, hr, hli, -, hm⟩ := sd_read hx
  obtain ⟨t, n, j, hq, hlj, -, hn⟩ := sd_read hy
  have hadd : double.add x y = some (double.nearest (if signed s m (i - min i j).toNat + signed t n (j - min i j).toNat = 0 then s && t else decide (signed s m (i - min i j).toNat + signed t n (j - min i j).toNat < 0)) (signed s m (i - min i j).toNat + signed t n (j - min i j).toNat).natAbs (min i j)) := by
    unfold Format.add
    rw [hr, hq]
    rfl
  have hv := congrArg (fun o => Option.getD o 0) hadd
  change gadd double x y = _ at hv
  simp only [Option.getD_some] at hv
  have e1 : (i - double.leastPlace).toNat = (i - min i j).toNat + (min i j - double.leastPlace).toNat := by omega
  have e2 : (j - double.leastPlace).toNat = (j - min i j).toNat + (min i j - double.leastPlace).toNat := by omega
  have hx2 := hm 0
  have hy2 := hn 0
  rw [e1, mul_pow_add, sgn_mul, ← signed_eq] at hx2
  rw [e2, mul_pow_add, sgn_mul, ← signed_eq] at hy2
  have hlp : double.leastPlace ≤ min i j := by omega
  generalize signed s m (i - min i j).toNat = a at *
  generalize signed t n (j - min i j).toNat = b at *
  generalize min i j = place at *
  clear hadd hm hn hr hq e1 e2
  have hd : sd x + sd y = (a + b) * ((2 ^ (place - double.leastPlace).toNat : Nat) : Int) := by rw [hx2, hy2, Int.add_mul]
  have hkey := key_nearest double (if a + b = 0 then s && t else decide (a + b < 0)) (a + b).natAbs place
  rw [← hv] at hkey
  obtain ⟨k1, k2⟩ := sd_of_key hkey
  generalize a + b = z at *
  have hX : (sd x + sd y).natAbs = z.natAbs * 2 ^ (place - double.leastPlace).toNat := by rw [hd, Int.natAbs_mul, Int.natAbs_natCast]
  have e0 : (double.leastPlace - double.leastPlace).toNat = 0 := by omega
  -- what the rounded number is worth
  have hmag : rungTo double z.natAbs place ≤ 4926937992343322624 ∧ (((mu double (rungTo double z.natAbs place) : Nat) : Int) - ((z.natAbs * 2 ^ (place - double.leastPlace).toNat : Nat) : Int)).natAbs * kA ≤ z.natAbs * 2 ^ (place - double.leastPlace).toNat := by
    rw [hX] at h
    rcases Nat.le_total (z.natAbs * 2 ^ (place - double.leastPlace).toNat) double.binade with hs | hs
    · have e := exact_round double z.natAbs place hlp hs dI
      rw [e]
      refine ⟨?_, by rw [Int.sub_self, Int.natAbs_zero, Nat.zero_mul]; exact Nat.zero_le _⟩
      have : mu double (rungTo double z.natAbs place) ≤ mu double 4926937992343322624 := by rw [e, muD_top]; exact h
      exact (mu_le_iff double _ _).1 this
    · obtain ⟨g1, g2⟩ := near_round double dA z.natAbs place double.leastPlace hlp (Int.le_refl _) 4926937992343322624 topD_lt (by rw [e0, Nat.pow_zero, Nat.mul_one]; exact Nat.le_trans dA hs) (by rw [e0, Nat.pow_zero, Nat.mul_one, muD_top]; exact h)
      rw [e0, Nat.pow_zero, Nat.mul_one] at g2
      exact ⟨g1, near_abs g2⟩
  refine ⟨(fin_iff double dE _).2 (by rw [k2]; exact Nat.lt_of_le_of_lt hmag.1 topD_lt), ?_⟩
  have hfin : (sd (gadd double x y) - (sd x + sd y)).natAbs = (((mu double (rungTo double z.natAbs place) : Nat) : Int) - ((z.natAbs * 2 ^ (place - double.leastPlace).toNat : Nat) : Int)).natAbs := by
    rw [k1, hd]
    generalize 2 ^ (place - double.leastPlace).toNat = P
    generalize hM : mu double (rungTo double z.natAbs place) = M
    by_cases hz : z = 0
    · subst hz
      have : M = 0 := by rw [← hM]; rfl
      subst this
      simp
    · rw [if_neg hz]
      by_cases hlt : z < 0
      · rw [if_pos (decide_eq_true hlt), Int.natCast_mul]
        have e : z = -(z.natAbs : Int) := by omega
        rw [show z * (P : Int) = -((z.natAbs : Int) * (P : Int)) by rw [← Int.neg_mul, ← e]]
        generalize (z.natAbs : Int) * (P : Int) = q
        omega
      · rw [if_neg (by simpa using hlt), Int.natCast_mul]
        have e : z = (z.natAbs : Int) := by omega
        rw [show z * (P : Int) = (z.natAbs : Int) * (P : Int) by rw [← e]]
  rw [hfin, hX]
  exact hmag.2
/-- the product -/
theorem mul_d {x y : Nat} (hx : isFin double x = true) (hy : isFin double y = true) (h : (sd x * sd y).natAbs ≤ (uT * uD) * oD) :
    isFin double (gmul double x y) = true ∧ (sd (gmul double x y) * (oD : Int) - sd x * sd y).natAbs * kA ≤ (sd x * sd y).natAbs + kA * oD := by
  obtain ⟨s, m, i, hr, hli, -, hm⟩ := sd_read hx
  obtain ⟨t, n, j, hq, hlj, -, hn⟩ := sd_read hy
  have hmul : double.mul x y = some (double.nearest (s ^^ t) (m * n) (i + j)) := by
    unfold Format.mul
    rw [hr, hq]
    rfl
  have hv := congrArg (fun o => Option.getD o 0) hmul
  change gmul double x y = _ at hv
  simp only [Option.getD_some] at hv
  have hkey := key_nearest double (s ^^ t) (m * n) (i + j)
  rw [← hv] at hkey
  obtain ⟨k1, k2⟩ := sd_of_key hkey
  have hx2 := hm 0
  have hy2 := hn 0
  have e1 : (i + j - (double.leastPlace + double.leastPlace)).toNat = (i - double.leastPlace).toNat + (j - double.leastPlace).toNat := by omega
  have hX : m * n * 2 ^ (i + j - (double.leastPlace + double.leastPlace)).toNat = m * 2 ^ (i - double.leastPlace).toNat * (n * 2 ^ (j - double.leastPlace).toNat) := by
    rw [e1, Nat.pow_add, Nat.mul_mul_mul_comm]
  have hprod : sd x * sd y = if (s ^^ t) = true then -((m * n * 2 ^ (i + j - (double.leastPlace + double.leastPlace)).toNat : Nat) : Int) else ((m * n * 2 ^ (i + j - (double.leastPlace + double.leastPlace)).toNat : Nat) : Int) := by
    rw [hX, hx2, hy2, Int.natCast_mul (m * 2 ^ (i - double.leastPlace).toNat)]
    cases s <;> cases t <;> simp [Int.mul_neg, Int.neg_mul]
  generalize hA : m * n * 2 ^ (i + j - (double.leastPlace + double.leastPlace)).toNat = X at *
  have hXn : (sd x * sd y).natAbs = X := by
    rw [hprod]
    split <;> omega
  rw [hXn] at h ⊢
  have hlp := dL
  have e0 : 2 ^ (double.leastPlace - (double.leastPlace + double.leastPlace)).toNat = oD := by
    rw [dlp, Nat.pow_add]
    rfl
  have hpl : double.leastPlace + double.leastPlace ≤ i + j := by omega
  have hmag : rungTo double (m * n) (i + j) ≤ 4926937992343322624 ∧ (((mu double (rungTo double (m * n) (i + j)) * oD : Nat) : Int) - (X : Int)).natAbs * kA ≤ X + kA * oD := by
    have htop : rungTo double (m * n) (i + j) ≤ 4926937992343322624 := rungTo_mono double (m * n) (i + j) (double.leastPlace + double.leastPlace) 4926937992343322624 hpl (by omega) (by rw [e0, muD_top, hA]; exact h)
    refine ⟨htop, ?_⟩
    rcases Nat.le_total (kA * oD) X with hs | hs
    · obtain ⟨g1, g2⟩ := near_round double dA (m * n) (i + j) (double.leastPlace + double.leastPlace) hpl (by omega) 4926937992343322624 topD_lt (by rw [e0, hA]; exact hs) (by rw [e0, muD_top, hA]; exact h)
      rw [e0, hA] at g2
      exact Nat.le_trans (near_abs g2) (Nat.le_add_right _ _)
    · have hd := Nat.div_add_mod X oD
      have hmod := Nat.mod_lt X oD_pos
      have hq1 : X / oD ≤ kA := by
        rw [Nat.div_le_iff_le_mul_add_pred oD_pos]
        rw [Nat.mul_comm] at hs
        omega
      have hq2 : X / oD < kA ∨ X = kA * oD := by
        rcases Nat.lt_or_ge (X / oD) kA with h1 | h1
        · exact .inl h1
        · right
          have h2 : kA * oD ≤ X := by
            have := Nat.mul_le_mul_right oD h1
            have h3 := Nat.div_mul_le_self X oD
            omega
          omega
      have hb : kA ≤ double.binade := dA
      have h1 : mu double (X / oD) = X / oD := mu_small double (by omega)
      have l1 : X / oD ≤ rungTo double (m * n) (i + j) := rungTo_low double (m * n) (i + j) (double.leastPlace + double.leastPlace) (X / oD) hpl (by omega) (by have := dI; omega) (by rw [e0, hA, h1]; exact Nat.div_mul_le_self _ _)
      have l2 : rungTo double (m * n) (i + j) ≤ X / oD + 1 := by
        rcases hq2 with hq2 | hq2
        · have h2 : mu double (X / oD + 1) = X / oD + 1 := mu_small double (by omega)
          refine rungTo_mono double (m * n) (i + j) (double.leastPlace + double.leastPlace) (X / oD + 1) hpl (by omega) ?_
          rw [e0, hA, h2, Nat.add_mul, Nat.one_mul, Nat.mul_comm]
          omega
        · have h3 : X / oD = kA := by rw [hq2]; exact Nat.mul_div_cancel _ oD_pos
          have h4 : mu double kA = kA := mu_small double hb
          have : rungTo double (m * n) (i + j) ≤ kA := rungTo_mono double (m * n) (i + j) (double.leastPlace + double.leastPlace) kA hpl (by omega) (by rw [e0, hA, h4]; exact Nat.le_of_eq hq2)
          omega
      have h5 : mu double (rungTo double (m * n) (i + j)) = X / oD ∨ mu double (rungTo double (m * n) (i + j)) = X / oD + 1 := by
        rcases Nat.lt_or_ge (X / oD) (rungTo double (m * n) (i + j)) with hlt | hge
        · right
          have e : rungTo double (m * n) (i + j) = X / oD + 1 := by omega
          rcases hq2 with hq2 | hq2
          · rw [e]
            exact mu_small double (by omega)
          · exfalso
            have h3 : X / oD = kA := by rw [hq2]; exact Nat.mul_div_cancel _ oD_pos
            have h4 : mu double kA = kA := mu_small double hb
            have : rungTo double (m * n) (i + j) ≤ kA := rungTo_mono double (m * n) (i + j) (double.leastPlace + double.leastPlace) kA hpl (by omega) (by rw [e0, hA, h4]; exact Nat.le_of_eq hq2)
            omega
        · left
          have e : rungTo double (m * n) (i + j) = X / oD := by omega
          rw [e]
          exact h1
      have h6 : (((mu double (rungTo double (m * n) (i + j)) * oD : Nat) : Int) - (X : Int)).natAbs ≤ oD := by
        rw [Nat.mul_comm oD] at hd
        rcases h5 with h5 | h5
        · rw [h5]
          generalize X / oD * oD = q at *
          omega
        · rw [h5, Nat.add_mul, Nat.one_mul]
          generalize X / oD * oD = q at *
          omega
      have h7 := Nat.mul_le_mul_right kA h6
      rw [Nat.mul_comm oD] at h7
      omega
  refine ⟨(fin_iff double dE _).2 (by rw [k2]; exact Nat.lt_of_le_of_lt hmag.1 topD_lt), ?_⟩
  have hfin : (sd (gmul double x y) * (oD : Int) - sd x * sd y).natAbs = (((mu double (rungTo double (m * n) (i + j)) * oD : Nat) : Int) - (X : Int)).natAbs := by
    rw [k1, hprod, Int.natCast_mul]
    generalize mu double (rungTo double (m * n) (i + j)) = M
    by_cases hst : (s ^^ t) = true
    · rw [if_pos hst, if_pos hst, Int.neg_mul]
      generalize (M : Int) * (oD : Int) = q
      omega
    · rw [if_neg hst, if_neg hst]
  rw [hfin]
  exact hmag.2
end Go.Proofs.Ytlhepgdheopgaaa

namespace Go.Proofs.Ytlhepgdheopgaaa
open Go Go.RowKit Ieee

set_option exponentiation.threshold 2000
def dV : Nat := uV * uD
theorem oD_eq : oD = kA * dV := by unfold oD dV; rw [uV_eq, Nat.mul_assoc]
theorem dV_big : 100000000000 ≤ dV := Nat.le_trans uV_big (Nat.le_mul_of_pos_right _ uD_pos)
theorem oD_top : 2 ^ 70 * oD ≤ uT * uD := by
  unfold oD
  rw [← Nat.mul_assoc]
  exact Nat.mul_le_mul_right _ (by decide)
theorem oD_big : 1000000000 * kA ≤ oD := by
  rw [oD_eq, Nat.mul_comm]
  exact Nat.mul_le_mul_left _ (Nat.le_trans (by decide) dV_big)
theorem wd_s {x : Nat} (hx : isFin single x = true) (ht : val x ≤ uT) : floatToFloatBits .f32 x .f64 = some (wd x) ∧ isFin double (wd x) = true ∧ (sd (wd x) - sv x * (uD : Int)).natAbs * kA ≤ val x * uD := by
  obtain ⟨r, hr, -⟩ := wide x (fin_not_nan hx)
  have hw : wd x = r := by unfold wd; rw [hr]; rfl
  obtain ⟨s, m, e, h1, h2, hv, hs⟩ := sv_read hx
  have hs := hs 0
  have hlp : single.leastPlace = -149 := least_lit
  rw [hv] at hs
  rw [hlp] at h2 hv
  have hr2 := hr
  unfold floatToFloatBits at hr2
  rw [if_neg (by decide)] at hr2
  unfold FloatKind.decode FloatKind.encode at hr2
  have hr3 : (match single.read x with | .nan _ _ => none | .infinity s => some (double.write (.infinity s)) | .number s m e => if (double.read (double.write (.number s m e))).isInfinity = true then none else some (double.write (.number s m e))) = some r := hr2
  rw [h1] at hr3
  have hr4 : r = double.nearest s m e := by
    have hr5 : (if (double.read (double.write (.number s m e))).isInfinity = true then none else some (double.write (.number s m e))) = some r := hr3
    split at hr5
    · cases hr5
    · exact (Option.some.inj hr5).symm
  have hkey := key_nearest double s m e
  rw [← hr4] at hkey
  obtain ⟨k1, k2⟩ := sd_of_key hkey
  have e1 : (e - double.leastPlace).toNat = (e - -149).toNat + 925 := by rw [dL]; omega
  have e0 : (double.leastPlace - double.leastPlace).toNat = 0 := by omega
  have hM : m * 2 ^ (e - double.leastPlace).toNat = val x * uD := by
    rw [e1, pow_split, ← Nat.mul_assoc, hv]
  have hp : double.leastPlace ≤ e := by rw [dL]; omega
  rw [hw]
  by_cases hm : m = 0
  · have hz : rungTo double m e = 0 := by rw [hm]; rfl
    rw [hz] at k1 k2
    have hx0 : val x = 0 := by rw [← hv, hm, Nat.zero_mul]
    refine ⟨hr, (fin_iff double dE _).2 (by rw [k2]; exact Nat.lt_of_le_of_lt (Nat.zero_le _) topD_lt), ?_⟩
    rw [k1, hs, hx0, mu_zero]
    cases s <;> simp
  · have hv0 : 0 < val x := by
      rw [← hv]
      exact Nat.mul_pos (by omega) (Nat.two_pow_pos _)
    obtain ⟨g1, g2⟩ := near_round double dA m e double.leastPlace hp (Int.le_refl _) 4926937992343322624 topD_lt
      (by rw [e0, Nat.pow_zero, Nat.mul_one, hM]; exact Nat.le_trans uD_kA (Nat.le_mul_of_pos_left _ hv0))
      (by rw [e0, Nat.pow_zero, Nat.mul_one, hM, muD_top]; exact Nat.mul_le_mul_right _ ht)
    rw [e0, Nat.pow_zero, Nat.mul_one, hM] at g2
    refine ⟨hr, (fin_iff double dE _).2 (by rw [k2]; exact Nat.lt_of_le_of_lt g1 topD_lt), ?_⟩
    have h3 := near_abs g2
    have e4 : (sd r - sv x * (uD : Int)).natAbs = ((mu double (rungTo double m e) : Int) - ((val x * uD : Nat) : Int)).natAbs := by
      rw [k1, hs, Int.natCast_mul]
      cases s
      · rfl
      · rw [if_pos rfl, if_pos rfl, Int.neg_mul]
        generalize (val x : Int) * (uD : Int) = q
        omega
    rw [e4]
    exact h3
theorem wd_run_s {x : Nat} (hx : isFin single x = true) (ht : val x ≤ uT) (w : World) : (convert 31 37 (.float .f32 x)).run Try.prog w = .ok (.float .f64 (wd x)) w :=
  run_convert_float_float w _ _ .f32 .f64 x _ (by rw [Try.underlying31]; rfl) Try.underlying37 (wd_s hx ht).1
theorem gsub_run_s {a b : Nat} (ha : isFin double a = true) (hb : isFin double b = true) : floatBits .sub .f64 a b = some (gsub double a b) ∧ isNan double (gsub double a b) = false := by
  obtain ⟨r, h, hn⟩ := sub_some (f := double) (by decide) (fin_not_nan ha) hb
  have e : gsub double a b = r := by unfold gsub; rw [h]; rfl
  rw [e]
  exact ⟨h, hn⟩
theorem gadd_run_s {a b : Nat} (ha : isFin double a = true) (hb : isFin double b = true) : floatBits .add .f64 a b = some (gadd double a b) ∧ isNan double (gadd double a b) = false := by
  obtain ⟨r, h, hn⟩ := add_some (f := double) (by decide) (fin_not_nan ha) hb
  have e : gadd double a b = r := by unfold gadd; rw [h]; rfl
  rw [e]
  exact ⟨h, hn⟩
theorem gmul_run_s {a b : Nat} (ha : isFin double a = true) (hb : isFin double b = true) : floatBits .mul .f64 a b = some (gmul double a b) ∧ isNan double (gmul double a b) = false := by
  obtain ⟨r, h, hn⟩ := mul_some (f := double) (by decide) ha hb
  have e : gmul double a b = r := by unfold gmul; rw [h]; rfl
  rw [e]
  exact ⟨h, hn⟩
theorem gvd_key {x : Nat} : gval double x = mu double (key double x).natAbs := by
  unfold gval key
  split <;> simp
theorem gap_s {a b r : Nat} (ha : isFin double a = true) (hb : isFin double b = true) (hT : (sd a - sd b).natAbs ≤ uT * uD) (h : 2 * (sd a - sd b).natAbs ≤ mu double r) : isNan double (gapD a b) = false ∧ key double (gapD a b) ≤ r := by
  have one : ∀ {a b : Nat}, isFin double a = true → isFin double b = true → (sd a - sd b).natAbs ≤ uT * uD → 2 * (sd a - sd b).natAbs ≤ mu double r → (key double (gsub double a b)).natAbs ≤ r := fun {a b} ha hb hT h => by
    obtain ⟨-, s2⟩ := sub_d ha hb hT
    have h1 : gval double (gsub double a b) ≤ mu double r := by
      rw [← sd_abs]
      have hA : kA = 8388608 := rfl
      rw [hA] at s2
      generalize sd (gsub double a b) = p at *
      generalize sd a - sd b = q at *
      omega
    rw [gvd_key] at h1
    exact (mu_le_iff double _ _).1 h1
  unfold gapD
  split
  · refine ⟨(gsub_run_s hb ha).2, ?_⟩
    have := one hb ha (by omega) (by omega)
    omega
  · refine ⟨(gsub_run_s ha hb).2, ?_⟩
    have := one ha hb hT h
    omega
set_option maxRecDepth 100000 in
set_option maxHeartbeats 800000 in
theorem b10Gap_s (a b : Nat) (w : World) (ha : isFin double a = true) (hb : isFin double b = true) : Calls Try.prog 13 #[.float .f64 a, .float .f64 b] w (Quiet (.float .f64 (gapD a b)) w) := by
  have hl : (FloatKind.f64.format.order a b == some .lt) = decide (key double a < key double b) := lt_key (f := double) (by decide) (fin_not_nan ha) (fin_not_nan hb)
  have s1 := (gsub_run_s ha hb).1
  have s2 := (gsub_run_s hb ha).1
  have e1 := fun w => run_float_arith (P := Try.prog) w .sub 37 .f64 _ _ _ s1
  have e2 := fun w => run_float_arith (P := Try.prog) w .sub 37 .f64 _ _ _ s2
  have hg : gapD a b = if key double a < key double b then gsub double b a else gsub double a b := rfl
  by_cases h : key double a < key double b
  · rw [if_pos h] at hg
    rw [decide_eq_true h] at hl
    have HG := Lib.hid hg
    clear hg h ha hb s1 s2
    go_enter Try.func13, Try.ntmps13
    go_wp2
    go_ret
    exact ⟨by rw [HG.out]; rfl, 0, rfl⟩
  · rw [if_neg h] at hg
    rw [decide_eq_false h] at hl
    have HG := Lib.hid hg
    clear hg h ha hb s1 s2
    go_enter Try.func13, Try.ntmps13
    go_wp2
    go_ret
    exact ⟨by rw [HG.out]; rfl, 0, rfl⟩
/-- a product of a step and a number -/
theorem prod_d {c t : Nat} (hc : isFin single c = true) (ht : isFin single t = true) (h1 : val c ≤ uE) (h2 : val t ≤ 24 * uE) :
    isFin double (gmul double (wd c) (wd t)) = true ∧ (sd (gmul double (wd c) (wd t)) * (uE : Int) - sv c * sv t * (uD : Int)).natAbs ≤ 200 * (uE * dV) ∧ gval double (gmul double (wd c) (wd t)) ≤ 25 * oD := by
  have t1 : uE ≤ uT := by decide
  have t2 : 24 * uE ≤ uT := by decide
  obtain ⟨-, a1, a2⟩ := wd_s hc (by omega)
  obtain ⟨-, b1, b2⟩ := wd_s ht (by omega)
  have hA : kA = 8388608 := rfl
  have hK : kA * dV = oD := oD_eq.symm
  have ha : gval double (wd c) ≤ 2 * oD ∧ (sd (wd c) - sv c * (uD : Int)).natAbs ≤ dV := by
    have h3 : val c * uD ≤ oD := Nat.mul_le_mul_right _ h1
    have h4 : (sv c * (uD : Int)).natAbs = val c * uD := by rw [Int.natAbs_mul, sv_abs, Int.natAbs_natCast]
    rw [← sd_abs]
    rw [hA] at a2 hK
    generalize sd (wd c) = p at *
    generalize sv c * (uD : Int) = q at *
    generalize val c * uD = r at *
    constructor <;> omega
  have hb : gval double (wd t) ≤ 48 * oD ∧ (sd (wd t) - sv t * (uD : Int)).natAbs ≤ 24 * dV := by
    have h3 : val t * uD ≤ 24 * uE * uD := Nat.mul_le_mul_right _ h2
    have h5 : 24 * uE * uD = 24 * oD := Nat.mul_assoc _ _ _
    rw [h5] at h3
    have h4 : (sv t * (uD : Int)).natAbs = val t * uD := by rw [Int.natAbs_mul, sv_abs, Int.natAbs_natCast]
    rw [← sd_abs]
    rw [hA] at b2 hK
    generalize sd (wd t) = p at *
    generalize sv t * (uD : Int) = q at *
    generalize val t * uD = r at *
    constructor <;> omega
  -- the product of the two, and of the exact ones
  have hd : (sd (wd c) * sd (wd t) - sv c * (uD : Int) * (sv t * (uD : Int))).natAbs ≤ 73 * (dV * oD) := by
    have e1 : sd (wd c) * sd (wd t) - sv c * (uD : Int) * (sv t * (uD : Int)) = (sd (wd c) - sv c * (uD : Int)) * sd (wd t) + sv c * (uD : Int) * (sd (wd t) - sv t * (uD : Int)) := by
      generalize sd (wd c) = p
      generalize sd (wd t) = q
      generalize sv c * (uD : Int) = r
      generalize sv t * (uD : Int) = s
      grind
    rw [e1]
    have f1 : ((sd (wd c) - sv c * (uD : Int)) * sd (wd t)).natAbs ≤ dV * (48 * oD) := by
      rw [Int.natAbs_mul, sd_abs]
      exact Nat.mul_le_mul ha.2 hb.1
    have f2 : (sv c * (uD : Int) * (sd (wd t) - sv t * (uD : Int))).natAbs ≤ oD * (24 * dV) := by
      rw [Int.natAbs_mul, Int.natAbs_mul, sv_abs, Int.natAbs_natCast]
      exact Nat.mul_le_mul (Nat.mul_le_mul_right _ h1) hb.2
    rw [Nat.mul_left_comm] at f1 f2
    rw [Nat.mul_comm oD] at f2
    generalize dV * oD = v at *
    omega
  have hex : (sv c * (uD : Int) * (sv t * (uD : Int))).natAbs ≤ 24 * (oD * oD) := by
    rw [Int.natAbs_mul, Int.natAbs_mul, Int.natAbs_mul, sv_abs, sv_abs, Int.natAbs_natCast]
    have f1 : val c * uD ≤ oD := Nat.mul_le_mul_right _ h1
    have f2 : val t * uD ≤ 24 * oD := by
      have := Nat.mul_le_mul_right uD h2
      rwa [Nat.mul_assoc] at this
    exact Nat.le_trans (Nat.mul_le_mul f1 f2) (Nat.le_of_eq (Nat.mul_left_comm _ _ _))
  have hKO : kA * (dV * oD) = oD * oD := by rw [← Nat.mul_assoc, hK]
  have hP : (sd (wd c) * sd (wd t)).natAbs ≤ 25 * (oD * oD) := by
    rw [hA] at hKO
    generalize sd (wd c) * sd (wd t) = p at *
    generalize sv c * (uD : Int) * (sv t * (uD : Int)) = q at *
    generalize dV * oD = v at *
    generalize oD * oD = o at *
    omega
  have hT : 25 * (oD * oD) ≤ uT * uD * oD := by
    rw [← Nat.mul_assoc]
    refine Nat.mul_le_mul_right _ (Nat.le_trans (Nat.mul_le_mul_right _ ?_) oD_top)
    decide
  obtain ⟨m1, m2⟩ := mul_d a1 b1 (by omega)
  have hOO : 1000000000 * (kA * oD) ≤ oD * oD := by rw [← Nat.mul_assoc]; exact Nat.mul_le_mul_right _ oD_big
  have hm : (sd (gmul double (wd c) (wd t)) * (oD : Int) - sv c * (uD : Int) * (sv t * (uD : Int))).natAbs ≤ 100 * (dV * oD) := by
    rw [hA] at hKO m2 hOO
    generalize sd (gmul double (wd c) (wd t)) * (oD : Int) = z at *
    generalize sd (wd c) * sd (wd t) = p at *
    generalize sv c * (uD : Int) * (sv t * (uD : Int)) = q at *
    generalize dV * oD = v at *
    generalize oD * oD = o at *
    omega
  refine ⟨m1, ?_, ?_⟩
  · have e1 : sd (gmul double (wd c) (wd t)) * (oD : Int) - sv c * (uD : Int) * (sv t * (uD : Int)) = (sd (gmul double (wd c) (wd t)) * (uE : Int) - sv c * sv t * (uD : Int)) * (uD : Int) := by
      have : (oD : Int) = (uE : Int) * (uD : Int) := Int.natCast_mul _ _
      rw [this]
      generalize sd (gmul double (wd c) (wd t)) = p
      generalize sv c = q
      generalize sv t = r
      generalize (uE : Int) = s
      generalize (uD : Int) = t
      grind
    rw [e1, Int.natAbs_mul, Int.natAbs_natCast] at hm
    refine Nat.le_of_mul_le_mul_right (c := uD) ?_ uD_pos
    have e2 : 200 * (uE * dV) * uD = 200 * (dV * oD) := by
      unfold oD
      generalize uE = u
      generalize dV = v
      generalize uD = w
      grind
    rw [e2]
    generalize dV * oD = v at *
    omega
  · rw [← sd_abs]
    refine Nat.le_of_mul_le_mul_right (c := oD) ?_ oD_pos
    have e2 : (sd (gmul double (wd c) (wd t)) * (oD : Int)).natAbs = (sd (gmul double (wd c) (wd t))).natAbs * oD := by rw [Int.natAbs_mul, Int.natAbs_natCast]
    rw [← e2, Nat.mul_assoc]
    rw [hA] at hKO
    generalize sd (gmul double (wd c) (wd t)) * (oD : Int) = z at *
    generalize sv c * (uD : Int) * (sv t * (uD : Int)) = q at *
    generalize dV * oD = v at *
    generalize oD * oD = o at *
    omega
/-- a sum of products, so far -/
def accD (c t : Nat → Nat) : Nat → Nat
  | 0 => 0
  | k + 1 => gadd double (accD c t k) (gmul double (wd (c k)) (wd (t k)))
theorem sd_nought : isFin double 0 = true ∧ sd 0 = 0 := by decide +kernel
theorem acc_d {c t : Nat → Nat} {n : Nat} (hn : n ≤ 5) (hc : ∀ k, k < n → isFin single (c k) = true ∧ val (c k) ≤ uE) (ht : ∀ k, k < n → isFin single (t k) = true ∧ val (t k) ≤ 24 * uE) :
    ∀ j, j ≤ n → isFin double (accD c t j) = true ∧ (sd (accD c t j) * (uE : Int) - sumZ (fun k => sv (c k) * sv (t k)) j * (uD : Int)).natAbs ≤ j * (400 * (uE * dV)) ∧ gval double (accD c t j) ≤ j * (26 * oD) := by
  intro j
  induction j with
  | zero =>
    intro _
    refine ⟨sd_nought.1, ?_, ?_⟩
    · show (sd 0 * (uE : Int) - 0 * (uD : Int)).natAbs ≤ _
      rw [sd_nought.2, Int.zero_mul, Int.zero_mul, Int.sub_self]
      exact Nat.zero_le _
    · show gval double 0 ≤ _
      rw [← sd_abs, sd_nought.2]
      exact Nat.zero_le _
  | succ j ih =>
    intro hj
    obtain ⟨h1, h2, h3⟩ := ih (by omega)
    obtain ⟨p1, p2, p3⟩ := prod_d (hc j (by omega)).1 (ht j (by omega)).1 (hc j (by omega)).2 (ht j (by omega)).2
    have hj26 : j * (26 * oD) ≤ 4 * (26 * oD) := Nat.mul_le_mul_right _ (by omega)
    have htop := oD_top
    have hq : (sd (accD c t j) + sd (gmul double (wd (c j)) (wd (t j)))).natAbs ≤ gval double (accD c t j) + gval double (gmul double (wd (c j)) (wd (t j))) := by
      rw [← sd_abs, ← sd_abs (gmul double (wd (c j)) (wd (t j)))]
      omega
    obtain ⟨s1, s2⟩ := add_d h1 p1 (by
      have : 129 * oD ≤ 2 ^ 70 * oD := Nat.mul_le_mul_right _ (by decide)
      omega)
    have hA : kA = 8388608 := rfl
    have hK : kA * dV = oD := oD_eq.symm
    have hs : (sd (accD c t (j + 1)) - (sd (accD c t j) + sd (gmul double (wd (c j)) (wd (t j))))).natAbs ≤ 130 * dV := by
      have : sd (accD c t (j + 1)) = sd (gadd double (accD c t j) (gmul double (wd (c j)) (wd (t j)))) := rfl
      rw [this]
      rw [hA] at s2 hK
      generalize sd (gadd double (accD c t j) (gmul double (wd (c j)) (wd (t j)))) = z at *
      generalize sd (accD c t j) + sd (gmul double (wd (c j)) (wd (t j))) = y at *
      omega
    refine ⟨s1, ?_, ?_⟩
    · have e1 : sumZ (fun k => sv (c k) * sv (t k)) (j + 1) * (uD : Int) = sumZ (fun k => sv (c k) * sv (t k)) j * (uD : Int) + sv (c j) * sv (t j) * (uD : Int) := Int.add_mul _ _ _
      have e2 : ((sd (accD c t (j + 1)) - (sd (accD c t j) + sd (gmul double (wd (c j)) (wd (t j))))) * (uE : Int)).natAbs ≤ 130 * dV * uE := by
        rw [Int.natAbs_mul, Int.natAbs_natCast]
        exact Nat.mul_le_mul_right _ hs
      rw [Int.sub_mul, Int.add_mul] at e2
      have e3 : 130 * dV * uE = 130 * (uE * dV) := by rw [Nat.mul_assoc, Nat.mul_comm dV]
      rw [e1, Nat.add_mul, Nat.one_mul]
      rw [e3] at e2
      generalize sumZ (fun k => sv (c k) * sv (t k)) j * (uD : Int) = a at *
      generalize sv (c j) * sv (t j) * (uD : Int) = b at *
      generalize sd (accD c t (j + 1)) * (uE : Int) = z at *
      generalize sd (accD c t j) * (uE : Int) = y at *
      generalize sd (gmul double (wd (c j)) (wd (t j))) * (uE : Int) = x at *
      generalize uE * dV = v at *
      omega
    · rw [← sd_abs, Nat.add_mul, Nat.one_mul]
      rw [hA] at hK
      clear s2 h2 p2 htop
      generalize sd (accD c t (j + 1)) = z at *
      generalize sd (accD c t j) + sd (gmul double (wd (c j)) (wd (t j))) = y at *
      omega
end Go.Proofs.Ytlhepgdheopgaaa

namespace Go.Proofs.Ytlhepgdheopgaaa
open Go Go.RowKit Ieee

set_option exponentiation.threshold 2000
theorem sd_key (x : Nat) : sd x = if key double x < 0 then -(mu double (key double x).natAbs : Int) else mu double (key double x).natAbs := by
  have h := gvd_key (x := x)
  unfold sd
  unfold key at h ⊢
  rcases Nat.eq_zero_or_pos (rungOf double x) with h0 | h0
  · rw [h0] at h ⊢
    have hz : mu double 0 = 0 := mu_zero double
    simp at h ⊢
    rw [h, hz]
    simp
  · by_cases hn : negOf double x = true
    · rw [if_pos hn] at h ⊢
      rw [if_pos hn, if_pos (by omega), h]
    · rw [if_neg hn] at h ⊢
      rw [if_neg hn, if_neg (by omega), h]
theorem sd_le_key {x y : Nat} (h : sd x ≤ sd y) : key double x ≤ key double y := by
  rcases Int.lt_or_le (key double y) (key double x) with hlt | hle
  · exfalso
    rw [sd_key, sd_key] at h
    generalize key double x = a at *
    generalize key double y = b at *
    have hm := fun p q : Nat => mu_le_iff double p q
    by_cases ha : a < 0
    · rw [if_pos ha, if_pos (by omega)] at h
      have := (hm b.natAbs a.natAbs).1 (by omega)
      omega
    · rw [if_neg ha] at h
      by_cases hb : b < 0
      · rw [if_pos hb] at h
        have h1 := (hm a.natAbs 0).1 (by rw [mu_zero]; omega)
        have h2 := (hm b.natAbs 0).1 (by rw [mu_zero]; omega)
        omega
      · rw [if_neg hb] at h
        have := (hm a.natAbs b.natAbs).1 (by omega)
        omega
  · exact hle
/-- 0.005, -0.001, 1.001 -/
def fiveD : Nat := 4572414629676717179
def lowD : Nat := 13785626545772145148
def topD : Nat := 4607186922399644778
theorem lits : (isFin double fiveD = true ∧ key double fiveD = fiveD ∧ 34400 * oD ≤ kA * mu double fiveD ∧ 1000 * mu double fiveD ≤ 6 * oD ∧ sd fiveD = mu double fiveD) ∧
    (isFin double lowD = true ∧ 4100 * (oD : Int) ≤ -((kA : Int) * sd lowD)) ∧ (isFin double topD = true ∧ (kA : Int) * oD + 4100 * oD ≤ (kA : Int) * sd topD) ∧
    (isFin double hundD = true ∧ 34400 * oD ≤ kA * mu double hundD ∧ 99 * (oD : Int) ≤ 10000 * sd hundD ∧ 100 * sd hundD ≤ 101 * (oD : Int)) ∧ (isFin double oneD = true ∧ sd oneD = (oD : Int)) := by decide +kernel
section
variable {n : Nat} {xs : List Nat}
theorem step_sv (h : Chn 32 7 n xs) {i k : Nat} (hi : i < n) (hk : k < n) : isFin single (stepOf xs n i k) = true ∧ val (stepOf xs n i k) ≤ uE ∧ sv (stepOf xs n i k) = (vc xs n i k : Int) := by
  have h1 := nn_rung (h.nn i k hi hk)
  have h3 := (sv_of_key (s := false) (by simpa using h1)).1
  rw [if_neg (by decide)] at h3
  have h4 := (h.bd i k hi hk).2
  rw [Nat.one_mul] at h4
  exact ⟨(h.nn i k hi hk).1, h4, h3⟩
theorem all_sv (h : Chn 32 7 n xs) {i : Nat} (hi : i < n) (T : List Nat) : sumZ (fun k => sv (stepOf xs n i k) * sv (rowOf T k)) n = allS xs n T i :=
  sumZ_congr n fun k hk => by rw [(step_sv h hi hk).2.2]
/-- a sum of products of a row -/
theorem acc_row (h : Chn 32 7 n xs) (h5 : n ≤ 5) {T : List Nat} (hT : ∀ i, i < n → isFin single (rowOf T i) = true ∧ val (rowOf T i) ≤ 24 * uE) {i : Nat} (hi : i < n) :
    (∀ j, j ≤ n → isFin double (accD (stepOf xs n i) (rowOf T) j) = true) ∧ (sd (accD (stepOf xs n i) (rowOf T) n) * (uE : Int) - allS xs n T i * (uD : Int)).natAbs ≤ 2000 * (uE * dV) ∧ gval double (accD (stepOf xs n i) (rowOf T) n) ≤ 130 * oD := by
  have ha := acc_d (c := stepOf xs n i) (t := rowOf T) h5 (fun k hk => ⟨(step_sv h hi hk).1, (step_sv h hi hk).2.1⟩) hT
  obtain ⟨-, a2, a3⟩ := ha n (Nat.le_refl _)
  rw [all_sv h hi T] at a2
  have h1 : n * (400 * (uE * dV)) ≤ 5 * (400 * (uE * dV)) := Nat.mul_le_mul_right _ h5
  have h2 : n * (26 * oD) ≤ 5 * (26 * oD) := Nat.mul_le_mul_right _ h5
  exact ⟨fun j hj => (ha j hj).1, by omega, by omega⟩
theorem wide_s {x : Nat} {q : Nat} (hx : isFin single x = true) (hv : val x ≤ q * uE) (hq : q ≤ 24) : isFin double (wd x) = true ∧ (sd (wd x) - sv x * (uD : Int)).natAbs ≤ q * dV ∧ gval double (wd x) ≤ (q + 1) * oD := by
  have t1 : 24 * uE ≤ uT := by decide
  have t2 : q * uE ≤ 24 * uE := Nat.mul_le_mul_right _ hq
  obtain ⟨-, a1, a2⟩ := wd_s hx (by omega)
  have h3 : val x * uD ≤ q * oD := by
    have := Nat.mul_le_mul_right uD hv
    rwa [Nat.mul_assoc] at this
  have h4 : (sv x * (uD : Int)).natAbs = val x * uD := by rw [Int.natAbs_mul, sv_abs, Int.natAbs_natCast]
  have hA : kA = 8388608 := rfl
  have hK : kA * dV = oD := oD_eq.symm
  have hq2 : q * oD = kA * (q * dV) := by rw [← hK, Nat.mul_left_comm]
  refine ⟨a1, ?_, ?_⟩
  · refine Nat.le_of_mul_le_mul_right (c := kA) ?_ kA_pos
    rw [Nat.mul_comm (q * dV), ← hq2]
    exact Nat.le_trans a2 h3
  · rw [← sd_abs, Nat.add_mul, Nat.one_mul]
    have hqo : q * oD ≤ 24 * oD := Nat.mul_le_mul_right _ hq
    rw [hA] at a2
    generalize sd (wd x) = p at *
    generalize sv x * (uD : Int) = r at *
    generalize val x * uD = t at *
    generalize q * oD = s at *
    omega
theorem acc_calc {U D sT a allS w : Int} {E v : Nat} (h1 : (a * U - allS * D).natAbs ≤ 2000 * v) (h2 : (U * sT - allS - w).natAbs ≤ E) (hE : E * D.toNat ≤ 15000 * v) (hD : 0 ≤ D) : (U * sT * D - a * U - w * D).natAbs ≤ 17000 * v := by
  have e1 : ((U * sT - allS - w) * D).natAbs ≤ E * D.toNat := by
    rw [Int.natAbs_mul]
    have : D.natAbs = D.toNat := by omega
    rw [this]
    exact Nat.mul_le_mul_right _ h2
  have e2 : (U * sT - allS - w) * D = U * sT * D - allS * D - w * D := by grind
  rw [e2] at e1
  generalize U * sT * D = x at *
  generalize allS * D = y at *
  generalize w * D = z at *
  generalize a * U = t at *
  omega
/-- times -/
theorem times_gap (h : Chn 32 7 n xs) (h5 : n ≤ 5) {g : Nat} {T : List Nat} (hT : TimesR xs n g T) {i : Nat} (hi : i < n) (hig : i ≠ g) :
    ∃ s b, floatBits .add .f64 oneD (accD (stepOf xs n i) (rowOf T) n) = some s ∧ floatBits .mul .f64 hundD s = some b ∧ isFin double (wd (rowOf T i)) = true ∧ isFin double s = true ∧
      (FloatKind.f64.format.order (gapD (wd (rowOf T i)) s) b == some .gt) = false := by
  obtain ⟨⟨v1, v2, v3, v4, v5⟩, -, -, ⟨u1, -, u2, u3⟩, o1, o2⟩ := lits
  obtain ⟨a1, a2, a3⟩ := acc_row h h5 hT.fin hi
  have a1 := a1 n (Nat.le_refl _)
  obtain ⟨w1, w2, w3⟩ := wide_s (hT.fin i hi).1 (hT.fin i hi).2 (Nat.le_refl _)
  have heq := hT.eq i hi hig
  have hA : kA = 8388608 := rfl
  have hK : kA * dV = oD := oD_eq.symm
  have htop := oD_top
  have h140 : 140 * oD ≤ 2 ^ 70 * oD := Nat.mul_le_mul_right _ (by decide)
  have hq : (sd oneD + sd (accD (stepOf xs n i) (rowOf T) n)).natAbs ≤ 131 * oD := by
    rw [o2]
    have := sd_abs (accD (stepOf xs n i) (rowOf T) n)
    omega
  obtain ⟨s1, s2⟩ := add_d o1 a1 (by omega)
  have hs := (gadd_run_s o1 a1).1
  generalize gadd double oneD (accD (stepOf xs n i) (rowOf T) n) = s at *
  have hsn : (sd s - (sd oneD + sd (accD (stepOf xs n i) (rowOf T) n))).natAbs ≤ 131 * dV := by
    rw [hA] at s2 hK
    generalize sd s - (sd oneD + sd (accD (stepOf xs n i) (rowOf T) n)) = p at *
    omega
  -- the time and one more than the sum
  have hU := uE_pos
  have hc := acc_calc (U := (uE : Int)) (D := (uD : Int)) (sT := sv (rowOf T i)) (a := sd (accD (stepOf xs n i) (rowOf T) n)) (allS := allS xs n T i) (w := (uE : Int) * uE) (E := 15000 * (uV * uE)) (v := uE * dV) a2 heq (by
    rw [Int.toNat_natCast]
    refine Nat.le_of_eq ?_
    unfold dV
    generalize uE = u
    generalize uV = v
    generalize uD = w
    grind) (by omega)
  have hdiff : (sd (wd (rowOf T i)) - sd s).natAbs ≤ 17200 * dV := by
    refine Nat.le_of_mul_le_mul_left (c := uE) ?_ hU
    have e1 : (uE * (sd (wd (rowOf T i)) - sd s).natAbs) = ((uE : Int) * (sd (wd (rowOf T i)) - sd s)).natAbs := by rw [Int.natAbs_mul, Int.natAbs_natCast]
    have e2 : (uE : Int) * (sd (wd (rowOf T i)) - sd s) = (uE : Int) * (sd (wd (rowOf T i)) - sv (rowOf T i) * (uD : Int)) + ((uE : Int) * sv (rowOf T i) * (uD : Int) - sd (accD (stepOf xs n i) (rowOf T) n) * (uE : Int) - (uE : Int) * uE * (uD : Int)) - (uE : Int) * (sd s - (sd oneD + sd (accD (stepOf xs n i) (rowOf T) n))) := by
      rw [o2]
      have : (oD : Int) = (uE : Int) * (uD : Int) := Int.natCast_mul _ _
      rw [this]
      generalize sd (wd (rowOf T i)) = a
      generalize sd s = b
      generalize sv (rowOf T i) = c
      generalize sd (accD (stepOf xs n i) (rowOf T) n) = d
      generalize (uE : Int) = u
      generalize (uD : Int) = w
      grind
    have f1 : ((uE : Int) * (sd (wd (rowOf T i)) - sv (rowOf T i) * (uD : Int))).natAbs ≤ 24 * (uE * dV) := by
      rw [Int.natAbs_mul, Int.natAbs_natCast, Nat.mul_left_comm]
      exact Nat.mul_le_mul_left _ w2
    have f2 : ((uE : Int) * (sd s - (sd oneD + sd (accD (stepOf xs n i) (rowOf T) n)))).natAbs ≤ 131 * (uE * dV) := by
      rw [Int.natAbs_mul, Int.natAbs_natCast, Nat.mul_left_comm]
      exact Nat.mul_le_mul_left _ hsn
    rw [e1, e2, Nat.mul_left_comm]
    generalize (uE : Int) * (sd (wd (rowOf T i)) - sv (rowOf T i) * (uD : Int)) = x at *
    generalize (uE : Int) * (sd s - (sd oneD + sd (accD (stepOf xs n i) (rowOf T) n))) = y at *
    generalize (uE : Int) * sv (rowOf T i) * (uD : Int) - sd (accD (stepOf xs n i) (rowOf T) n) * (uE : Int) - (uE : Int) * uE * (uD : Int) = z at *
    generalize uE * dV = v at *
    omega
  have hgap := gap_s (r := fiveD) w1 s1 (by
    rw [hA] at hK
    omega) (by
    refine Nat.le_of_mul_le_mul_left (c := kA) ?_ kA_pos
    refine Nat.le_trans ?_ v3
    have h9 := Nat.mul_le_mul_left kA hdiff
    rw [Nat.mul_left_comm kA 17200, hK] at h9
    rw [Nat.mul_left_comm]
    omega)
  -- the sum is not less than 0, nearly
  have hall : 0 ≤ allS xs n T i := by
    have : (0 : Int) = sumZ (fun _ => (0 : Int)) n := (sumZ_zero n fun _ _ => rfl).symm
    rw [this]
    exact sumZ_le n fun k hk => Int.mul_nonneg (Int.natCast_nonneg _) (hT.nn k hk)
  have hlow : -(2000 * (dV : Int)) ≤ sd (accD (stepOf xs n i) (rowOf T) n) := by
    have h1 : 0 ≤ allS xs n T i * (uD : Int) := Int.mul_nonneg hall (by omega)
    have h2 : (uE : Int) * (-(2000 * (dV : Int))) ≤ (uE : Int) * sd (accD (stepOf xs n i) (rowOf T) n) := by
      have e1 : (uE : Int) * (-(2000 * (dV : Int))) = -(2000 * ((uE * dV : Nat) : Int)) := by
        rw [Int.natCast_mul]
        generalize (uE : Int) = u
        generalize (dV : Int) = v
        grind
      rw [e1, Int.mul_comm (uE : Int) (sd _)]
      clear hc
      generalize allS xs n T i * (uD : Int) = y at *
      generalize sd (accD (stepOf xs n i) (rowOf T) n) * (uE : Int) = z at *
      omega
    exact Int.le_of_mul_le_mul_left h2 (by omega)
  have hslow : 999 * (oD : Int) ≤ 1000 * sd s ∧ sd s ≤ 132 * (oD : Int) := by
    have hV := dV_big
    rw [o2] at hsn
    have h9 := sd_abs (accD (stepOf xs n i) (rowOf T) n)
    have hK' : (oD : Int) = 8388608 * (dV : Int) := by rw [← hK, Int.natCast_mul]; rfl
    clear hc hdiff hgap
    generalize sd (accD (stepOf xs n i) (rowOf T) n) = y at *
    generalize sd s = z at *
    generalize gval double (accD (stepOf xs n i) (rowOf T) n) = gg at *
    generalize dV = v at *
    constructor <;> omega
  -- the bound
  have hP1 : 0 ≤ sd hundD := by have : (0 : Int) ≤ (oD : Int) := Int.natCast_nonneg _; omega
  have hP : (sd hundD * sd s).natAbs ≤ 264 * (oD * oD) := by
    rw [Int.natAbs_mul]
    have f1 : (sd hundD).natAbs ≤ 2 * oD := by omega
    have f2 : (sd s).natAbs ≤ 132 * oD := by omega
    have := Nat.mul_le_mul f1 f2
    rwa [Nat.mul_mul_mul_comm] at this
  have hPT : 264 * (oD * oD) ≤ uT * uD * oD := by
    rw [← Nat.mul_assoc]
    refine Nat.mul_le_mul_right _ (Nat.le_trans (Nat.mul_le_mul_right _ ?_) oD_top)
    decide
  obtain ⟨m1, m2⟩ := mul_d u1 s1 (by omega)
  have hb := gmul_run_s u1 s1
  generalize gmul double hundD s = b at *
  refine ⟨s, b, hs, hb.1, w1, s1, gt_no (r := (fiveD : Int)) hgap.1 hb.2 hgap.2 ?_⟩
  have hbig : sd fiveD ≤ sd b := by
    rw [v5]
    have hoo : 0 < (oD : Int) := by have := oD_pos; omega
    refine Int.le_of_mul_le_mul_right (a := (oD : Int)) ?_ hoo
    have f1 : 99 * (oD : Int) * (999 * (oD : Int)) ≤ 10000 * sd hundD * (1000 * sd s) := Int.mul_le_mul u2 hslow.1 (by omega) (by omega)
    have e1 : 99 * (oD : Int) * (999 * (oD : Int)) = 98901 * ((oD * oD : Nat) : Int) := by
      rw [Int.natCast_mul]
      generalize (oD : Int) = o
      grind
    have e2 : 10000 * sd hundD * (1000 * sd s) = 10000000 * (sd hundD * sd s) := by
      generalize sd hundD = p
      generalize sd s = q
      grind
    rw [e1, e2] at f1
    have f2 : (mu double fiveD : Int) * (oD : Int) = ((mu double fiveD * oD : Nat) : Int) := (Int.natCast_mul _ _).symm
    have f3 : 1000 * (mu double fiveD * oD) ≤ 6 * (oD * oD) := by
      have := Nat.mul_le_mul_right oD v4
      rwa [Nat.mul_assoc, Nat.mul_assoc] at this
    have hOO : 1000000000 * (kA * oD) ≤ oD * oD := by rw [← Nat.mul_assoc]; exact Nat.mul_le_mul_right _ oD_big
    rw [f2]
    rw [hA] at m2 hOO
    generalize mu double fiveD * oD = x at *
    generalize sd b * (oD : Int) = y at *
    generalize sd hundD * sd s = z at *
    generalize oD * oD = w at *
    omega
  have := sd_le_key hbig
  rw [v2] at this
  exact this
/-- chances -/
theorem chances_gap (h : Chn 32 7 n xs) (h5 : n ≤ 5) {g o : Nat} {T : List Nat} (hT : ChR xs n g o T) {i : Nat} (hi : i < n) (hig : i ≠ g) (hio : i ≠ o) :
    isFin double (accD (stepOf xs n i) (rowOf T) n) = true ∧ (FloatKind.f64.format.order (gapD (wd (rowOf T i)) (accD (stepOf xs n i) (rowOf T) n)) hundD == some .gt) = false := by
  obtain ⟨-, -, -, ⟨u1, u4, u2, u3⟩, o1, o2⟩ := lits
  obtain ⟨a1, a2, a3⟩ := acc_row h h5 (fun i hi => ⟨(hT.fin i hi).1, Nat.le_trans (hT.fin i hi).2 (Nat.mul_le_mul_right _ (by decide))⟩) hi
  have a1 := a1 n (Nat.le_refl _)
  obtain ⟨w1, w2, w3⟩ := wide_s (hT.fin i hi).1 (hT.fin i hi).2 (by decide)
  have heq := hT.eq i hi hig hio
  have hA : kA = 8388608 := rfl
  have hK : kA * dV = oD := oD_eq.symm
  have htop := oD_top
  have h140 : 140 * oD ≤ 2 ^ 70 * oD := Nat.mul_le_mul_right _ (by decide)
  have hU := uE_pos
  have hc := acc_calc (U := (uE : Int)) (D := (uD : Int)) (sT := sv (rowOf T i)) (a := sd (accD (stepOf xs n i) (rowOf T) n)) (allS := allS xs n T i) (w := 0) (E := 302 * (uV * uE)) (v := uE * dV) a2 (by rw [Int.sub_zero]; exact heq) (by
    rw [Int.toNat_natCast]
    have : 302 * (uV * uE) * uD = 302 * (uE * dV) := by
      unfold dV
      generalize uE = u
      generalize uV = v
      generalize uD = w
      grind
    omega) (by omega)
  have hdiff : (sd (wd (rowOf T i)) - sd (accD (stepOf xs n i) (rowOf T) n)).natAbs ≤ 17200 * dV := by
    refine Nat.le_of_mul_le_mul_left (c := uE) ?_ hU
    have e1 : (uE * (sd (wd (rowOf T i)) - sd (accD (stepOf xs n i) (rowOf T) n)).natAbs) = ((uE : Int) * (sd (wd (rowOf T i)) - sd (accD (stepOf xs n i) (rowOf T) n))).natAbs := by rw [Int.natAbs_mul, Int.natAbs_natCast]
    have e2 : (uE : Int) * (sd (wd (rowOf T i)) - sd (accD (stepOf xs n i) (rowOf T) n)) = (uE : Int) * (sd (wd (rowOf T i)) - sv (rowOf T i) * (uD : Int)) + ((uE : Int) * sv (rowOf T i) * (uD : Int) - sd (accD (stepOf xs n i) (rowOf T) n) * (uE : Int) - 0 * (uD : Int)) := by
      generalize sd (wd (rowOf T i)) = a
      generalize sv (rowOf T i) = c
      generalize sd (accD (stepOf xs n i) (rowOf T) n) = d
      generalize (uE : Int) = u
      generalize (uD : Int) = w
      grind
    have f1 : ((uE : Int) * (sd (wd (rowOf T i)) - sv (rowOf T i) * (uD : Int))).natAbs ≤ 2 * (uE * dV) := by
      rw [Int.natAbs_mul, Int.natAbs_natCast, Nat.mul_left_comm]
      exact Nat.mul_le_mul_left _ w2
    rw [e1, e2, Nat.mul_left_comm]
    generalize (uE : Int) * (sd (wd (rowOf T i)) - sv (rowOf T i) * (uD : Int)) = x at *
    generalize (uE : Int) * sv (rowOf T i) * (uD : Int) - sd (accD (stepOf xs n i) (rowOf T) n) * (uE : Int) - 0 * (uD : Int) = z at *
    generalize uE * dV = v at *
    omega
  have hgap := gap_s (r := hundD) w1 a1 (by
    rw [hA] at hK
    omega) (by
    refine Nat.le_of_mul_le_mul_left (c := kA) ?_ kA_pos
    have h9 := Nat.mul_le_mul_left kA hdiff
    rw [Nat.mul_left_comm kA 17200, hK] at h9
    rw [Nat.mul_left_comm]
    omega)
  exact ⟨a1, gt_no (r := (hundD : Int)) hgap.1 hundD_ok.2.2 hgap.2 (Int.le_of_eq hundD_ok.1.symm)⟩
/-- how great chances are, and both of them -/
theorem chances_rng (h : Chn 32 7 n xs) (ht : Thick n xs) (h5 : n ≤ 5) {g o : Nat} (hg : g < n) (ho : o < n) (hgo : g ≠ o) {T T' : List Nat} (hT : ChR xs n g o T) (hT' : ChR xs n o g T') {i : Nat} (hi : i < n) :
    (isFin double (wd (rowOf T i)) = true ∧ isFin double (wd (rowOf T' i)) = true) ∧ (FloatKind.f64.format.order (wd (rowOf T i)) lowD == some .lt) = false ∧ (FloatKind.f64.format.order (wd (rowOf T i)) topD == some .gt) = false ∧
      ∃ z, floatBits .add .f64 (wd (rowOf T i)) (wd (rowOf T' i)) = some z ∧ isFin double z = true ∧ (FloatKind.f64.format.order (gapD z oneD) hundD == some .gt) = false := by
  obtain ⟨-, ⟨l1, l2⟩, ⟨t1, t2⟩, ⟨u1, u4, u2, u3⟩, o1, o2⟩ := lits
  obtain ⟨w1, w2, w3⟩ := wide_s (hT.fin i hi).1 (hT.fin i hi).2 (by decide)
  obtain ⟨x1, x2, x3⟩ := wide_s (hT'.fin i hi).1 (hT'.fin i hi).2 (by decide)
  obtain ⟨r1, r2⟩ := hT.rng i hi
  have hb := both_r h ht h5 hg ho hgo hT hT' hi
  have hA : kA = 8388608 := rfl
  have hK : kA * dV = oD := oD_eq.symm
  have hK' : (oD : Int) = 8388608 * (dV : Int) := by rw [← hK, Int.natCast_mul]; rfl
  have hKA : (kA : Int) = 8388608 := rfl
  have hVD : (dV : Int) = (uV : Int) * (uD : Int) := Int.natCast_mul _ _
  have hOD : (oD : Int) = (uE : Int) * (uD : Int) := Int.natCast_mul _ _
  have s1 : -(4000 * (dV : Int)) ≤ sv (rowOf T i) * (uD : Int) := by
    have := Int.mul_le_mul_of_nonneg_right r1 (show (0 : Int) ≤ (uD : Int) by omega)
    rwa [Int.neg_mul, Int.mul_assoc, ← hVD] at this
  have s2 : sv (rowOf T i) * (uD : Int) ≤ (oD : Int) + 4000 * (dV : Int) := by
    have := Int.mul_le_mul_of_nonneg_right r2 (show (0 : Int) ≤ (uD : Int) by omega)
    rwa [Int.add_mul, Int.mul_assoc, ← hVD, ← hOD] at this
  have s3 : (sv (rowOf T i) * (uD : Int) + sv (rowOf T' i) * (uD : Int) - (oD : Int)).natAbs ≤ 7500 * dV := by
    have e : sv (rowOf T i) * (uD : Int) + sv (rowOf T' i) * (uD : Int) - (oD : Int) = (sv (rowOf T i) + sv (rowOf T' i) - (uE : Int)) * (uD : Int) := by
      rw [hOD, Int.sub_mul, Int.add_mul]
    rw [e, Int.natAbs_mul, Int.natAbs_natCast]
    have := Nat.mul_le_mul_right uD hb
    rwa [Nat.mul_assoc] at this
  have htop := oD_top
  have h140 : 140 * oD ≤ 2 ^ 70 * oD := Nat.mul_le_mul_right _ (by decide)
  rw [hKA] at l2 t2
  have hV := dV_big
  have kl : key double lowD ≤ key double (wd (rowOf T i)) := by
    refine sd_le_key ?_
    clear hb hVD hOD s3 x2
    generalize sd (wd (rowOf T i)) = p at *
    generalize sv (rowOf T i) * (uD : Int) = q at *
    generalize sd lowD = r at *
    omega
  have kt : key double (wd (rowOf T i)) ≤ key double topD := by
    refine sd_le_key ?_
    clear hb hVD hOD s3 x2
    generalize sd (wd (rowOf T i)) = p at *
    generalize sv (rowOf T i) * (uD : Int) = q at *
    generalize sd topD = r at *
    omega
  have hl : (FloatKind.f64.format.order (wd (rowOf T i)) lowD == some .lt) = decide (key double (wd (rowOf T i)) < key double lowD) := lt_key (f := double) (by decide) (fin_not_nan w1) (fin_not_nan l1)
  have hz := gadd_run_s w1 x1
  have hq : (sd (wd (rowOf T i)) + sd (wd (rowOf T' i))).natAbs ≤ 6 * oD := by
    have a1 := sd_abs (wd (rowOf T i))
    have a2 := sd_abs (wd (rowOf T' i))
    omega
  obtain ⟨z1, z2⟩ := add_d w1 x1 (by omega)
  refine ⟨⟨w1, x1⟩, hl.trans (decide_eq_false (by omega)), gt_no (fin_not_nan w1) (fin_not_nan t1) (Int.le_refl _) kt, _, hz.1, z1, ?_⟩
  have hd : (sd (gadd double (wd (rowOf T i)) (wd (rowOf T' i))) - sd oneD).natAbs ≤ 7520 * dV := by
    rw [o2]
    rw [hA] at z2 hK
    clear hb hVD hOD s1 s2 l2 t2
    generalize sd (gadd double (wd (rowOf T i)) (wd (rowOf T' i))) = p at *
    generalize sd (wd (rowOf T i)) = q at *
    generalize sd (wd (rowOf T' i)) = r at *
    generalize sv (rowOf T i) * (uD : Int) = s at *
    generalize sv (rowOf T' i) * (uD : Int) = t at *
    omega
  have hgap := gap_s (r := hundD) z1 o1 (by
    rw [hA] at hK
    omega) (by
    refine Nat.le_of_mul_le_mul_left (c := kA) ?_ kA_pos
    have h9 := Nat.mul_le_mul_left kA hd
    rw [Nat.mul_left_comm kA 7520, hK] at h9
    rw [Nat.mul_left_comm]
    omega)
  exact gt_no (r := (hundD : Int)) hgap.1 hundD_ok.2.2 hgap.2 (Int.le_of_eq hundD_ok.1.symm)
end
end Go.Proofs.Ytlhepgdheopgaaa
