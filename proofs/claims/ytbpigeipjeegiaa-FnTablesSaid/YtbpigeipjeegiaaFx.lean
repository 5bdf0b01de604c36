/-
  Tails of tables of 2 rows and 2 columns, plain: one table for each first count.
-/
import Derived.Test.YtbpigeipjeegiaaFv
import Derived.Test.YtbpigeipjeegiaaTbt
namespace Go.Proofs.Ytbpigeipjeegiaa
open Go Go.RowKit

/-- one step after another -/
def foldN {τ : Type} (f : Nat → τ → τ) : Nat → τ → τ
  | 0, y => y
  | k + 1, y => f k (foldN f k y)
theorem foldN_range {τ : Type} (f : Nat → τ → τ) (k : Nat) (y : τ) : (List.range k).foldl (fun y n => f n y) y = foldN f k y := by
  induction k with
  | zero => rfl
  | succ k ih =>
    rw [List.range_succ, List.foldl_append, ih]
    rfl
theorem foldN_congr {τ : Type} {f g : Nat → τ → τ} : ∀ (k : Nat) (y : τ), (∀ i, i < k → ∀ y, f i y = g i y) → foldN f k y = foldN g k y
  | 0, _, _ => rfl
  | k + 1, y, h => by
    show f k _ = g k _
    rw [h k (by omega), foldN_congr k y fun i hi => h i (by omega)]
theorem foldN_id {τ : Type} {f : Nat → τ → τ} : ∀ (k : Nat) (y : τ), (∀ i, i < k → ∀ y, f i y = y) → foldN f k y = y
  | 0, _, _ => rfl
  | k + 1, y, h => by
    show f k _ = y
    rw [h k (by omega), foldN_id k y fun i hi => h i (by omega)]
theorem foldN_add {τ : Type} (f : Nat → τ → τ) (l : Nat) : ∀ (k : Nat) (y : τ), foldN f (l + k) y = foldN (fun i => f (l + i)) k (foldN f l y)
  | 0, _ => rfl
  | k + 1, y => by
    show f (l + k) (foldN f (l + k) y) = f (l + k) _
    rw [foldN_add f l k y]
theorem goRows_flat {τ α : Type} (nx : τ → List Nat → τ) (cnt : List Nat) (l : List α) (f : α → List (List Nat)) (y : τ) : goRows nx cnt (l.flatMap f) y = l.foldl (fun y a => goRows nx cnt (f a) y) y := by
  unfold goRows
  induction l generalizing y with
  | nil => rfl
  | cons a l ih => rw [List.flatMap_cons, List.foldl_append, List.foldl_cons, ih]
theorem goRows_map {τ : Type} (nx : τ → List Nat → τ) (cnt row : List Nat) (rs : List (List Nat)) (y : τ) : goRows nx cnt (rs.map (row ++ ·)) y = goRows nx (cnt ++ row) rs y := by
  unfold goRows
  rw [List.foldl_map]
  simp
theorem goRows_cons {τ : Type} (nx : τ → List Nat → τ) (cnt : List Nat) (l : Nat) (ls : List Nat) (s : Nat) (y : τ) : goRows nx cnt (rowsOf (l :: ls) s) y = foldN (fun n y => goRows nx (cnt ++ [n]) (rowsOf ls (s - n)) y) (min s l + 1) y := by
  show goRows nx cnt (List.flatMap _ _) y = _
  rw [goRows_flat, ← foldN_range]
  congr 1
  funext y n
  exact goRows_map nx cnt [n] _ y
theorem goRows_nil {τ : Type} (nx : τ → List Nat → τ) (cnt : List Nat) (s : Nat) (y : τ) : goRows nx cnt (rowsOf [] s) y = if s = 0 then nx y cnt else y := by
  unfold rowsOf
  split
  · unfold goRows
    simp
  · rfl
theorem goRows_one {τ : Type} (nx : τ → List Nat → τ) (cnt : List Nat) (l s : Nat) (y : τ) : goRows nx cnt (rowsOf [l] s) y = if s ≤ l then nx y (cnt ++ [s]) else y := by
  rw [goRows_cons]
  show goRows nx (cnt ++ [min s l]) (rowsOf [] (s - min s l)) (foldN _ (min s l) y) = _
  rw [foldN_id (min s l) y (fun i hi y => by rw [goRows_nil, if_neg (by omega)]), goRows_nil]
  by_cases h : s ≤ l
  · rw [if_pos (by omega), if_pos h, show min s l = s by omega]
  · rw [if_neg (by omega), if_neg h]
theorem goRows_two {τ : Type} (nx : τ → List Nat → τ) (cnt : List Nat) (c0 c1 s : Nat) (y : τ) : goRows nx cnt (rowsOf [c0, c1] s) y = foldN (fun n y => if s - n ≤ c1 then nx y (cnt ++ [n, s - n]) else y) (min s c0 + 1) y := by
  rw [goRows_cons]
  refine foldN_congr _ _ fun i hi y => ?_
  rw [goRows_one]
  simp
theorem goTabs_end {τ : Type} (nx : τ → List Nat → τ) (cnt lim : List Nat) (y : τ) : goRows nx cnt (tabs [] lim) y = if lim.sum = 0 then nx y cnt else y := by
  unfold tabs
  split
  · unfold goRows
    simp
  · rfl
/-- the last row of a table is what is left -/
theorem goTabs_last {τ : Type} (nx : τ → List Nat → τ) (cnt : List Nat) (u v : Nat) (y : τ) : goRows nx cnt (tabs [u + v] [u, v]) y = nx y (cnt ++ [u, v]) := by
  rw [goTabs, goRows_two]
  rw [show min (u + v) u + 1 = u + 1 by omega]
  show (fun n y => if u + v - n ≤ v then _ else y) u (foldN _ u y) = _
  rw [foldN_id u y (fun i hi y => by rw [if_neg (by omega)])]
  dsimp only
  rw [if_pos (by omega), List.nil_append, goTabs_end, if_pos (by simp [subL, List.range_succ])]
  rw [show u + v - u = v by omega]
/-- all tables of 2 rows and 2 columns -/
theorem goTabs_two {τ : Type} (nx : τ → List Nat → τ) (r0 r1 c0 c1 : Nat) (h : r0 + r1 = c0 + c1) (y : τ) : goRows nx [] (tabs [r0, r1] [c0, c1]) y = foldN (fun i y => nx y [r0 - c1 + i, r0 - (r0 - c1 + i), c0 - (r0 - c1 + i), c1 - (r0 - (r0 - c1 + i))]) (min r0 c0 + 1 - (r0 - c1)) y := by
  rw [goTabs, goRows_two]
  rw [show min r0 c0 + 1 = (r0 - c1) + (min r0 c0 + 1 - (r0 - c1)) by omega, foldN_add, foldN_id (r0 - c1) y (fun i hi y => by rw [if_neg (by omega)])]
  rw [show r0 - c1 + (min r0 c0 + 1 - (r0 - c1)) - (r0 - c1) = min r0 c0 + 1 - (r0 - c1) by omega]
  refine foldN_congr _ _ fun i hi y => ?_
  rw [if_pos (by omega), List.nil_append, List.nil_append]
  have e : subL [c0, c1] [r0 - c1 + i, r0 - (r0 - c1 + i)] = [c0 - (r0 - c1 + i), c1 - (r0 - (r0 - c1 + i))] := by simp [subL, List.range_succ]
  rw [e, show r1 = (c0 - (r0 - c1 + i)) + (c1 - (r0 - (r0 - c1 + i))) by omega, goTabs_last]
  rfl
theorem pas_symm : ∀ (n k : Nat), k ≤ n → pas n k = pas n (n - k)
  | 0, k, h => by obtain rfl : k = 0 := by omega
                  rfl
  | n + 1, 0, _ => by rw [pas_zero, Nat.sub_zero, pas_self]
  | n + 1, k + 1, h => by
    by_cases hk : k + 1 = n + 1
    · rw [hk, pas_self, Nat.sub_self, pas_zero]
    · obtain ⟨m, hm⟩ : ∃ m, n - k = m + 1 := ⟨n - k - 1, by omega⟩
      rw [pas_succ, show n + 1 - (k + 1) = m + 1 by omega, pas_succ, pas_symm n k (by omega), pas_symm n (k + 1) (by omega), hm, show n - (k + 1) = m by omega, Nat.add_comm]
/-- the weight of a table of 2 rows and 2 columns, by its first count -/
def wt2 (c0 c1 r0 x : Nat) : Nat := pas c0 x * pas c1 (r0 - x)
theorem wt2_small {c0 c1 r0 x : Nat} (h : c0 + c1 ≤ 60) : wt2 c0 c1 r0 x ≤ 1152921504606846976 := by
  unfold wt2
  have h1 := pas_le c0 x
  have h2 := pas_le c1 (r0 - x)
  have h3 : pas c0 x * pas c1 (r0 - x) ≤ 2 ^ c0 * 2 ^ c1 := Nat.mul_le_mul h1 h2
  rw [← Nat.pow_add] at h3
  exact Nat.le_trans h3 (Nat.le_trans (Nat.pow_le_pow_right (by omega) h) (by decide))
theorem wOf_two {x y z u : Nat} (h : x + y + z + u ≤ 60) : wOf 2 [x, y, z, u] = ((pas (x + z) z * pas (y + u) u : Nat) : Int) := by
  have e0 : colsTo [x, y, z, u] 2 1 0 = x := by simp [colsTo]
  have e1 : colsTo [x, y, z, u] 2 2 1 = y := by simp [colsTo]
  have e2 : colsTo [x, y, z, u] 2 3 0 = x + z := by simp [colsTo]
  have e3 : colsTo [x, y, z, u] 2 4 1 = y + u := by simp [colsTo]
  have h1 := pas_le (x + z) z
  have h2 := pas_le (y + u) u
  have h3 : pas (x + z) z * pas (y + u) u ≤ 2 ^ (x + z) * 2 ^ (y + u) := Nat.mul_le_mul h1 h2
  rw [← Nat.pow_add] at h3
  have h4 : pas (x + z) z * pas (y + u) u ≤ 1152921504606846976 := Nat.le_trans h3 (Nat.le_trans (Nat.pow_le_pow_right (by omega) (show x + z + (y + u) ≤ 60 by omega)) (by decide))
  have h5 : pas (x + z) z ≤ 1152921504606846976 := pas_small (by omega) z
  show wTo [x, y, z, u] 2 4 = _
  have s1 : wTo [x, y, z, u] 2 1 = 1 := by
    show IntKind.i64.wrap (1 * (pas (colsTo [x, y, z, u] 2 1 0) x : Nat)) = 1
    rw [e0, pas_self]
    rfl
  have s2 : wTo [x, y, z, u] 2 2 = 1 := by
    show IntKind.i64.wrap (wTo [x, y, z, u] 2 1 * (pas (colsTo [x, y, z, u] 2 2 1) y : Nat)) = 1
    rw [s1, e1, pas_self]
    rfl
  have s3 : wTo [x, y, z, u] 2 3 = (pas (x + z) z : Nat) := by
    show IntKind.i64.wrap (wTo [x, y, z, u] 2 2 * (pas (colsTo [x, y, z, u] 2 3 0) z : Nat)) = _
    rw [s2, e2, Int.one_mul]
    exact IntWalk.i64_in _ (by omega)
  show IntKind.i64.wrap (wTo [x, y, z, u] 2 3 * (pas (colsTo [x, y, z, u] 2 4 1) u : Nat)) = _
  rw [s3, e3, ← Int.natCast_mul]
  exact IntWalk.i64_in _ (by omega)
/-- the two sums of a tail, by first counts: the tests and the weights -/
def tl2 (inI : Nat → Bool) (wI : Nat → Int) : Nat → Int × Int := fun k => foldN (fun i y => (if inI i then IntKind.i64.wrap (y.1 + wI i) else y.1, IntKind.i64.wrap (y.2 + wI i))) k (0, 0)
/-- how many first counts there are, the least of them -/
def lowT (a b d : Nat) : Nat := (a + b) - (b + d)
def manyT (a b c d : Nat) : Nat := min (a + b) (a + c) + 1 - lowT a b d
def wI2 (a b c d i : Nat) : Int := ((wt2 (a + c) (b + d) (a + b) (lowT a b d + i) : Nat) : Int)
theorem tails_two {a b c d : Nat} (h : a + b + c + d ≤ 60) (inB : List Nat → Bool) (inI : Nat → Bool) (hin : ∀ i, i < manyT a b c d → inB [lowT a b d + i, a + b - (lowT a b d + i), a + c - (lowT a b d + i), b + d - (a + b - (lowT a b d + i))] = inI i) :
    tails 2 2 inB [a, b, c, d] = tl2 inI (wI2 a b c d) (manyT a b c d) := by
  have er : rowsS [a, b, c, d] 2 2 = [a + b, c + d] := by simp [rowsS, chN, List.range_succ]
  have ec : colsS [a, b, c, d] 2 = [a + c, b + d] := by simp [colsS, colsTo, List.range_succ]
  unfold tails tl2
  rw [er, ec, goTabs_two _ _ _ _ _ (by omega)]
  refine foldN_congr _ _ fun i hi y => ?_
  have hi' : i < manyT a b c d := hi
  have e1 : a + b - (b + d) = lowT a b d := rfl
  rw [e1]
  have hm : lowT a b d + i ≤ a + b ∧ lowT a b d + i ≤ a + c ∧ a + b - (lowT a b d + i) ≤ b + d := by
    unfold manyT lowT at *
    omega
  unfold tlN
  rw [hin i hi']
  have hw : wOf 2 [lowT a b d + i, a + b - (lowT a b d + i), a + c - (lowT a b d + i), b + d - (a + b - (lowT a b d + i))] = wI2 a b c d i := by
    rw [wOf_two (by omega)]
    unfold wI2 wt2
    generalize lowT a b d + i = x at *
    rw [show x + (a + c - x) = a + c by omega, show a + b - x + (b + d - (a + b - x)) = b + d by omega, ← pas_symm (a + c) x (by omega), ← pas_symm (b + d) (a + b - x) (by omega)]
  rw [hw]
end Go.Proofs.Ytbpigeipjeegiaa

