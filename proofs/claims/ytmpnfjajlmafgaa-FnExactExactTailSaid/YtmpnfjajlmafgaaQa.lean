/-
  The spec's sums over tables by columns are a fold over the transposed tables (plain).
-/
import Derived.Test.YtmpnfjajlmafgaaPz
import Derived.Test.YtmpnfjajlmafgaaGe
namespace Go.Proofs.Ytmpnfjajlmafgaa
open Go Go.RowKit

/-- both sums are numbers of 64 bits -/
def Wr (y : Int × Int) : Prop := IntKind.i64.wrap y.1 = y.1 ∧ IntKind.i64.wrap y.2 = y.2
theorem wrapB (a b : Int) : IntKind.i64.wrap (a + IntKind.i64.wrap b) = IntKind.i64.wrap (a + b) := by rw [Int.add_comm, wrapA, Int.add_comm]
theorem addP_wr (a b : Int × Int) : Wr (addP a b) := ⟨wrapI _, wrapI _⟩
theorem addP_zero {y : Int × Int} (h : Wr y) : addP y (0, 0) = y := by
  obtain ⟨h1, h2⟩ := h
  unfold addP
  simp [h1, h2]
theorem addP_assoc (a b c : Int × Int) : addP (addP a b) c = addP a (addP b c) := by
  unfold addP
  simp only [wrapA, wrapB, Int.add_assoc]
theorem fold_add {α : Type} (g : α → Int × Int) : ∀ (L : List α) (y : Int × Int), Wr y → L.foldl (fun y m => addP y (g m)) y = addP y (L.foldl (fun y m => addP y (g m)) (0, 0))
  | [], y, h => (addP_zero h).symm
  | x :: L, y, h => by
    rw [List.foldl_cons, List.foldl_cons, fold_add g L _ (addP_wr _ _), fold_add g L (addP (0, 0) (g x)) (addP_wr _ _), addP_assoc, addP_assoc]
    congr 1
    unfold addP
    simp only [Int.zero_add, wrapI]
/-- the weight of columns begun at a number -/
def cwt (R : Nat) : Nat → List Nat → Int → Int
  | 0, _, wt => wt
  | n + 1, m, wt => cwt R n (m.drop R) (IntKind.i64.wrap (wt * wyTo (m.take R) R))
def pt (own z : Int) : Int × Int := (if z ≤ own then z else 0, z)
theorem pt_wr {own z : Int} (h : IntKind.i64.wrap z = z) : addP (0, 0) (pt own z) = pt own z := by
  unfold addP pt
  by_cases h1 : z ≤ own
  · simp [h1, h]
  · simp [h1, h]
    decide
theorem foldN_inv {τ : Type} {P : τ → Prop} {f g : Nat → τ → τ} : ∀ (k : Nat) (y : τ), P y → (∀ i y, P y → f i y = g i y ∧ P (g i y)) → foldN f k y = foldN g k y ∧ P (foldN g k y)
  | 0, _, hy, _ => ⟨rfl, hy⟩
  | k + 1, y, hy, h => by
    obtain ⟨e, hp⟩ := foldN_inv k y hy h
    show f k (foldN f k y) = g k (foldN g k y) ∧ P (g k (foldN g k y))
    rw [e]
    exact h k _ hp
theorem wlk3_fold (own : Int) : ∀ (cs : List Nat) (r0 r1 r2 : Nat) (wt : Int), IntKind.i64.wrap wt = wt → wlk3 own cs r0 r1 r2 wt = (tabs cs [r0, r1, r2]).foldl (fun y m => addP y (pt own (cwt 3 cs.length m wt))) (0, 0)
  | [], r0, r1, r2, wt, h => by
    unfold wlk3 tabs
    by_cases hz : r0 = 0 ∧ r1 = 0 ∧ r2 = 0
    · have hz2 : [r0, r1, r2].sum = 0 := by
        simp
        omega
      rw [if_pos hz, if_pos hz2]
      exact (pt_wr h).symm
    · have hz2 : ¬ [r0, r1, r2].sum = 0 := by
        simp
        omega
      rw [if_neg hz, if_neg hz2]
      rfl
  | c :: cs, r0, r1, r2, wt, h => by
    have e : (tabs (c :: cs) [r0, r1, r2]).foldl (fun y m => addP y (pt own (cwt 3 (c :: cs).length m wt))) (0, 0) = goRows (fun y row => (tabs cs (subL [r0, r1, r2] row)).foldl (fun y m => addP y (pt own (cwt 3 (cs.length + 1) (row ++ m) wt))) y) [] (rowsOf [r0, r1, r2] c) (0, 0) := by
      rw [show tabs (c :: cs) [r0, r1, r2] = (rowsOf [r0, r1, r2] c).flatMap fun row => (tabs cs (subL [r0, r1, r2] row)).map (row ++ ·) from rfl]
      unfold goRows
      rw [List.foldl_flatMap]
      simp only [List.foldl_map, List.nil_append, List.length_cons]
    rw [e, goRows_cons]
    have hin : ∀ (acc : Int × Int), Wr acc → ∀ x y, (tabs cs (subL [r0, r1, r2] [x, y, c - x - y])).foldl (fun a m => addP a (pt own (cwt 3 (cs.length + 1) ([x, y, c - x - y] ++ m) wt))) acc = addP acc (wlk3 own cs (r0 - x) (r1 - y) (r2 - (c - x - y)) (IntKind.i64.wrap (wt * wyTo [x, y, c - x - y] 3))) := fun acc ha x y => by
      rw [fold_add (fun m => pt own (cwt 3 (cs.length + 1) ([x, y, c - x - y] ++ m) wt)) _ acc ha, wlk3_fold own cs _ _ _ _ (wrapI _), sub3]
      rfl
    show foldN _ (min r0 c + 1) (0, 0) = foldN _ (min c r0 + 1) (0, 0)
    rw [Nat.min_comm c r0]
    refine (foldN_inv (P := Wr) (min r0 c + 1) (0, 0) ⟨by decide, by decide⟩ fun x acc ha => ?_).1.symm.symm
    rw [goRows_two]
    rw [Nat.min_comm (c - x) r1]
    have := foldN_inv (P := Wr) (f := fun y acc => if c - x - y ≤ r2 then addP acc (wlk3 own cs (r0 - x) (r1 - y) (r2 - (c - x - y)) (IntKind.i64.wrap (wt * wyTo [x, y, c - x - y] 3))) else acc) (g := fun y acc => if c - x - y ≤ r2 then (tabs cs (subL [r0, r1, r2] ([] ++ [x] ++ [y, c - x - y]))).foldl (fun a m => addP a (pt own (cwt 3 (cs.length + 1) ([] ++ [x] ++ [y, c - x - y] ++ m) wt))) acc else acc) (min r1 (c - x) + 1) acc ha fun y acc ha => by
      by_cases hz : c - x - y ≤ r2
      · rw [if_pos hz, if_pos hz]
        have e2 := hin acc ha x y
        exact ⟨e2.symm, by
          show Wr ((tabs cs (subL [r0, r1, r2] [x, y, c - x - y])).foldl (fun a m => addP a (pt own (cwt 3 (cs.length + 1) ([x, y, c - x - y] ++ m) wt))) acc)
          rw [e2]
          exact addP_wr _ _⟩
      · rw [if_neg hz, if_neg hz]
        exact ⟨rfl, ha⟩
    exact this
theorem wlk2_fold (own : Int) : ∀ (cs : List Nat) (r0 r1 : Nat) (wt : Int), IntKind.i64.wrap wt = wt → wlk2 own cs r0 r1 wt = (tabs cs [r0, r1]).foldl (fun y m => addP y (pt own (cwt 2 cs.length m wt))) (0, 0)
  | [], r0, r1, wt, h => by
    unfold wlk2 tabs
    by_cases hz : r0 = 0 ∧ r1 = 0
    · have hz2 : [r0, r1].sum = 0 := by
        simp
        omega
      rw [if_pos hz, if_pos hz2]
      exact (pt_wr h).symm
    · have hz2 : ¬ [r0, r1].sum = 0 := by
        simp
        omega
      rw [if_neg hz, if_neg hz2]
      rfl
  | c :: cs, r0, r1, wt, h => by
    have e : (tabs (c :: cs) [r0, r1]).foldl (fun y m => addP y (pt own (cwt 2 (c :: cs).length m wt))) (0, 0) = goRows (fun y row => (tabs cs (subL [r0, r1] row)).foldl (fun y m => addP y (pt own (cwt 2 (cs.length + 1) (row ++ m) wt))) y) [] (rowsOf [r0, r1] c) (0, 0) := by
      rw [show tabs (c :: cs) [r0, r1] = (rowsOf [r0, r1] c).flatMap fun row => (tabs cs (subL [r0, r1] row)).map (row ++ ·) from rfl]
      unfold goRows
      rw [List.foldl_flatMap]
      simp only [List.foldl_map, List.nil_append, List.length_cons]
    rw [e, goRows_cons]
    have hin : ∀ (acc : Int × Int), Wr acc → ∀ x, (tabs cs (subL [r0, r1] [x, c - x])).foldl (fun a m => addP a (pt own (cwt 2 (cs.length + 1) ([x, c - x] ++ m) wt))) acc = addP acc (wlk2 own cs (r0 - x) (r1 - (c - x)) (IntKind.i64.wrap (wt * wyTo [x, c - x] 2))) := fun acc ha x => by
      rw [fold_add (fun m => pt own (cwt 2 (cs.length + 1) ([x, c - x] ++ m) wt)) _ acc ha, wlk2_fold own cs _ _ _ (wrapI _), sub2]
      rfl
    show foldN _ (min r0 c + 1) (0, 0) = foldN _ (min c r0 + 1) (0, 0)
    rw [Nat.min_comm c r0]
    refine (foldN_inv (P := Wr) (min r0 c + 1) (0, 0) ⟨by decide, by decide⟩ fun x acc ha => ?_).1
    rw [goRows_one]
    show (fun y acc => if c - x - y = 0 then addP acc (wlk2 own cs (r0 - x) (r1 - y) (IntKind.i64.wrap (wt * wyTo [x, y] 2))) else acc) (min r1 (c - x)) (foldN (fun y acc => if c - x - y = 0 then addP acc (wlk2 own cs (r0 - x) (r1 - y) (IntKind.i64.wrap (wt * wyTo [x, y] 2))) else acc) (min r1 (c - x)) acc) = _ ∧ _
    rw [foldN_id (min r1 (c - x)) acc (fun i hi y => by rw [if_neg (by omega)])]
    dsimp only
    by_cases hz : c - x ≤ r1
    · have e2 := hin acc ha x
      rw [show min r1 (c - x) = c - x by omega, if_pos (by omega), if_pos hz]
      exact ⟨e2.symm, by
        show Wr ((tabs cs (subL [r0, r1] [x, c - x])).foldl (fun a m => addP a (pt own (cwt 2 (cs.length + 1) ([x, c - x] ++ m) wt))) acc)
        rw [e2]
        exact addP_wr _ _⟩
    · rw [if_neg (by omega), if_neg hz]
      exact ⟨rfl, ha⟩

theorem tlN_pt {C : Nat} {own : Int} {y : Int × Int} {m : List Nat} (h : Wr y) : tlN C (wIn C own) y m = addP y (pt own (wOf C m)) := by
  unfold tlN wIn addP pt
  by_cases h1 : wOf C m ≤ own
  · simp [h1]
  · simp [h1, h.1]
theorem foldl_wr {α : Type} {f g : Int × Int → α → Int × Int} : ∀ (L : List α) (y : Int × Int), Wr y → (∀ y m, m ∈ L → Wr y → f y m = g y m ∧ Wr (g y m)) → L.foldl f y = L.foldl g y
  | [], _, _, _ => rfl
  | x :: L, y, hy, h => by
    obtain ⟨e, hw⟩ := h y x (List.mem_cons_self ..) hy
    rw [List.foldl_cons, List.foldl_cons, e]
    exact foldl_wr L _ hw fun y m hm => h y m (List.mem_cons_of_mem _ hm)
theorem tails_cols {R C n : Nat} {own : Int} {xs rs cs : List Nat} {T : List Nat → List Nat} (hr : rowsS xs R C = rs) (hc : colsS xs C = cs) (hp : (tabs rs cs).Perm ((tabs cs rs).map T)) (hl : ∀ m, m ∈ tabs cs rs → m.length = n) (hw : ∀ m, m.length = n → wOf C (T m) = cwt R cs.length m 1) :
    tails R C (wIn C own) xs = (tabs cs rs).foldl (fun y m => addP y (pt own (cwt R cs.length m 1))) (0, 0) := by
  subst hr hc
  rw [tails_perm hp, List.foldl_map]
  refine foldl_wr _ _ ⟨by decide, by decide⟩ fun y m hm hy => ?_
  rw [tlN_pt hy, hw m (hl m hm)]
  exact ⟨rfl, addP_wr _ _⟩
theorem cw22 (m : List Nat) (h : m.length = 4) : wOf 2 (tr22 m) = cwt 2 2 m 1 := by
  match m, h with
  | [a, b, c, d], _ =>
    show wOf 2 [a, c, b, d] = _
    rw [← lw22]
    rfl
theorem cw23 (m : List Nat) (h : m.length = 6) : wOf 3 (tr23 m) = cwt 2 3 m 1 := by
  match m, h with
  | [a, b, c, d, e, f], _ =>
    show wOf 3 [a, c, e, b, d, f] = _
    rw [← lw23]
    rfl
theorem cw32 (m : List Nat) (h : m.length = 6) : wOf 2 (tr32 m) = cwt 3 2 m 1 := by
  match m, h with
  | [a, b, c, d, e, f], _ =>
    show wOf 2 [a, d, b, e, c, f] = _
    rw [← lw32]
    rfl
theorem cw33 (m : List Nat) (h : m.length = 9) : wOf 3 (tr33 m) = cwt 3 3 m 1 := by
  match m, h with
  | [a, b, c, d, e, f, g, h, i], _ =>
    show wOf 3 [a, d, g, b, e, h, c, f, i] = _
    rw [← lw33]
    rfl
theorem ex22 (own : Int) (a b c d : Nat) : tails 2 2 (wIn 2 own) [a, b, c, d] = wlk2 own [a + c, b + d] (a + b) (c + d) 1 := by
  rw [wlk2_fold own _ _ _ 1 (by decide)]
  exact tails_cols (n := 4) (by simp [rowsS, chN, List.range_succ]) (by simp [colsS, colsTo, List.range_succ]) (perm22 _ _ _ _) (fun m hm => tabGood_len (good_of_mem hm)) (fun m h => cw22 m h)
theorem ex23 (own : Int) (a b c d e f : Nat) : tails 2 3 (wIn 3 own) [a, b, c, d, e, f] = wlk2 own [a + d, b + e, c + f] (a + (b + c)) (d + (e + f)) 1 := by
  rw [wlk2_fold own _ _ _ 1 (by decide)]
  exact tails_cols (n := 6) (by simp [rowsS, chN, List.range_succ]) (by simp [colsS, colsTo, List.range_succ]) (perm23 _ _ _ _ _) (fun m hm => tabGood_len (good_of_mem hm)) (fun m h => cw23 m h)
theorem ex32 (own : Int) (a b c d e f : Nat) : tails 3 2 (wIn 2 own) [a, b, c, d, e, f] = wlk3 own [a + c + e, b + d + f] (a + b) (c + d) (e + f) 1 := by
  rw [wlk3_fold own _ _ _ _ 1 (by decide)]
  exact tails_cols (n := 6) (by simp [rowsS, chN, List.range_succ]) (by simp [colsS, colsTo, List.range_succ]) (perm32 _ _ _ _ _) (fun m hm => tabGood_len (good_of_mem hm)) (fun m h => cw32 m h)
theorem ex33 (own : Int) (a b c d e f g h i : Nat) : tails 3 3 (wIn 3 own) [a, b, c, d, e, f, g, h, i] = wlk3 own [a + d + g, b + e + h, c + f + i] (a + (b + c)) (d + (e + f)) (g + (h + i)) 1 := by
  rw [wlk3_fold own _ _ _ _ 1 (by decide)]
  exact tails_cols (n := 9) (by simp [rowsS, chN, List.range_succ]) (by simp [colsS, colsTo, List.range_succ]) (perm33 _ _ _ _ _ _) (fun m hm => tabGood_len (good_of_mem hm)) (fun m h => cw33 m h)
end Go.Proofs.Ytmpnfjajlmafgaa
