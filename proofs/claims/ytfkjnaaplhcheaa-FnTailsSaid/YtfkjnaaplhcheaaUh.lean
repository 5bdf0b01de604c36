/-
  Plain: the sums of all choices of so many of some numbers; they do not depend on the order; choices and what they leave.
  Maps of counts by sums that may be negative, filled in whatever order (plain).
  impl.waysTo of numbers that may be negative: a row of maps, filled in whatever order.
  countWhere, with the tests of RankTail, SumTail and SignedTail.
  impl.RanksOf, RankTail and SumTail of samples, their tails as counts of choices.
  impl.SignTail.
  slices.DeleteFunc of zeros; a map of counts that is filled out of another one, two entries at each step (plain).
  impl.SignedTail.
-/
import Derived.Test.YtfkjnaaplhcheaaCo
import Derived.Test.YtfkjnaaplhcheaaRs
import Derived.Maps.Own
import Derived.Maps.OwnOps
import Derived.Maps.RangeWalk
import Derived.Maps.Views
import Derived.Test.YtfkjnaaplhcheaaDt1
import Derived.Test.YtfkjnaaplhcheaaDl0
import Derived.Shelf.SlicesE.DeleteFunc
import Derived.Sort.OwnSortedInts
import Derived.Test.YtfkjnaaplhcheaaCl
import Derived.Deep.RegionHeld3
namespace Go.Proofs.Ytfkjnaaplhcheaa

/-- the sums of all choices of k numbers of a list, by their places -/
def subs : List Int → Nat → List Int
  | [], 0 => [0]
  | [], _ + 1 => []
  | _ :: l, 0 => subs l 0
  | r :: l, k + 1 => subs l (k + 1) ++ (subs l k).map (· + r)
theorem subs_zero : ∀ l : List Int, subs l 0 = [0]
  | [] => rfl
  | _ :: l => by rw [subs, subs_zero l]
theorem subs_none : ∀ (l : List Int) (k : Nat), l.length < k → subs l k = []
  | [], 0, h => absurd h (by omega)
  | [], _ + 1, _ => rfl
  | _ :: _, 0, h => absurd h (by omega)
  | r :: l, k + 1, h => by
    have h' : l.length < k := by simpa using h
    rw [subs, subs_none l (k + 1) (by omega), subs_none l k h']
    rfl
theorem subs_len : ∀ (l : List Int) (k : Nat), k ≤ l.length → (subs l k).length = pas l.length k
  | [], 0, _ => rfl
  | [], _ + 1, h => absurd h (by simp)
  | _ :: l, 0, _ => by
    rw [subs_zero]
    simp [pas]
  | r :: l, k + 1, h => by
    have h' : k ≤ l.length := by simpa using h
    rw [subs, List.length_append, List.length_map, subs_len l k h']
    show _ = pas (l.length + 1) (k + 1)
    rcases Nat.lt_or_ge l.length (k + 1) with h2 | h2
    · rw [subs_none l (k + 1) h2, pas_succ, pas_over _ _ h2]
      simp
    · rw [subs_len l (k + 1) h2, pas_succ]
      omega
/-- the order of the numbers does not matter -/
theorem subs_perm {l l' : List Int} (h : l.Perm l') : ∀ k, (subs l k).Perm (subs l' k) := by
  induction h with
  | nil => exact fun k => .refl _
  | cons x _ ih =>
    intro k
    cases k with
    | zero => rw [subs_zero, subs_zero]
    | succ k => exact (ih (k + 1)).append ((ih k).map _)
  | swap x y l =>
    intro k
    cases k with
    | zero => rw [subs_zero, subs_zero]
    | succ k =>
      cases k with
      | zero =>
        simp only [subs, subs_zero, List.map_cons, List.map_nil, List.append_assoc]
        exact List.Perm.append_left _ (List.perm_append_comm (l₁ := [0 + x]) (l₂ := [0 + y]))
      | succ k =>
        simp only [subs, List.map_append, List.map_map]
        have e : ((fun s => s + y) ∘ fun s => s + x) = ((fun s => s + x) ∘ fun s : Int => s + y) := by
          funext s
          simp only [Function.comp]
          omega
        rw [e, ← List.append_assoc, ← List.append_assoc]
        refine List.Perm.append_right _ ?_
        rw [List.append_assoc, List.append_assoc]
        exact List.Perm.append_left _ List.perm_append_comm
  | trans _ _ ih1 ih2 => exact fun k => (ih1 k).trans (ih2 k)
/-- what a choice leaves -/
theorem subs_rest : ∀ (l : List Int) (k : Nat), k ≤ l.length → (subs l k).Perm ((subs l (l.length - k)).map (fun s => l.sum - s))
  | [], 0, _ => by simp [subs]
  | [], _ + 1, h => absurd h (by simp)
  | r :: l, 0, _ => by
    have h := subs_rest l 0 (Nat.zero_le _)
    rw [Nat.sub_zero, subs_zero] at h
    rw [subs_zero, Nat.sub_zero, List.length_cons, subs, subs_none l (l.length + 1) (by omega), List.nil_append, List.map_map, List.sum_cons]
    have e : ((fun s => r + l.sum - s) ∘ fun s => s + r) = fun s : Int => l.sum - s := by
      funext s
      simp only [Function.comp]
      omega
    rw [e]
    exact h
  | r :: l, k + 1, h => by
    have hk : k ≤ l.length := by simpa using h
    have h1 := subs_rest l k hk
    have e1 : ∀ L : List Int, (L.map fun s => l.sum - s).map (· + r) = L.map fun s => r + l.sum - s := fun L => by
      rw [List.map_map]
      refine List.map_congr_left fun s _ => ?_
      simp only [Function.comp]
      omega
    rcases Nat.lt_or_ge k l.length with h2 | h2
    · have h3 := subs_rest l (k + 1) h2
      obtain ⟨m, hm⟩ : ∃ m, l.length - k = m + 1 := ⟨l.length - k - 1, by omega⟩
      rw [show (r :: l).length - (k + 1) = m + 1 by simp; omega, List.sum_cons]
      rw [show l.length - (k + 1) = m by omega] at h3
      rw [hm] at h1
      simp only [subs, List.map_append, List.map_map]
      have e2 : ((fun s => r + l.sum - s) ∘ fun s => s + r) = fun s : Int => l.sum - s := by
        funext s
        simp only [Function.comp]
        omega
      rw [e2]
      refine (h3.append (h1.map _)).trans ?_
      rw [e1]
      exact List.perm_append_comm
    · obtain rfl : k = l.length := by omega
      rw [Nat.sub_self, subs_zero] at h1
      rw [show (r :: l).length - (l.length + 1) = 0 by simp, subs_zero, List.sum_cons, subs, subs_none l _ (by omega), List.nil_append]
      refine (h1.map _).trans ?_
      rw [e1]
/-- the first numbers are a choice -/
theorem subs_first : ∀ (a b : List Int), a.sum ∈ subs (a ++ b) a.length
  | [], b => by
    rw [List.length_nil, subs_zero]
    simp
  | x :: a, b => by
    rw [List.cons_append, List.length_cons, subs, List.sum_cons]
    refine List.mem_append.2 (.inr (List.mem_map.2 ⟨a.sum, subs_first a b, ?_⟩))
    omega
/-- the first numbers of whatever order are a choice -/
theorem subs_take {l l' : List Int} (h : l'.Perm l) (n : Nat) (hn : n ≤ l'.length) : (l'.take n).sum ∈ subs l n := by
  have h1 := subs_first (l'.take n) (l'.drop n)
  rw [List.take_append_drop, List.length_take, Nat.min_eq_left hn] at h1
  exact ((subs_perm h n).mem_iff).1 h1
theorem countP_add (p q : Int → Bool) (L : List Int) : L.countP p + L.countP q = L.countP (fun x => p x || q x) + L.countP (fun x => p x && q x) := by
  induction L with
  | nil => rfl
  | cons x L ih =>
    simp only [List.countP_cons]
    cases p x <;> cases q x <;> simp <;> omega
/-- THE TAILS OF BOTH SIDES: those up to a choice's own sum, and those from it on, are all and one at least -/
theorem tails_both (L : List Int) (x : Int) (hx : x ∈ L) : L.length < L.countP (fun s => decide (s ≤ x)) + L.countP (fun s => decide (x ≤ s)) := by
  rw [countP_add]
  have h1 : L.countP (fun s => decide (s ≤ x) || decide (x ≤ s)) = L.length := by
    rw [List.countP_eq_length]
    intro s _
    rw [Bool.or_eq_true, decide_eq_true_eq, decide_eq_true_eq]
    omega
  have h2 : 0 < L.countP (fun s => decide (s ≤ x) && decide (x ≤ s)) := List.countP_pos_iff.2 ⟨x, hx, by simp⟩
  omega
/-- the tail of the others: what is left of a choice -/
theorem tail_rest (l : List Int) (k : Nat) (hk : k ≤ l.length) (y : Int) : (subs l (l.length - k)).countP (fun s => decide (s ≤ l.sum - y)) = (subs l k).countP (fun s => decide (y ≤ s)) := by
  rw [(subs_rest l k hk).countP_eq, List.countP_map]
  congr 1
  funext s
  show decide (s ≤ l.sum - y) = decide (y ≤ l.sum - s)
  by_cases h : s ≤ l.sum - y
  · rw [decide_eq_true h, decide_eq_true (by omega)]
  · rw [decide_eq_false h, decide_eq_false (by omega)]
/-- the sums of all choices, of however many numbers -/
def allS : List Int → List Int
  | [] => [0]
  | r :: l => allS l ++ (allS l).map (· + r)
theorem allS_len : ∀ l : List Int, (allS l).length = 2 ^ l.length
  | [] => rfl
  | r :: l => by
    rw [allS, List.length_append, List.length_map, allS_len l, List.length_cons, Nat.pow_succ]
    omega
theorem allS_rest : ∀ l : List Int, (allS l).Perm ((allS l).map (fun s => l.sum - s))
  | [] => by simp [allS]
  | r :: l => by
    have h := allS_rest l
    have e1 : ∀ L : List Int, (L.map fun s => l.sum - s).map (· + r) = L.map fun s => r + l.sum - s := fun L => by
      rw [List.map_map]
      refine List.map_congr_left fun s _ => ?_
      simp only [Function.comp]
      omega
    have e2 : ((fun s => r + l.sum - s) ∘ fun s => s + r) = fun s : Int => l.sum - s := by
      funext s
      simp only [Function.comp]
      omega
    rw [allS, List.map_append, List.map_map, List.sum_cons, e2]
    refine (h.append (h.map _)).trans ?_
    rw [e1]
    exact List.perm_append_comm
theorem allTail_rest (l : List Int) (y : Int) : (allS l).countP (fun s => decide (s ≤ l.sum - y)) = (allS l).countP (fun s => decide (y ≤ s)) := by
  rw [(allS_rest l).countP_eq, List.countP_map]
  congr 1
  funext s
  show decide (l.sum - s ≤ l.sum - y) = decide (y ≤ s)
  by_cases h : y ≤ s
  · rw [decide_eq_true h, decide_eq_true (by omega)]
  · rw [decide_eq_false h, decide_eq_false (by omega)]
/-- the sum of those that a test takes is a choice's -/
theorem allS_pick : ∀ (l : List (Int × Bool)), (l.map fun p => if p.2 then p.1 else 0).sum ∈ allS (l.map (·.1))
  | [] => by simp [allS]
  | (r, b) :: l => by
    have h := allS_pick l
    rw [List.map_cons, List.map_cons, List.sum_cons, allS]
    cases b with
    | true =>
      refine List.mem_append.2 (.inr (List.mem_map.2 ⟨_, h, ?_⟩))
      simp
      omega
    | false =>
      refine List.mem_append.2 (.inl ?_)
      simpa using h
end Go.Proofs.Ytfkjnaaplhcheaa

namespace Go.Proofs.Ytfkjnaaplhcheaa.Sb
open Go Go.RowKit Go.Maps Go.WideShapes

def okI (a : Int) : Prop := -9223372036854775808 ≤ a ∧ a ≤ 9223372036854775807
theorem wrap_ok (a : Int) : okI (IntKind.i64.wrap a) := by unfold okI; rw [IntKind.wrap_i64]; omega
theorem wrap_of_ok {a : Int} (h : okI a) : IntKind.i64.wrap a = a := IntWalk.i64_in _ h
def kI (x : Int) : Lit := .int .i64 x
abbrev DU := DataW Unit
/-- a map that reads as a table: its keys are no greater than S in size -/
def MapIs (D : DU) (f : Int → Int) (S : Nat) : Prop := IsMap D ∧ (∀ x : Int, has D (kI x) = true → -(S : Int) ≤ x ∧ x ≤ S) ∧ ∀ x : Int, D.atKey (kI x) (.lit (.int .i64 0)) = .lit (.int .i64 (f x))
theorem kI_ne {x y : Int} (h : x ≠ y) : kI x ≠ kI y := fun e => h (by
  unfold kI at e
  injection e)
theorem kI_key (x : Int) : WideAt.IsKeyLit (kI x) := by
  unfold kI WideAt.IsKeyLit
  trivial
theorem mapIs_empty (S : Nat) : MapIs (.map [] : DU) (fun _ => 0) S := by
  refine ⟨isMap_empty, fun x h => ?_, fun x => rfl⟩
  rw [has_eq] at h
  simp at h
def updF (f : Int → Int) (s : Int) (v : Int) : Int → Int := fun x => if x = s then v else f x
theorem mapIs_put {D : DU} {f : Int → Int} {S S' : Nat} {s : Int} (h : MapIs D f S) (hs : -(S' : Int) ≤ s ∧ s ≤ S') (hS : S ≤ S') (v : Int) : MapIs (D.put (kI s) (.lit (.int .i64 v))) (updF f s v) S' := by
  obtain ⟨h1, h2, h3⟩ := h
  refine ⟨h1.put _ _, fun x hx => ?_, fun x => ?_⟩
  · by_cases he : x = s
    · omega
    · rw [has_put_other (kI_ne he)] at hx
      have := h2 x hx
      omega
  · unfold updF
    by_cases he : x = s
    · rw [if_pos he, he, atKey_put_same h1 (kI_key _)]
    · rw [if_neg he, atKey_put_other (kI_ne he)]
      exact h3 x
theorem mapIs_congr {D : DU} {f g : Int → Int} {S : Nat} (h : MapIs D f S) (he : ∀ x, f x = g x) : MapIs D g S := ⟨h.1, h.2.1, fun x => by rw [← he x]; exact h.2.2 x⟩
theorem mapIs_mono {D : DU} {f : Int → Int} {S S' : Nat} (h : MapIs D f S) (hS : S ≤ S') : MapIs D f S' := ⟨h.1, fun x hx => by have := h.2.1 x hx; omega, h.2.2⟩
theorem mapIs_none {D : DU} {f : Int → Int} {S : Nat} {x : Int} (h : MapIs D f S) (hn : has D (kI x) = false) : f x = 0 := by
  have h1 := h.2.2 x
  rw [atKey_of_not_has hn] at h1
  injection h1 with h1
  injection h1 with _ h2
  exact h2.symm
/-- a map that is partly filled out of another one -/
def partF (f0 fp : Int → Int) (r : Int) (Dp : DU) (left : Lit → Bool) : Int → Int := fun x =>
  if has Dp (kI (x - r)) && !left (kI (x - r)) then IntKind.i64.wrap (f0 x + fp (x - r)) else f0 x
theorem part_start (f0 fp : Int → Int) (r : Int) (Dp : DU) (x : Int) : partF f0 fp r Dp (has Dp) x = f0 x := by
  unfold partF
  rw [if_neg]
  cases has Dp (kI (x - r)) <;> simp
theorem part_at {f0 fp : Int → Int} {r s : Int} {Dp : DU} {left : Lit → Bool} (hl : left (kI s) = true) : partF f0 fp r Dp left (s + r) = f0 (s + r) := by
  unfold partF
  rw [if_neg]
  rw [show s + r - r = s by omega, hl]
  simp
theorem sameKey_kI (x y : Int) : (kI x).sameKey (kI y) = decide (x = y) := by
  by_cases h : x = y
  · rw [h, decide_eq_true rfl]
    exact WideAt.sameKey_self (kI_key _)
  · rw [decide_eq_false h, sameKey_ne (kI_ne h)]
theorem part_step {f0 fp : Int → Int} {r s : Int} {Dp : DU} {left : Lit → Bool} (hh : has Dp (kI s) = true) (x : Int) :
    updF (partF f0 fp r Dp left) (s + r) (IntKind.i64.wrap (f0 (s + r) + fp s)) x = partF f0 fp r Dp (fun z => left z && !z.sameKey (kI s)) x := by
  unfold updF partF
  by_cases hx : x = s + r
  · subst hx
    have hsk : (kI s).sameKey (kI s) = true := by rw [sameKey_kI]; simp
    rw [if_pos rfl, show s + r - r = s by omega, hh]
    dsimp only
    rw [if_pos (by rw [hsk]; simp)]
  · rw [if_neg hx]
    have hne : decide (x - r = s) = false := decide_eq_false (by omega)
    simp only [sameKey_kI, hne, Bool.not_false, Bool.and_true]
theorem part_end {f0 fp : Int → Int} {r : Int} {S : Nat} {Dp : DU} {left : Lit → Bool} (hl : ∀ k, left k = false) (hp : MapIs Dp fp S) (h0 : ∀ x, okI (f0 x)) (x : Int) :
    partF f0 fp r Dp left x = IntKind.i64.wrap (f0 x + fp (x - r)) := by
  unfold partF
  rw [hl]
  cases hh : has Dp (kI (x - r)) with
  | true => rfl
  | false =>
    rw [mapIs_none hp hh, Int.add_zero, wrap_of_ok (h0 x)]
    rfl
theorem own_size {H : Type} {P : Program} {k : TypeId} {R : Value → Option (DataW H × List MemPlace)} {w : World} {b n : Nat} {D : DataW H} (h : w.ownsMap P k R b n D) : Maps.size D ≤ n := by
  obtain ⟨es, clock, hb, F, hs, rfl⟩ := h
  show (_ : List _).length ≤ n
  rw [length_sorted, List.length_map]
  simpa using hs

/-- a sum over the first so many -/
def sumF (g : Nat → Int) : Nat → Int
  | 0 => 0
  | n + 1 => sumF g n + g n
theorem sumF_congr {g g' : Nat → Int} : ∀ n, (∀ x, x < n → g x = g' x) → sumF g n = sumF g' n
  | 0, _ => rfl
  | n + 1, h => by
    show sumF g n + g n = sumF g' n + g' n
    rw [sumF_congr n fun x hx => h x (by omega), h n (by omega)]
theorem sumF_add {g g' : Nat → Int} {s : Nat} {v : Int} : ∀ n, s < n → (∀ x, x ≠ s → g' x = g x) → g' s = g s + v → sumF g' n = sumF g n + v
  | 0, h, _, _ => by omega
  | n + 1, h, he, hs => by
    show sumF g' n + g' n = sumF g n + g n + v
    by_cases hn : s = n
    · subst hn
      rw [sumF_congr (g := g') (g' := g) s fun x hx => he x (by omega), hs]
      omega
    · rw [sumF_add n (by omega) he hs, he n (by omega)]
      omega
/-- what has been counted of a map -/
def cntF (f : Int → Int) (P : Int → Bool) (S : Nat) (D : DU) (left : Lit → Bool) : Nat → Int := fun j => if (P ((j : Int) - S) && (has D (kI ((j : Int) - S)) && !left (kI ((j : Int) - S)))) = true then f ((j : Int) - S) else 0
theorem cnt_start (f : Int → Int) (P : Int → Bool) (S : Nat) (D : DU) (n : Nat) : sumF (cntF f P S D (has D)) n = 0 := by
  induction n with
  | zero => rfl
  | succ n ih =>
    show sumF _ n + cntF f P S D (has D) n = 0
    rw [ih]
    unfold cntF
    cases has D (kI ((n : Int) - S)) <;> simp
theorem cnt_step {f : Int → Int} {P : Int → Bool} {s : Int} {S : Nat} {D : DU} {left : Lit → Bool} (hs : -(S : Int) ≤ s ∧ s ≤ S) (hh : has D (kI s) = true) (hl : left (kI s) = true) :
    sumF (cntF f P S D fun z => left z && !z.sameKey (kI s)) (2 * S + 1) = sumF (cntF f P S D left) (2 * S + 1) + (if P s = true then f s else 0) := by
  have e : (((s + S).toNat : Nat) : Int) - (S : Int) = s := by omega
  refine sumF_add (s := (s + S).toNat) _ (by omega) (fun x hx => ?_) ?_
  · unfold cntF
    have hne : decide ((x : Int) - (S : Int) = s) = false := decide_eq_false (by omega)
    simp only [sameKey_kI, hne, Bool.not_false, Bool.and_true]
  · unfold cntF
    rw [e]
    simp only [sameKey_kI, hh, hl]
    cases P s <;> simp
theorem cnt_end {f : Int → Int} {P : Int → Bool} {S : Nat} {D : DU} {left : Lit → Bool} (hl : ∀ k, left k = false) (hp : MapIs D f S) : sumF (cntF f P S D left) (2 * S + 1) = sumF (fun j => if P ((j : Int) - S) = true then f ((j : Int) - S) else 0) (2 * S + 1) := sumF_congr _ fun x hx => by
  unfold cntF
  rw [hl]
  cases hP : P ((x : Int) - S) with
  | false => rfl
  | true =>
    cases hh : has D (kI ((x : Int) - S)) with
    | true => rfl
    | false => rw [mapIs_none hp hh]; rfl
theorem wrap_add (a b : Int) : IntKind.i64.wrap (IntKind.i64.wrap a + b) = IntKind.i64.wrap (a + b) := by
  rw [IntKind.wrap_i64, IntKind.wrap_i64, IntKind.wrap_i64]
  omega
/-- counts of a list's numbers, added up -/
theorem count_sum (P : Int → Bool) (S : Nat) : ∀ L : List Int, (∀ x ∈ L, -(S : Int) ≤ x ∧ x ≤ S) → sumF (fun j => if P ((j : Int) - S) = true then ((L.count ((j : Int) - S) : Nat) : Int) else 0) (2 * S + 1) = (L.countP P : Nat)
  | [], _ => by
    have : ∀ n, sumF (fun j => if P ((j : Int) - S) = true then (((([] : List Int)).count ((j : Int) - S) : Nat) : Int) else 0) n = 0 := fun n => by
      induction n with
      | zero => rfl
      | succ n ih =>
        show sumF _ n + _ = 0
        rw [ih]
        simp
    rw [this]
    rfl
  | x :: L, h => by
    have hx := h x List.mem_cons_self
    have e : (((x + S).toNat : Nat) : Int) - (S : Int) = x := by omega
    have h1 : ∀ j : Nat, j ≠ (x + S).toNat → (if P ((j : Int) - S) = true then (((x :: L).count ((j : Int) - S) : Nat) : Int) else 0) = (if P ((j : Int) - S) = true then ((L.count ((j : Int) - S) : Nat) : Int) else 0) := fun j hj => by
      have hne : ¬ x = (j : Int) - S := by omega
      rw [List.count_cons_of_ne hne]
    have h2 : (if P ((((x + S).toNat : Nat) : Int) - S) = true then (((x :: L).count ((((x + S).toNat : Nat) : Int) - S) : Nat) : Int) else 0) = (if P ((((x + S).toNat : Nat) : Int) - S) = true then ((L.count ((((x + S).toNat : Nat) : Int) - S) : Nat) : Int) else 0) + (if P x = true then 1 else 0) := by
      rw [e, List.count_cons_self]
      split <;> simp
    rw [List.countP_cons, sumF_add (s := (x + S).toNat) (v := if P x = true then 1 else 0) _ (by omega) h1 h2, count_sum P S L fun y hy => h y (List.mem_cons_of_mem _ hy)]
    split <;> omega
/-! ### the table of counts -/
theorem count_shift (r x : Int) : ∀ L : List Int, (L.map (· + r)).count x = L.count (x - r)
  | [] => rfl
  | y :: L => by
    rw [List.map_cons, List.count_cons, List.count_cons, count_shift r x L]
    congr 1
    by_cases h : y + r = x
    · rw [if_pos (by simpa using h), if_pos (by simp; omega)]
    · rw [if_neg (by simpa using h), if_neg (by simp; omega)]
theorem subs_few (l : List Int) (k : Nat) : (subs l k).length ≤ 2 ^ l.length := by
  rcases Nat.lt_or_ge l.length k with h | h
  · rw [subs_none l k h]
    exact Nat.zero_le _
  · rw [subs_len l k h]
    exact pas_le _ _
/-- in how many ways k of the first i numbers have the sum x -/
def wyZ (rs : List Int) (i k : Nat) (x : Int) : Int := ((subs (rs.take i).reverse k).count x : Nat)
theorem wyZ_le (rs : List Int) (i k : Nat) (x : Int) : 0 ≤ wyZ rs i k x ∧ wyZ rs i k x ≤ ((2 ^ i : Nat) : Int) := by
  unfold wyZ
  have h1 := List.count_le_length (a := x) (l := subs (rs.take i).reverse k)
  have h2 := subs_few (rs.take i).reverse k
  have h3 : 2 ^ (rs.take i).reverse.length ≤ 2 ^ i := Nat.pow_le_pow_right (by omega) (by rw [List.length_reverse, List.length_take]; omega)
  omega
theorem two_few {i : Nat} (h : i ≤ 40) : 2 ^ i ≤ 1099511627776 := Nat.le_trans (Nat.pow_le_pow_right (by omega) h) (by decide)
theorem wyZ_ok {rs : List Int} {i : Nat} (hi : i ≤ 40) (k : Nat) (x : Int) : okI (wyZ rs i k x) := by
  have h1 := wyZ_le rs i k x
  have h2 := two_few hi
  unfold okI
  omega
theorem wyZ_zero (rs : List Int) (k : Nat) (x : Int) : wyZ rs 0 k x = if k = 0 ∧ x = 0 then 1 else 0 := by
  unfold wyZ
  rw [List.take_zero, List.reverse_nil]
  cases k with
  | zero =>
    by_cases h : x = 0
    · subst h
      simp [subs]
    · rw [if_neg (fun e => h e.2)]
      simp [subs, List.count_cons]
      omega
  | succ k => simp [subs]
theorem wyZ_z (rs : List Int) (i : Nat) (x : Int) : wyZ rs (i + 1) 0 x = wyZ rs i 0 x := by unfold wyZ; rw [subs_zero, subs_zero]
theorem wyZ_s {rs : List Int} {i : Nat} (hi : i < rs.length) (h40 : i < 40) (k : Nat) (x : Int) : wyZ rs (i + 1) (k + 1) x = IntKind.i64.wrap (wyZ rs i (k + 1) x + wyZ rs i k (x - rs.getD i 0)) := by
  have h1 := wyZ_le rs i (k + 1) x
  have h2 := wyZ_le rs i k (x - rs.getD i 0)
  have h3 := two_few (i := i) (by omega)
  rw [wrap_of_ok (by unfold okI; omega)]
  have e : (rs.take (i + 1)).reverse = rs.getD i 0 :: (rs.take i).reverse := by
    rw [List.take_succ_eq_append_getElem hi, List.reverse_append, List.getD_eq_getElem?_getD, List.getElem?_eq_getElem hi]
    rfl
  show ((_ : Nat) : Int) = ((_ : Nat) : Int) + ((_ : Nat) : Int)
  rw [e, subs, List.count_append, count_shift]
  omega
/-- the size of the sums of the first i -/
def sabs (rs : List Int) (i : Nat) : Nat := ((rs.take i).map Int.natAbs).sum
theorem sabs_succ {rs : List Int} {i : Nat} (hi : i < rs.length) : sabs rs (i + 1) = sabs rs i + (rs.getD i 0).natAbs := by
  unfold sabs
  rw [List.take_succ_eq_append_getElem hi, List.map_append, List.sum_append, List.getD_eq_getElem?_getD, List.getElem?_eq_getElem hi]
  simp
theorem sabs_mono (rs : List Int) (i : Nat) : sabs rs i ≤ sabs rs rs.length := by
  unfold sabs
  rw [List.take_length]
  have h := List.take_append_drop i rs
  have : (rs.map Int.natAbs).sum = ((rs.take i).map Int.natAbs).sum + ((rs.drop i).map Int.natAbs).sum := by
    rw [← List.sum_append, ← List.map_append, h]
  omega
theorem subs_in : ∀ (l : List Int) (k : Nat) (x : Int), x ∈ subs l k → -((l.map Int.natAbs).sum : Int) ≤ x ∧ x ≤ (l.map Int.natAbs).sum
  | [], 0, x, h => by
    have : x = 0 := by simpa [subs] using h
    subst this
    simp
  | [], _ + 1, x, h => by simp [subs] at h
  | r :: l, 0, x, h => by
    rw [subs_zero] at h
    have : x = 0 := by simpa using h
    subst this
    omega
  | r :: l, k + 1, x, h => by
    rw [subs, List.mem_append, List.mem_map] at h
    rw [List.map_cons, List.sum_cons]
    rcases h with h | ⟨y, h, rfl⟩
    · have := subs_in l (k + 1) x h
      omega
    · have := subs_in l k y h
      omega
end Go.Proofs.Ytfkjnaaplhcheaa.Sb

namespace Go.Proofs.Ytfkjnaaplhcheaa.Sb
open Go Go.RowKit Go.Maps Go.WideShapes

theorem keyed : Keyed Try.prog 2 := int_keyed Try.underlying2
theorem zeroI (w : World) : (zeroValue 2).run Try.prog w = .ok (.int .i64 0) w := by kernel_rfl
theorem info_map : (Try.prog.info? 78).map (fun i => (i.zero, i.size, i.bytes)) = some (some (.map none), 1, 8) := by kernel_rfl
theorem grown_refl (w : World) (row : Option Nat) : w.grownBy w row := ⟨rfl, rfl, rfl, Nat.le_refl _, fun _ _ _ => rfl⟩
theorem grown_set {w w' : World} {g : Nat} (h : w.grownBy w' (some g)) (i : Nat) (v : Value) : w.grownBy (w'.setCell ⟨g, i, none⟩ v) (some g) :=
  ⟨h.os, h.tape, h.output, by simp only [World.setCell, Array.size_modify]; exact h.size, fun k hk hne => (Below.heap_setCell _ _ _ _ (fun e => hne (by rw [e]))).trans (h.block k hk hne)⟩
abbrev OM (W : World) (b n : Nat) (D : DU) : Prop := W.ownsMap Try.prog 2 (plainElem Try.prog 2) b n D
/-- a row of maps, n of them made, each read as a table -/
structure MW (W : World) (base M R n : Nat) (bl : Nat → Nat) (f : Nat → Int → Int) (s nb : Nat → Nat) : Prop where
  o : W.rowIs R 78 M (fun q => if q < n then .map (some (bl q)) else .map none)
  m : ∀ q, q < n → ∃ D : DU, OM W (bl q) (nb q) D ∧ MapIs D (f q) (s q)
  ne : ∀ q, q < n → bl q ≠ R
  inj : ∀ p q, p < n → q < n → bl p = bl q → p = q
  loR : base ≤ R
  lo : ∀ q, q < n → base ≤ bl q
variable {W W' : World} {base M R n : Nat} {bl : Nat → Nat} {f f' : Nat → Int → Int} {s s' nb nb' : Nat → Nat}
theorem MW.congr (h : MW W base M R n bl f s nb) (hf : ∀ q x, q < n → f q x = f' q x) (hs : ∀ q, q < n → s q ≤ s' q) (hn : ∀ q, q < n → nb q ≤ nb' q) : MW W base M R n bl f' s' nb' :=
  ⟨h.o, fun q hq => by
    obtain ⟨D, h1, h2⟩ := h.m q hq
    exact ⟨D, h1.mono (hn q hq), mapIs_mono (mapIs_congr h2 fun x => hf q x hq) (hs q hq)⟩, h.ne, h.inj, h.loR, h.lo⟩
theorem MW.ltR (h : MW W base M R n bl f s nb) : R < W.heap.size := h.o.lt
theorem MW.lt (h : MW W base M R n bl f s nb) {q : Nat} (hq : q < n) : bl q < W.heap.size := by
  obtain ⟨D, h1, -⟩ := h.m q hq
  exact h1.lt
theorem MW.cell (h : MW W base M R n bl f s nb) {q : Nat} (hq : q < n) (hM : n ≤ M) : W.cell? ⟨R, q, none⟩ = some (.map (some (bl q))) := by
  have := h.o.cell (show q < M by omega)
  rw [if_pos hq] at this
  exact this
/-- one map is turned -/
theorem MW.turn (h : MW W base M R n bl f s nb) {k : Nat} (hk : k < n) (hg : W.grownBy W' (some (bl k))) {D : DU} (hm : OM W' (bl k) (nb' k) D) (hi : MapIs D (f' k) (s' k)) (he : ∀ q, q < n → q ≠ k → (∀ x, f q x = f' q x) ∧ s q ≤ s' q ∧ nb q ≤ nb' q) : MW W' base M R n bl f' s' nb' := by
  refine ⟨h.o.of_block (hg.block R h.ltR fun e => h.ne k hk (Option.some.inj e).symm), fun q hq => ?_, h.ne, h.inj, h.loR, h.lo⟩
  by_cases hqk : q = k
  · subst hqk
    exact ⟨D, hm, hi⟩
  · obtain ⟨D2, h1, h2⟩ := h.m q hq
    obtain ⟨e1, e2, e3⟩ := he q hq hqk
    exact ⟨D2, (h1.kept hg fun e => hqk (h.inj q k hq hk (Option.some.inj e))).mono e3, mapIs_mono (mapIs_congr h2 e1) e2⟩
theorem MW.push (h : MW W base M R n bl (fun _ _ => 0) (fun _ => 0) (fun _ => 0)) (hb : base ≤ W.heap.size) :
    MW ((W.setCell ⟨R, n, none⟩ (.map (some W.heap.size))).alloc (.map #[] 0)) base M R (n + 1) (fun q => if q = n then W.heap.size else bl q) (fun _ _ => 0) (fun _ => 0) (fun _ => 0) := by
  have hR := h.ltR
  have hg := grown_set (grown_refl W (some R)) n (.map (some W.heap.size))
  have hsz : (W.setCell ⟨R, n, none⟩ (.map (some W.heap.size))).heap.size = W.heap.size := by simp
  refine ⟨((h.o.set n (.map (some W.heap.size))).alloc _).congr fun q _ => ?_, fun q hq => ?_, fun q hq => ?_, fun p q hp hq e => ?_, h.loR, fun q hq => ?_⟩
  · by_cases hqn : q = n
    · simp [hqn]
    · by_cases hlt : q < n
      · simp [hqn, hlt, show q < n + 1 by omega]
      · simp [hqn, hlt, show ¬ q < n + 1 by omega]
  · by_cases hqn : q = n
    · refine ⟨.map [], ?_, mapIs_empty _⟩
      show OM _ (if q = n then _ else _) _ _
      rw [if_pos hqn]
      have := World.ownsMap_made (W.setCell ⟨R, n, none⟩ (.map (some W.heap.size))) Try.prog 2 (plainElem (H := Unit) Try.prog 2)
      rw [hsz] at this
      exact this
    · obtain ⟨D, h1, h2⟩ := h.m q (by omega)
      refine ⟨D, ?_, h2⟩
      show OM _ (if q = n then _ else _) _ _
      rw [if_neg hqn]
      exact (h1.kept hg fun e => h.ne q (by omega) (Option.some.inj e)).alloc _
  · show (if q = n then _ else _) ≠ R
    split
    · omega
    · exact h.ne q (by omega)
  · have e : (if p = n then W.heap.size else bl p) = (if q = n then W.heap.size else bl q) := e
    by_cases hp' : p = n
    · by_cases hq' : q = n
      · omega
      · rw [if_pos hp', if_neg hq'] at e
        have := h.lt (q := q) (by omega)
        omega
    · by_cases hq' : q = n
      · rw [if_neg hp', if_pos hq'] at e
        have := h.lt (q := p) (by omega)
        omega
      · rw [if_neg hp', if_neg hq'] at e
        exact h.inj p q (by omega) (by omega) e
  · show base ≤ (if q = n then _ else _)
    split
    · exact hb
    · exact h.lo q (by omega)
theorem MW.start (W : World) (M : Nat) (bl : Nat → Nat) : MW (W.alloc (.cells (madeCells #[.map none] M) 78)) W.heap.size M W.heap.size 0 bl (fun _ _ => 0) (fun _ => 0) (fun _ => 0) :=
  ⟨(World.rowIs_made W (.map none) M _).congr fun q _ => by rw [if_neg (by omega)], fun q hq => absurd hq (by omega), fun q hq => absurd hq (by omega), fun p q hp => absurd hp (by omega), Nat.le_refl _, fun q hq => absurd hq (by omega)⟩
theorem w64 (a : Int) : wrap64 a = IntKind.i64.wrap a := by
  rw [IntKind.wrap_i64]
  unfold wrap64
  omega
def wtOut (rs : List Int) (many : Nat) (w : World) : Ending → World → Prop := fun e w' => ∃ (b : Nat) (D : DU), e = .returned (.map (some b)) ∧ OM w' b (2 ^ rs.length) D ∧ MapIs D (wyZ rs rs.length many) (sabs rs rs.length) ∧ Below w.heap.size w w'

set_option maxRecDepth 100000 in
set_option maxHeartbeats 3200000 in
theorem waysTo_any (A : Option Addr) (rs : List Int) (many c : Nat) (w : World) (hl : rs.length ≤ 40) (hm : many ≤ 40) (hs : sabs rs rs.length ≤ 1048576) (h : Rd w w.heap.size A (il rs)) :
    Calls Try.prog 52 #[.slice A rs.length c, .int .i64 many] w (wtOut rs many w) := by
  obtain ⟨i0, hi0, hz0, hz1, hz2⟩ := info_parts info_map
  have hmk := run_make_row (P := Try.prog) 114 78 i0 (.map none) Try.underlying114 hi0 hz0 hz1 rfl .i64 .i64 (many + 1) (by rw [hz2]; omega) (by omega)
  push_cast at hmk
  have hmm := @run_makeMap Try.prog
  have HW0 : Hid (∀ q x, wyZ rs 0 q x = if q = 0 ∧ x = 0 then 1 else 0) := Lib.hid fun q x => wyZ_zero rs q x
  have HWK : Hid (∀ i, i < rs.length → ∀ k x, wyZ rs (i + 1) (k + 1) x = IntKind.i64.wrap (wyZ rs i (k + 1) x + wyZ rs i k (x - rs.getD i 0))) := Lib.hid fun i hi k x => wyZ_s hi (by omega) k x
  have HWZ : Hid (∀ i x, wyZ rs (i + 1) 0 x = wyZ rs i 0 x) := Lib.hid fun i x => wyZ_z rs i x
  have HOK : Hid (∀ i, i ≤ rs.length → ∀ k x, okI (wyZ rs i k x)) := Lib.hid fun i hi k x => wyZ_ok (by omega) k x
  have HSS : Hid (∀ i, i < rs.length → sabs rs (i + 1) = sabs rs i + (rs.getD i 0).natAbs) := Lib.hid fun i hi => sabs_succ hi
  have HSL : Hid (∀ i, sabs rs i ≤ 1048576) := Lib.hid fun i => Nat.le_trans (sabs_mono rs i) hs
  have HAT : Hid (∀ k, k < rs.length → ∃ b off, A = some ⟨b, off, none⟩ ∧ ∀ W, Below w.heap.size w W → W.cell? ⟨b, off + k, none⟩ = some (.int .i64 (rs.getD k 0))) := Lib.hid fun k hk => by
    obtain ⟨b, off, e, hb, hc⟩ := h.ilAt hk
    refine ⟨b, off, e, fun W hW => keepC hW ?_⟩
    rw [hc, List.getD_eq_getElem?_getD, List.getElem?_eq_getElem hk]
    rfl
  have HP : Hid (∀ i, i ≤ 40 → 2 ^ i ≤ 1099511627776) := Lib.hid fun i hi => Nat.le_trans (Nat.pow_le_pow_right (by omega) hi) (by decide)
  have START := Lib.hid (show MW (w.alloc (.cells (madeCells #[.map none] (many + 1)) 78)) w.heap.size (many + 1) w.heap.size 0 (fun _ => 0) (fun _ _ => 0) (fun _ => 0) (fun _ => 0) ∧ Below w.heap.size w (w.alloc (.cells (madeCells #[.map none] (many + 1)) 78)) from ⟨MW.start w _ _, below_al (Below.refl _ _) _⟩)
  clear h hs
  unfold wtOut
  generalize wyZ rs = wy at *
  generalize hN : rs.length = N at *
  clear hN
  generalize sabs rs = st at *
  have hm1 : IntKind.i64.wrap ((many : Int) + 1) = (many : Int) + 1 := IntWalk.i64_in _ (by omega)
  go_enter Try.func52, Try.ntmps52
  go_upto_region 2 with fail
  generalize World.alloc w _ = W1 at *
  go_wp2_with fail
  go_loopw [17] (fun iv wr => ∃ (k : Nat) (bl : Nat → Nat), k ≤ many + 1 ∧ iv = .int .i64 k ∧ MW wr w.heap.size (many + 1) w.heap.size k bl (fun _ _ => 0) (fun _ => 0) (fun _ => 0) ∧ Below w.heap.size w wr) (fun iv _ => many + 1 - (intOf iv).toNat)
  case atStart => exact ⟨0, _, Nat.zero_le _, rfl, START.out.1, START.out.2⟩
  case round =>
    clear START
    obtain ⟨k, bl, hk, rfl, hm, hb⟩ := hrel
    rename World => wr
    have MM := Lib.hid hm
    have B := Lib.hid hb
    have hbz := hb.size
    clear hm hb
    by_cases hkm : k < many + 1
    · have y0 := MM.out.o.cell hkm
      rw [if_neg (Nat.lt_irrefl k)] at y0
      have f0 := MM.out.o.frozen k
      have hR := MM.out.ltR
      have P9 := Lib.hid (MM.out.push hbz)
      have B9 : Hid (Below w.heap.size w ((wr.setCell ⟨w.heap.size, k, none⟩ (.map (some wr.heap.size))).alloc (.map #[] 0))) := Lib.hid (below_al (below_set B.out ⟨w.heap.size, k, none⟩ (.map (some wr.heap.size)) (Nat.le_refl _)) (.map #[] 0))
      have y1 := keepC (below_al (Below.refl wr.heap.size wr) (.map #[] 0)) y0
      have f1 : (wr.alloc (.map #[] 0)).frozen? ⟨w.heap.size, k, none⟩ = false := ((below_al (Below.refl wr.heap.size wr) (.map #[] 0)).frozen (p := ⟨_, k, none⟩) hR).trans f0
      have hki : (k : Int) < (many : Int) + 1 := by omega
      go_wp2_with fail
      exact ⟨⟨k + 1, _, by omega, by go_num, P9.out, B9.out⟩, by simp [intOf]; omega⟩
    · obtain rfl : k = many + 1 := by omega
      have y0 := MM.out.cell (show 0 < many + 1 by omega) (Nat.le_refl _)
      obtain ⟨D0, hd0, hi0'⟩ := MM.out.m 0 (by omega)
      have HD0 := Lib.hid hd0
      have HI0 := Lib.hid (mapIs_put hi0' (S' := 0) (s := 0) ⟨by omega, by omega⟩ (Nat.zero_le 0) 1)
      have HTU : Hid (∀ (W : World) (D : DU), wr.grownBy W (some (bl 0)) → OM W (bl 0) 1 D → MapIs D (updF (fun _ => 0) 0 1) 0 → MW W w.heap.size (many + 1) w.heap.size (many + 1) bl (fun q x => wy 0 q x) (fun _ => st 0) (fun _ => 2 ^ 0)) := Lib.hid fun W D hg hm hi => MM.out.turn (k := 0) (by omega) hg hm (mapIs_mono (mapIs_congr hi fun x => by
          show (if x = 0 then 1 else 0) = wy 0 0 x
          rw [HW0.out]
          by_cases hx : x = 0 <;> simp [hx]) (Nat.zero_le _)) fun q hq hq0 => ⟨fun x => by
          show 0 = wy 0 q x
          rw [HW0.out, if_neg (fun e => hq0 e.1)], Nat.zero_le _, Nat.zero_le _⟩
      have hblz := MM.out.lo 0 (by omega)
      have HLO := Lib.hid hblz
      clear hd0 hi0'
      generalize hb0 : bl 0 = b0 at *
      go_wp2_with (at_mapUpdate; refine wpList_mapUpdate_own _ rfl _ _ _ 78 rfl 2 2 keyed Try.underlying78 _ b0 0 _ rfl HD0.out (by unfold maxLen; omega) _ _ _ rfl rfl (keyOf_int_mk Try.underlying2 (WalkArith.wf_i64 (by omega))) _ [] (plainElem_int Try.underlying2 (WalkArith.wf_i64 (by omega))) ?_; intro w5 hown5 hgrow5; have M5 := Lib.hid (HTU.out w5 _ hgrow5 hown5 HI0.out); have B5 := Lib.hid (B.out.grown hgrow5 hbz fun j hj => by cases hj; exact HLO.out); clear hown5 hgrow5)
      clear HTU HD0 HI0 MM B hb0 HLO hblz y0
      go_loopw [30] (fun iv wq => ∃ i : Nat, i ≤ N ∧ iv = .int .i64 i ∧ MW wq w.heap.size (many + 1) w.heap.size (many + 1) bl (fun q x => wy i q x) (fun _ => st i) (fun _ => 2 ^ i) ∧ Below w.heap.size w wq) (fun iv _ => N - (intOf iv).toNat)
      case atStart => exact ⟨0, Nat.zero_le _, rfl, M5.out, B5.out⟩
      case round =>
        clear M5 B5
        obtain ⟨i, hi, rfl, hm, hb⟩ := hrel
        rename World => wq
        have MM := Lib.hid hm
        have B := Lib.hid hb
        clear hm hb
        by_cases hiN : i < N
        · obtain ⟨b, off, rfl, hat⟩ := HAT.out i hiN
          have y0 := hat wq B.out
          have HSR := Lib.hid (HSS.out i hiN)
          have HWI := Lib.hid (HWK.out i hiN)
          have HOKi := Lib.hid (HOK.out i (by omega))
          have HWZi := Lib.hid fun x => HWZ.out i x
          generalize hr : rs.getD i 0 = r at *
          have HP1 := Lib.hid (HP.out (i + 1) (by omega))
          have hp2 : 2 ^ (i + 1) = 2 ^ i + 2 ^ i := by rw [Nat.pow_succ]; omega
          have HP2 := Lib.hid hp2
          have HSTL := Lib.hid (HSL.out (i + 1))
          have M0 : Hid (MW wq w.heap.size (many + 1) w.heap.size (many + 1) bl (fun q x => if many < q then wy (i + 1) q x else wy i q x) (fun q => if many < q then st (i + 1) else st i) (fun q => if many < q then 2 ^ (i + 1) else 2 ^ i)) := Lib.hid (MM.out.congr (fun q x hq => by rw [if_neg (by omega)]) (fun q hq => by rw [if_neg (by omega)]; exact Nat.le_refl _) (fun q hq => by rw [if_neg (by omega)]; exact Nat.le_refl _))
          clear hat hr hp2 HWK HWZ HSS HP MM HOK
          go_wp2_with fail
          go_loopw [9] (fun kv wk => ∃ k : Nat, k ≤ many ∧ kv = .int .i64 k ∧ MW wk w.heap.size (many + 1) w.heap.size (many + 1) bl (fun q x => if k < q then wy (i + 1) q x else wy i q x) (fun q => if k < q then st (i + 1) else st i) (fun q => if k < q then 2 ^ (i + 1) else 2 ^ i) ∧ Below w.heap.size w wk) (fun kv _ => (intOf kv).toNat)
          case atStart => exact ⟨many, Nat.le_refl _, rfl, M0.out, B.out⟩
          case round =>
            clear M0 B y0
            obtain ⟨k, hk, rfl, hm, hb⟩ := hrel
            rename World => wk
            have MM := Lib.hid hm
            have B := Lib.hid hb
            clear hm hb
            by_cases hk0 : 1 ≤ k
            · obtain ⟨k1, rfl⟩ : ∃ k1, k = k1 + 1 := ⟨k - 1, by omega⟩
              have y1 := MM.out.cell (q := k1) (by omega) (Nat.le_refl _)
              have y2 := MM.out.cell (q := k1 + 1) (by omega) (Nat.le_refl _)
              obtain ⟨Dp, hdp, hip⟩ := MM.out.m k1 (by omega)
              obtain ⟨D0, hd0, hi0'⟩ := MM.out.m (k1 + 1) (by omega)

              simp only [if_neg (show ¬ k1 + 1 < k1 by omega), if_neg (Nat.lt_irrefl (k1 + 1))] at hdp hip hd0 hi0'
              have HDP := Lib.hid hdp
              have HIP := Lib.hid hip
              have HD0 := Lib.hid hd0
              have HI0 := Lib.hid hi0'
              have HNE : Hid (bl k1 ≠ bl (k1 + 1)) := Lib.hid fun e => by have := MM.out.inj k1 (k1 + 1) (by omega) (by omega) e; omega
              have HLTp := Lib.hid (MM.out.lt (q := k1) (by omega))
              have HLT0 := Lib.hid (MM.out.lt (q := k1 + 1) (by omega))
              have HLO := Lib.hid (MM.out.lo (k1 + 1) (by omega))
              have HNER := Lib.hid (MM.out.ne (k1 + 1) (by omega))
              have HTU : Hid (∀ (W : World) (D : DU) (n' : Nat), n' ≤ 2 ^ (i + 1) → wk.grownBy W (some (bl (k1 + 1))) → OM W (bl (k1 + 1)) n' D → MapIs D (fun x => IntKind.i64.wrap (wy i (k1 + 1) x + wy i k1 (x - r))) (st (i + 1)) → MW W w.heap.size (many + 1) w.heap.size (many + 1) bl (fun q x => if k1 < q then wy (i + 1) q x else wy i q x) (fun q => if k1 < q then st (i + 1) else st i) (fun q => if k1 < q then 2 ^ (i + 1) else 2 ^ i)) := Lib.hid fun W D n' hn' hg hm hi' => by
                refine MM.out.turn (k := k1 + 1) (by omega) hg (D := D) ?_ ?_ fun q hq hqk => ?_
                · rw [if_pos (show k1 < k1 + 1 by omega)]
                  exact hm.mono hn'
                · rw [if_pos (show k1 < k1 + 1 by omega)]
                  refine mapIs_congr hi' fun x => ?_
                  rw [if_pos (show k1 < k1 + 1 by omega), HWI.out]
                · by_cases hlt : k1 < q
                  · rw [if_pos (show k1 + 1 < q by omega), if_pos hlt, if_pos (show k1 + 1 < q by omega), if_pos hlt]
                    exact ⟨fun x => by rw [if_pos (show k1 + 1 < q by omega), if_pos hlt], Nat.le_refl _, Nat.le_refl _⟩
                  · rw [if_neg (show ¬ k1 + 1 < q by omega), if_neg hlt, if_neg (show ¬ k1 + 1 < q by omega), if_neg hlt]
                    exact ⟨fun x => by rw [if_neg (show ¬ k1 + 1 < q by omega), if_neg hlt], Nat.le_refl _, Nat.le_refl _⟩
              have hw1 : IntKind.i64.wrap (((k1 + 1 : Nat) : Int) - 1) = (k1 : Int) := by rw [show ((k1 + 1 : Nat) : Int) - 1 = (k1 : Int) by omega]; exact IntWalk.i64_in _ (by omega)
              have hki : (k1 : Int) < (many : Int) + 1 := by omega
              have hki2 : (k1 : Int) + 1 < (many : Int) + 1 := by omega
              have HSZ := Lib.hid (own_size hdp)
              have hcond : (1 : Int) ≤ (k1 : Int) + 1 := by omega
              clear hdp hip hd0 hi0'
              generalize hbp : bl k1 = bp at *
              generalize hb0 : bl (k1 + 1) = b0 at *
              have HBW := Lib.hid hbp
              clear hbp hb0
              go_wp2_with (at_range; refine wpList_range_own _ rfl _ 78 rfl 2 2 keyed Try.underlying78 _ bp (2 ^ i) _ rfl HDP.out ?_; intro w0 hrg0 hg0 hs0)
              go_frame
              have hg0b := hg0.but (some b0)
              have START4 := Lib.hid (show w0.ranges Try.prog 2 (plainElem (H := Unit) Try.prog 2) bp wk.heap.size (2 ^ i) Dp (has Dp) (Maps.size Dp) ∧ OM w0 b0 (2 ^ i) D0 ∧ 2 ^ i + Maps.size Dp ≤ 2 ^ (i + 1) ∧ MapIs D0 (partF (wy i (k1 + 1)) (wy i k1) r Dp (has Dp)) (st (i + 1)) ∧ wk.grownBy w0 (some b0) from
                ⟨hrg0, HD0.out.kept hg0 (by simp), by have h1 := HSZ.out; have h2 := HP2.out; omega, mapIs_mono (mapIs_congr HI0.out fun x => (part_start _ _ _ _ x).symm) (by have := HSR.out; omega), hg0b⟩)
              clear hrg0 hg0 hs0 hg0b HI0 HD0
              go_loopw [10] (fun _ wr => ∃ (left : Lit → Bool) (cnt n' : Nat) (D : DU), wr.ranges Try.prog 2 (plainElem (H := Unit) Try.prog 2) bp wk.heap.size (2 ^ i) Dp left cnt ∧ OM wr b0 n' D ∧ n' + cnt ≤ 2 ^ (i + 1) ∧ MapIs D (partF (wy i (k1 + 1)) (wy i k1) r Dp left) (st (i + 1)) ∧ wk.grownBy wr (some b0)) (fun _ wr => wr.rangeLeft bp wk.heap.size)
              case atStart => exact ⟨_, _, _, _, START4.out.1, START4.out.2.1, START4.out.2.2.1, START4.out.2.2.2.1, START4.out.2.2.2.2⟩
              case round =>
                clear START4
                obtain ⟨left, cnt, n', D, hrg, hom, hnc, hmi, hgw⟩ := hrel
                rename World => wz
                have HRG := Lib.hid hrg
                have HOM := Lib.hid hom
                have HNC := Lib.hid hnc
                have HMI := Lib.hid hmi
                have HGW := Lib.hid hgw
                clear hrg hom hnc hmi hgw
                go_wp2_with (at_next; refine wpList_next_ranges_ii _ rfl _ rfl 2 2 .i64 .i64 keyed Try.underlying2 Try.underlying2 bp wk.heap.size (2 ^ i) _ _ _ rfl HRG.out ?_ ?_)
                · intro _ hl0
                  have M9 := Lib.hid (HTU.out wz D n' (by have := HNC.out; omega) HGW.out HOM.out (mapIs_congr HMI.out fun x => part_end hl0 HIP.out (fun x => HOKi.out (k1 + 1) x) x))
                  have B9 := Lib.hid (B.out.grown HGW.out B.out.size fun j hj => by cases hj; exact HLO.out)
                  clear hl0
                  go_wp2_with fail
                  go_roundw
                  case rel => exact ⟨k1, by omega, by go_num, M9.out, B9.out⟩
                  case measure => simp [intOf]
                · intro s c1 w1 cnt1 hwx hwc hlx hat hrg1 hlt1 hg1 hs1 hen
                  have hh := has_true_of_atKey hat
                  obtain ⟨hx0, hx1⟩ := HIP.out.2.1 s hh
                  have hc1 : c1 = wy i k1 s := by
                    have h1 := HIP.out.2.2 s
                    rw [show Dp.atKey (kI s) (.lit (.int .i64 0)) = .lit (.int .i64 c1) from hat _] at h1
                    injection h1 with h1
                    injection h1
                  have HHS := Lib.hid (show has Dp (kI s) = true from hh)
                  have HLS := Lib.hid (show left (kI s) = true from hlx)
                  have HRG1 := Lib.hid hrg1
                  have HLT1 := Lib.hid hlt1
                  have HG1 := Lib.hid hg1
                  have HGW1 := Lib.hid (HGW.out.andThen hg1 (fun j hj => by cases hj; exact Or.inl (Nat.le_refl _)))
                  have y3 : w1.cell? ⟨w.heap.size, k1 + 1, none⟩ = some (.map (some b0)) := by
                    rw [HGW1.out.cell_far _ (lt_of_cell y2) (fun e => HNER.out (Option.some.inj e).symm)]
                    exact y2
                  have HO1 : Hid (OM w1 b0 n' D) := Lib.hid (HOM.out.kept hg1 (fun e => by have e := Option.some.inj e; have := HLT0.out; omega))
                  have hsr := HSR.out
                  have hst := HSTL.out
                  obtain ⟨sr, hsr0⟩ : ∃ sr, sr = s + r := ⟨_, rfl⟩
                  have hwk : IntKind.i64.wrap (s + r) = sr := by rw [hsr0]; exact IntWalk.i64_in _ (by omega)
                  have hwfk : (Lit.int .i64 (s + r)).wf = true := WalkArith.wf_i64 (by omega)
                  have HSRL : Hid (-((st (i + 1) : Nat) : Int) ≤ s + r ∧ s + r ≤ (st (i + 1) : Nat)) := Lib.hid (by omega)
                  have hn'm : n' < maxLen := by have h1 := HNC.out; have h2 := HP1.out; unfold maxLen; omega
                  have HWC : Hid (c1 = wy i k1 s) := Lib.hid hc1
                  clear hc1 hx0 hx1 hat hh hlx hrg1 hlt1 hg1 hsr hst
                  have hpa := part_at (f0 := wy i (k1 + 1)) (fp := wy i k1) (r := r) (Dp := Dp) HLS.out
                  have HST : Hid (∀ x, updF (partF (wy i (k1 + 1)) (wy i k1) r Dp left) (s + r) (IntKind.i64.wrap (wy i (k1 + 1) (s + r) + wy i k1 s)) x = partF (wy i (k1 + 1)) (wy i k1) r Dp (fun z => left z && !z.sameKey (kI s)) x) := Lib.hid fun x => part_step HHS.out x
                  have HPA := Lib.hid hpa
                  clear hpa
                  rw [← hsr0] at hwfk HSRL HPA HST
                  have HM2 := Lib.hid fun (v : Int) => mapIs_put HMI.out HSRL.out (Nat.le_refl _) v
                  clear hsr0
                  go_wp2_with first
                    | (at_lookup; refine wpList_lookup_own_int _ rfl _ _ 78 rfl 2 2 .i64 keyed Try.underlying78 Try.underlying2 (zeroI _) b0 n' _ rfl HO1.out _ _ rfl (keyOf_int_mk Try.underlying2 hwfk) ?_; intro c2 hat2 hwc2)
                    | (at_mapUpdate; refine wpList_mapUpdate_own _ rfl _ _ _ 78 rfl 2 2 keyed Try.underlying78 _ b0 n' _ rfl HO1.out hn'm _ _ _ rfl rfl (keyOf_int_mk Try.underlying2 hwfk) _ [] (plainElem_int Try.underlying2 (wrap64_wf _)) ?_; intro w5 hown5 hgrow5)
                  have hc2 : c2 = wy i (k1 + 1) sr := by
                    have h1 := HMI.out.2.2 sr
                    rw [show D.atKey (kI sr) (.lit (.int .i64 0)) = .lit (.int .i64 c2) from hat2, HPA.out] at h1
                    injection h1 with h1
                    injection h1
                  have e2 := HWC.out
                  subst hc2 e2
                  have H9 : Hid (MapIs (D.put (kI sr) (.lit (.int .i64 (wrap64 (wy i (k1 + 1) sr + wy i k1 s))))) (partF (wy i (k1 + 1)) (wy i k1) r Dp (fun z => left z && !z.sameKey (kI s))) (st (i + 1))) := Lib.hid (w64 _ ▸ mapIs_congr (HM2.out _) HST.out)
                  have G9 := Lib.hid (HGW1.out.andThen hgrow5 (fun j hj => by cases hj; exact Or.inr rfl))
                  have R9 := Lib.hid (HRG1.out.kept hgrow5 (fun e => HNE.out (Option.some.inj e)) (fun e => by have e := Option.some.inj e; have := HLT0.out; omega))
                  have O9 := Lib.hid hown5
                  clear hown5 hgrow5
                  go_wp2_with fail
                  go_roundw
                  case rel => refine ⟨_, _, R9.out, n' + 1, _, O9.out, by have := HNC.out; have := HLT1.out; omega, H9.out, G9.out⟩
                  case measure => rw [R9.out.left_eq, HRG.out.left_eq]; exact HLT1.out
            · obtain rfl : k = 0 := by omega
              have M9 : Hid (MW wk w.heap.size (many + 1) w.heap.size (many + 1) bl (fun q x => wy (i + 1) q x) (fun _ => st (i + 1)) (fun _ => 2 ^ (i + 1))) := Lib.hid (MM.out.congr (fun q x hq => by
                show (if 0 < q then wy (i + 1) q x else wy i q x) = wy (i + 1) q x
                by_cases hq0 : 0 < q
                · rw [if_pos hq0]
                · obtain rfl : q = 0 := by omega
                  rw [if_neg hq0]
                  exact (HWZi.out x).symm) (fun q hq => by
                show (if 0 < q then st (i + 1) else st i) ≤ st (i + 1)
                have := HSR.out
                split <;> omega) (fun q hq => by
                show (if 0 < q then 2 ^ (i + 1) else 2 ^ i) ≤ 2 ^ (i + 1)
                split
                · exact Nat.le_refl _
                · exact Nat.pow_le_pow_right (by omega) (by omega)))
              clear MM
              go_wp2_with fail
              go_roundw
              case rel => exact ⟨i + 1, by omega, by go_num, M9.out, B.out⟩
              case measure => simp [intOf]; omega
        · obtain rfl : i = N := by omega
          obtain ⟨D, hd, hi9⟩ := MM.out.m many (by omega)
          have y0 := MM.out.cell (q := many) (by omega) (Nat.le_refl _)
          have HD := Lib.hid hd
          have HI : Hid (MapIs D (wy i many) (st i)) := Lib.hid hi9
          clear hd hi9 MM
          go_wp2_with fail
          go_ret
          exact ⟨_, _, rfl, HD.out, HI.out, B.out⟩
end Go.Proofs.Ytfkjnaaplhcheaa.Sb

namespace Go.Proofs.Ytfkjnaaplhcheaa.Sb
open Go Go.RowKit Go.Maps Go.WideShapes

theorem RankTail1_any (x own : Int) (bx : Nat) (w : World) (h : w.cell? ⟨bx, 0, none⟩ = some (.int .i64 own)) : Calls Try.prog 53 #[.int .i64 x, .pointer (some ⟨bx, 0, none⟩)] w (fun e w' => e = .returned (.bool (decide (x ≤ own))) ∧ w' = w) := by
  by_cases hx : x ≤ own
  · go_enter Try.func53, Try.ntmps53
    go_wp2
    go_ret
    exact ⟨retB (by simp [hx]), rfl⟩
  · go_enter Try.func53, Try.ntmps53
    go_wp2
    go_ret
    exact ⟨retB (by simp [hx]), rfl⟩

theorem SignedTail2_any (x own : Int) (bx : Nat) (w : World) (h : w.cell? ⟨bx, 0, none⟩ = some (.int .i64 own)) : Calls Try.prog 62 #[.int .i64 x, .pointer (some ⟨bx, 0, none⟩)] w (fun e w' => e = .returned (.bool (decide (x ≤ own))) ∧ w' = w) := by
  by_cases hx : x ≤ own
  · go_enter Try.func62, Try.ntmps62
    go_wp2
    go_ret
    exact ⟨retB (by simp [hx]), rfl⟩
  · go_enter Try.func62, Try.ntmps62
    go_wp2
    go_ret
    exact ⟨retB (by simp [hx]), rfl⟩

theorem SumTail1_any (x own : Int) (bx : Nat) (w : World) (h : w.cell? ⟨bx, 0, none⟩ = some (.int .i64 own)) : Calls Try.prog 56 #[.int .i64 x, .pointer (some ⟨bx, 0, none⟩)] w (fun e w' => e = .returned (.bool (decide (own ≤ x))) ∧ w' = w) := by
  by_cases hx : own ≤ x
  · go_enter Try.func56, Try.ntmps56
    go_wp2
    go_ret
    exact ⟨retB (by simp [hx]), rfl⟩
  · go_enter Try.func56, Try.ntmps56
    go_wp2
    go_ret
    exact ⟨retB (by simp [hx]), rfl⟩

/-- the tests that are handed over, with the box of their number -/
def testTo (g : Nat) (own : Int) (P : Int → Bool) : Prop := (g = 53 ∧ P = fun x => decide (x ≤ own)) ∨ (g = 62 ∧ P = fun x => decide (x ≤ own)) ∨ (g = 56 ∧ P = fun x => decide (own ≤ x))
set_option maxRecDepth 100000 in
set_option maxHeartbeats 1600000 in
theorem countWhere_any (g : Nat) (P : Int → Bool) (own : Int) (hgP : testTo g own P) (f : Int → Int) (S b n bx : Nat) (D : DU) (w : World) (hm : OM w b n D) (hi : MapIs D f S) (hx : w.cell? ⟨bx, 0, none⟩ = some (.int .i64 own)) :
    Calls Try.prog 51 #[.map (some b), .func (.func g) #[] #[.pointer (some ⟨bx, 0, none⟩)]] w (fun e w' => e = .returned (.int .i64 (IntKind.i64.wrap (sumF (fun j => if P ((j : Int) - S) = true then f ((j : Int) - S) else 0) (2 * S + 1)))) ∧ Below w.heap.size w w') := by
  have HM := Lib.hid hm
  have HI := Lib.hid hi
  have HX := Lib.hid hx
  have HLX := Lib.hid (lt_of_cell hx)
  have HC : Hid (∀ x W, W.cell? ⟨bx, 0, none⟩ = some (.int .i64 own) → Calls Try.prog g #[.int .i64 x, .pointer (some ⟨bx, 0, none⟩)] W (fun e w' => e = .returned (.bool (P x)) ∧ w' = W)) := Lib.hid fun x W h => by
    rcases hgP with ⟨rfl, rfl⟩ | ⟨rfl, rfl⟩ | ⟨rfl, rfl⟩
    · exact RankTail1_any x own bx W h
    · exact SignedTail2_any x own bx W h
    · exact SumTail1_any x own bx W h
  have hgs : g = 53 ∨ g = 62 ∨ g = 56 := by
    rcases hgP with ⟨h, -⟩ | ⟨h, -⟩ | ⟨h, -⟩
    · exact .inl h
    · exact .inr (.inl h)
    · exact .inr (.inr h)
  obtain ⟨cf, e1⟩ : ∃ cf : (Lit → Bool) → Int, ∀ left, sumF (cntF f P S D left) (2 * S + 1) = cf left := ⟨fun left => sumF (cntF f P S D left) (2 * S + 1), fun _ => rfl⟩
  have H0 : Hid (IntKind.i64.wrap (cf (has D)) = 0) := Lib.hid (by rw [← e1, cnt_start]; rfl)
  have HE : Hid (∀ left, (∀ k, left k = false) → cf left = sumF (fun j => if P ((j : Int) - S) = true then f ((j : Int) - S) else 0) (2 * S + 1)) := Lib.hid fun left hl => by rw [← e1]; exact cnt_end hl hi
  have HS : Hid (∀ (left : Lit → Bool) (s : Int), -(S : Int) ≤ s ∧ s ≤ S → has D (kI s) = true → left (kI s) = true → IntKind.i64.wrap (cf fun z => left z && !z.sameKey (kI s)) = IntKind.i64.wrap (IntKind.i64.wrap (cf left) + (if P s = true then f s else 0))) := Lib.hid fun left s h1 h2 h3 => by rw [← e1, ← e1, cnt_step h1 h2 h3, wrap_add]
  clear hm hi hx hgP
  generalize sumF (fun j => if P ((j : Int) - S) = true then f ((j : Int) - S) else 0) (2 * S + 1) = tot at *
  clear e1
  rcases hgs with rfl | rfl | rfl
  all_goals
    go_enter Try.func51, Try.ntmps51
    go_wp2_with (at_range; refine wpList_range_own _ rfl _ 78 rfl 2 2 keyed Try.underlying78 _ b n _ rfl HM.out ?_; intro w0 hrg0 hg0 hs0)
    have START := Lib.hid (show w0.ranges Try.prog 2 (plainElem (H := Unit) Try.prog 2) b w.heap.size n D (has D) (Maps.size D) ∧ w.grownBy w0 none ∧ Value.int .i64 0 = .int .i64 (IntKind.i64.wrap (cf (has D))) from ⟨hrg0, hg0, by rw [H0.out]⟩)
    clear hrg0 hg0 hs0 HM
    go_loopw [5] (fun v wr => ∃ (left : Lit → Bool) (cnt : Nat), wr.ranges Try.prog 2 (plainElem (H := Unit) Try.prog 2) b w.heap.size n D left cnt ∧ w.grownBy wr none ∧ v = .int .i64 (IntKind.i64.wrap (cf left))) (fun _ wr => wr.rangeLeft b w.heap.size)
    case atStart => exact ⟨_, _, START.out.1, START.out.2.1, START.out.2.2⟩
    case round =>
      clear START
      obtain ⟨left, cnt, hrg, hgw, rfl⟩ := hrel
      rename World => wz
      have HRG := Lib.hid hrg
      have HGW := Lib.hid hgw
      clear hrg hgw
      go_wp2_with (at_next; refine wpList_next_ranges_ii _ rfl _ rfl 2 2 .i64 .i64 keyed Try.underlying2 Try.underlying2 b w.heap.size n _ _ _ rfl HRG.out ?_ ?_)
      · intro _ hl0
        have H9 := Lib.hid (HE.out _ hl0)
        have B9 := Lib.hid ((Below.refl w.heap.size w).grown HGW.out (Nat.le_refl _) (by simp))
        clear hl0
        go_wp2_with fail
        go_ret
        rw [H9.out]
        exact ⟨rfl, B9.out⟩
      · intro s c1 w1 cnt1 hwx hwc hlx hat hrg1 hlt1 hg1 hs1 hen
        have hh := has_true_of_atKey hat
        have hx0 := HI.out.2.1 s hh
        have hc1 : c1 = f s := by
          have h1 := HI.out.2.2 s
          rw [show D.atKey (kI s) (.lit (.int .i64 0)) = .lit (.int .i64 c1) from hat _] at h1
          injection h1 with h1
          injection h1
        have HSS := Lib.hid (HS.out left s hx0 hh hlx)
        have HRG1 := Lib.hid hrg1
        have HLT1 := Lib.hid hlt1
        have HGW1 := Lib.hid (HGW.out.andThen hg1 (fun j hj => by cases hj; exact Or.inl (Nat.le_refl _)))
        have HX1 : Hid (w1.cell? ⟨bx, 0, none⟩ = some (.int .i64 own)) := Lib.hid (by rw [HGW1.out.cell_far _ HLX.out (by simp)]; exact HX.out)
        clear hx0 hat hh hlx hrg1 hlt1 hg1 HI
        have HCS := Lib.hid (HC.out s w1 HX1.out)
        cases hso : P s with
        | true =>
          rw [hso] at HCS
          rw [if_pos hso, ← hc1] at HSS
          clear hc1 hso
          go_wp2_with ((with_reducible refine HCS.out.mono ?_); rintro e w' ⟨rfl, rfl⟩)
          go_roundw
          case rel => exact ⟨_, _, HRG1.out, HGW1.out, by simp only [w64]; rw [show (Lit.int IntKind.i64 s) = kI s from rfl, HSS.out]⟩
          case measure => rw [HRG1.out.left_eq, HRG.out.left_eq]; exact HLT1.out
        | false =>
          rw [hso] at HCS
          rw [if_neg (by rw [hso]; simp), Int.add_zero, wrap_of_ok (wrap_ok _)] at HSS
          clear hc1 hso
          go_wp2_with ((with_reducible refine HCS.out.mono ?_); rintro e w' ⟨rfl, rfl⟩)
          go_roundw
          case rel => exact ⟨_, _, HRG1.out, HGW1.out, by rw [show (Lit.int IntKind.i64 s) = kI s from rfl, HSS.out]⟩
          case measure => rw [HRG1.out.left_eq, HRG.out.left_eq]; exact HLT1.out
end Go.Proofs.Ytfkjnaaplhcheaa.Sb

namespace Go.Proofs.Ytfkjnaaplhcheaa.Sb
open Go Go.RowKit Go.Maps Go.WideShapes

theorem tail_is (rs : List Int) (k : Nat) (P : Int → Bool) (h40 : rs.length ≤ 40) :
    IntKind.i64.wrap (sumF (fun j => if P ((j : Int) - (sabs rs rs.length : Nat)) = true then wyZ rs rs.length k ((j : Int) - (sabs rs rs.length : Nat)) else 0) (2 * sabs rs rs.length + 1)) = ((subs rs k).countP P : Nat) := by
  have hp := subs_perm (List.reverse_perm rs) k
  have h1 := count_sum P (sabs rs rs.length) (subs rs.reverse k) (fun x hx => by
    have h2 := subs_in _ _ _ hx
    have h3 : (rs.reverse.map Int.natAbs).sum = sabs rs rs.length := by
      unfold sabs
      rw [List.take_length, List.map_reverse, List.sum_reverse]
    rw [h3] at h2
    exact h2)
  have h4 : ∀ x, wyZ rs rs.length k x = ((subs rs.reverse k).count x : Nat) := fun x => by unfold wyZ; rw [List.take_length]
  simp only [h4]
  rw [h1, hp.countP_eq]
  have h5 := List.countP_le_length (p := P) (l := subs rs k)
  have h6 := subs_few rs k
  have h7 := two_few h40
  exact wrap_of_ok (by unfold okI; omega)
def ranksI (l : List Int) : List Int := (ranksN l).map fun (n : Nat) => (n : Int)
theorem nlv_il (l : List Nat) : nlv l = il (l.map fun (n : Nat) => (n : Int)) := by simp [nlv, il]
theorem ranksI_len (l : List Int) : (ranksI l).length = l.length := by simp [ranksI, ranksN_len]
theorem ranksI_abs (l : List Int) : sabs (ranksI l) (ranksI l).length = (ranksN l).sum := by
  unfold sabs ranksI
  rw [List.take_length, List.map_map]
  congr 1
  refine (List.map_congr_left fun x _ => ?_).trans (List.map_id _)
  simp
set_option maxRecDepth 100000 in
set_option maxHeartbeats 1600000 in
theorem RanksOf_ok (A : Option Addr) (xs : List Int) (c : Nat) (w : World) (hl : xs.length ≤ 40) (h : Rd w w.heap.size A (il xs)) (hs : sampB xs = true) :
    Calls Try.prog 10 #[.slice A xs.length c] w (fun e w' => ∃ A' c', e = .returned (.tuple #[.slice A' xs.length c', .bool true]) ∧ w'.ownsRow w.heap.size 2 1 (.slice A' xs.length c') xs.length (il (ranksI xs)) ∧ Below w.heap.size w w') := by
  have H : Hid (Calls Try.prog 46 #[.slice A xs.length c] w (Quiet (.bool true) w)) := Lib.hid (by
    have := isSample_any A xs c w (by omega) h
    rw [hs] at this
    exact this)
  have HRK := Lib.hid fun (m : Nat) => ranksOf_any A xs c (w.drewN m) hl (h.drewN m)
  unfold rkOut at HRK
  have HE : Hid (nlv (ranksN xs) = il (ranksI xs)) := Lib.hid (nlv_il _)
  clear h hs
  generalize xs.length = n at *
  generalize nlv (ranksN xs) = R at *
  go_enter Try.func10, Try.ntmps10
  go_wp2_with (first
    | (go_at_call 46; refine H.out.mono ?_; rintro e w1 ⟨rfl, m, rfl⟩)
    | (go_at_call 47; refine (HRK.out _).mono ?_; rintro e w2 ⟨A2, c2, rfl, ho2, hb2⟩; have O2 := Lib.hid ho2; have B2 := Lib.hid (below_next (below_dn (Below.refl _ _) _) hb2); clear ho2 hb2))
  go_ret2
  exact ⟨A2, c2, rfl, by rw [← HE.out]; exact O2.out, B2.out⟩
def rtOut (p q : Int) (ok : Bool) (w : World) : Ending → World → Prop := fun e w' => e = .returned (.tuple #[.int .i64 p, .int .i64 q, .bool ok]) ∧ Below w.heap.size w w'
/-- in how many choices of so many the sum is as a test has it -/
def tailN (rs : List Int) (k : Nat) (P : Int → Bool) : Nat := (subs rs k).countP P
set_option maxRecDepth 100000 in
set_option maxHeartbeats 1600000 in
theorem RankTail_ok (A B : Option Addr) (xs ys : List Int) (c d : Nat) (w : World) (h : Rd w w.heap.size A (il xs)) (h' : Rd w w.heap.size B (il ys)) (hb : sampsB xs ys = true) : Calls Try.prog 12 #[.slice A xs.length c, .slice B ys.length d] w (rtOut (tailN (ranksI (xs ++ ys)) xs.length fun s => decide (s ≤ (rankSumB xs ys : Nat)) : Nat) (pas (xs.length + ys.length) xs.length : Nat) true w) := by
  obtain ⟨⟨x1, x2⟩, ⟨y1, y2⟩, xy⟩ := sampsB_len hb
  have H := Lib.hid (RankSum_ok A B xs ys c d w (by omega) (by omega) h h' hb)
  unfold rsOut at H
  have hlen : (xs ++ ys).length = xs.length + ys.length := List.length_append
  have HCC := Lib.hid fun W hA hB => Concat_any W.heap.size 2 [(xs, (A, c)), (ys, (B, d))] (W.alloc (.cells #[.slice A xs.length c, .slice B ys.length d] 25)) (lq_two W A B xs ys c d hA hB) (by simp [csO]; omega) (by simp)
  have HRK := Lib.hid fun A c W h => ranksOf_any A (xs ++ ys) c W (by omega) h
  have hrl : (ranksI (xs ++ ys)).length = xs.length + ys.length := by rw [ranksI_len, hlen]
  have hrs := ranks_sum (xs := xs ++ ys) (by omega)
  have HWT := Lib.hid fun A c W h => waysTo_any A (ranksI (xs ++ ys)) xs.length c W (by omega) (by omega) (by rw [ranksI_abs]; omega) h
  have HCW : Hid (∀ b bx D W, OM W b (2 ^ (ranksI (xs ++ ys)).length) D → MapIs D (wyZ (ranksI (xs ++ ys)) (ranksI (xs ++ ys)).length xs.length) (sabs (ranksI (xs ++ ys)) (ranksI (xs ++ ys)).length) → W.cell? ⟨bx, 0, none⟩ = some (.int .i64 (rankSumB xs ys : Nat)) → Calls Try.prog 51 #[.map (some b), .func (.func 53) #[] #[.pointer (some ⟨bx, 0, none⟩)]] W (fun e w' => e = .returned (.int .i64 (tailN (ranksI (xs ++ ys)) xs.length fun s => decide (s ≤ (rankSumB xs ys : Nat)) : Nat)) ∧ Below W.heap.size W w')) := Lib.hid fun b bx D W hm hi hx => by
    have h9 := countWhere_any 53 _ _ (.inl ⟨rfl, rfl⟩) _ _ b _ bx D W hm hi hx
    have h10 := tail_is (ranksI (xs ++ ys)) xs.length (fun s => decide (s ≤ ((rankSumB xs ys : Nat) : Int))) (by omega)
    exact h9.mono fun e w' ⟨he, hb⟩ => ⟨he.trans (congrArg (fun v => Ending.returned (.int .i64 v)) h10), hb⟩
  have hcs : (csO [(xs, (A, c)), (ys, (B, d))]).flatten = xs ++ ys := by simp [csO]
  rw [hcs] at HCC
  have HR1 := Lib.hid h
  have HR2 := Lib.hid h'
  unfold rkOut at HRK
  unfold wtOut at HWT
  have HEQ : nlv (ranksN (xs ++ ys)) = il (ranksI (xs ++ ys)) := nlv_il _
  rw [HEQ] at HRK
  rw [hlen] at HRK HCC
  rw [hrl] at HWT HCW
  have HCH : Hid (∀ W, Calls Try.prog 54 #[.int .i64 ((xs.length : Int) + (ys.length : Int)), .int .i64 (xs.length : Int)] W (fun e w' => e = .returned (.int .i64 (pas (xs.length + ys.length) xs.length : Nat)) ∧ Below W.heap.size W w')) := Lib.hid fun W => by
    have := choices_any (xs.length + ys.length) xs.length (by omega) (by omega) W
    rw [Int.natCast_add] at this
    exact this
  have hw : IntKind.i64.wrap ((xs.length : Int) + (ys.length : Int)) = (xs.length : Int) + (ys.length : Int) := IntWalk.i64_in _ (by omega)
  clear h h' hb hlen hcs hrs hrl HEQ
  generalize (tailN (ranksI (xs ++ ys)) xs.length fun s => decide (s ≤ ((rankSumB xs ys : Nat) : Int))) = tail at *
  generalize rankSumB xs ys = own at *
  generalize pas (xs.length + ys.length) xs.length = ch at *
  generalize ranksI (xs ++ ys) = rs at *
  generalize xs ++ ys = zs at *
  go_enter Try.func12, Try.ntmps12
  go_upto_region 2 with (go_at_call 11; refine H.out.mono ?_; rintro e w1 ⟨rfl, hb1⟩; have B1 := Lib.hid hb1; clear hb1)
  have B2 := Lib.hid (below_al B1.out (.cells #[.int .i64 own] 2))
  have y0 : (w1.alloc (.cells #[.int .i64 own] 2)).cell? ⟨w1.heap.size, 0, none⟩ = some (.int .i64 own) := by
    rw [World.cell?_alloc_new]
    rfl
  have HRA := Lib.hid (HR1.out.at_ B2.out)
  have HRB := Lib.hid (HR2.out.at_ B2.out)
  have HBX := Lib.hid y0
  clear y0 B1
  generalize hW2 : w1.alloc (.cells #[.int .i64 own] 2) = W2 at *
  generalize w1.heap.size = bx at *
  have hmf : ∀ (fn : Fn) (first cap : Array Value) (w : World), (Instr.makeFunc fn first cap).run Try.prog w = .ok (.func fn first cap) w := fun _ _ _ _ => rfl
  clear hW2
  go_wp2_with (first
    | (go_at_call 50; refine (HCC.out _ HRA.out HRB.out).mono ?_; rintro e w2 ⟨A2, c2, rfl, ho2, hb2⟩; have O2 := Lib.hid ho2; have B3 := Lib.hid (below_next (below_al (Below.refl _ _) _) hb2); clear ho2 hb2)
    | (go_at_call 47; refine (HRK.out _ _ _ (Rd.of_own O2.out)).mono ?_; rintro e w3 ⟨A3, c3, rfl, ho3, hb3⟩; have O3 := Lib.hid ho3; have B4 := Lib.hid (below_next B3.out hb3); clear ho3 hb3)
    | (go_at_call 52; refine (HWT.out _ _ _ (Rd.of_own O3.out)).mono ?_; rintro e w4 ⟨b4, D4, rfl, hm4, hi4, hb4⟩; have M4 := Lib.hid hm4; have I4 := Lib.hid hi4; have B5 := Lib.hid (below_next B4.out hb4); clear hm4 hi4 hb4)
    | (go_at_call 51; refine (HCW.out _ _ _ _ M4.out I4.out (keepC B5.out HBX.out)).mono ?_; rintro e w5 ⟨rfl, hb5⟩; have B6 := Lib.hid (below_next B5.out hb5); clear hb5)
    | (go_at_call 54; refine (HCH.out _).mono ?_; rintro e w6 ⟨rfl, hb6⟩; have B7 := Lib.hid (below_next B6.out hb6); clear hb6))
  go_ret3
  exact ⟨rfl, below_next B2.out B7.out⟩
set_option maxHeartbeats 1600000 in
theorem areSamples12_any (A B : Option Addr) (xs ys : List Int) (c d : Nat) (w : World) (h : Rd w w.heap.size A (il xs)) (h' : Rd w w.heap.size B (il ys)) (hx : sampB xs = true) (hy : sampB ys = true) (hxx : xs.length ≤ 1048576) (hyy : ys.length ≤ 1048576) (hl : xs.length + ys.length ≤ 12) : Calls Try.prog 48 #[.slice A xs.length c, .slice B ys.length d, .int .i64 12] w (Quiet (.bool true) w) := by
  have H : Hid (∀ A xs c w, xs.length ≤ 1048576 → sampB xs = true → Rd w w.heap.size A (il xs) → Calls Try.prog 46 #[.slice A xs.length c] w (Quiet (.bool true) w)) := Lib.hid fun A xs c w hx hs h => by
    have := isSample_any A xs c w (by omega) h
    rw [hs] at this
    exact this
  have HX := Lib.hid hx
  have HY := Lib.hid hy
  clear hx hy
  go_enter Try.func48, Try.ntmps48
  go_wp2_with (go_at_call 46; refine (H.out _ _ _ _ (by assumption) (by first | exact HX.out | exact HY.out) (by first | exact h | exact h'.drewN _)).mono ?_; rintro e w' ⟨rfl, n, rfl⟩)
  go_ret
  exact ⟨retB (by simp; omega), _, rfl⟩
theorem sampB_small {xs : List Int} (h : sampB xs = true) : smallL xs := by
  unfold sampB at h
  simp only [Bool.and_eq_true, decide_eq_true_eq] at h
  intro x hx
  have := List.all_eq_true.1 h.2 x hx
  unfold inB at this
  simpa using this
theorem sabs_le {l : List Int} (h : smallL l) : sabs l l.length ≤ 1000 * l.length := by
  unfold sabs
  rw [List.take_length]
  induction l with
  | nil => simp
  | cons x l ih =>
    have h1 := h x List.mem_cons_self
    have h2 := ih fun y hy => h y (List.mem_cons_of_mem _ hy)
    rw [List.map_cons, List.sum_cons, List.length_cons]
    omega
set_option maxRecDepth 100000 in
set_option maxHeartbeats 1600000 in
theorem SumTail_ok (A B : Option Addr) (xs ys : List Int) (c d : Nat) (w : World) (h : Rd w w.heap.size A (il xs)) (h' : Rd w w.heap.size B (il ys)) (hx : sampB xs = true) (hy : sampB ys = true) (x1 : 1 ≤ xs.length) (y1 : 1 ≤ ys.length) (hl : xs.length + ys.length ≤ 12) : Calls Try.prog 15 #[.slice A xs.length c, .slice B ys.length d] w (rtOut (tailN (xs ++ ys) xs.length fun s => decide (sumZ xs xs.length ≤ s) : Nat) (pas (xs.length + ys.length) xs.length : Nat) true w) := by
  have H := Lib.hid (areSamples12_any A B xs ys c d w h h' hx hy (by omega) (by omega) hl)
  have HTO := Lib.hid fun W (h : Rd W W.heap.size A (il xs)) => totalZ_any A xs c W (by omega) (sampB_small hx) h
  have hlen : (xs ++ ys).length = xs.length + ys.length := List.length_append
  have HCC := Lib.hid fun W hA hB => Concat_any W.heap.size 2 [(xs, (A, c)), (ys, (B, d))] (W.alloc (.cells #[.slice A xs.length c, .slice B ys.length d] 25)) (lq_two W A B xs ys c d hA hB) (by simp [csO]; omega) (by simp)
  have hsm : smallL (xs ++ ys) := fun x hx' => by
    rcases List.mem_append.1 hx' with h9 | h9
    · exact sampB_small hx x h9
    · exact sampB_small hy x h9
  have HWT := Lib.hid fun A c W h => waysTo_any A (xs ++ ys) xs.length c W (by omega) (by omega) (by have := sabs_le hsm; omega) h
  have HCW : Hid (∀ b bx D W, OM W b (2 ^ (xs ++ ys).length) D → MapIs D (wyZ (xs ++ ys) (xs ++ ys).length xs.length) (sabs (xs ++ ys) (xs ++ ys).length) → W.cell? ⟨bx, 0, none⟩ = some (.int .i64 (sumZ xs xs.length)) → Calls Try.prog 51 #[.map (some b), .func (.func 56) #[] #[.pointer (some ⟨bx, 0, none⟩)]] W (fun e w' => e = .returned (.int .i64 (tailN (xs ++ ys) xs.length fun s => decide (sumZ xs xs.length ≤ s) : Nat)) ∧ Below W.heap.size W w')) := Lib.hid fun b bx D W hm hi hx => by
    have h9 := countWhere_any 56 _ _ (.inr (.inr ⟨rfl, rfl⟩)) _ _ b _ bx D W hm hi hx
    have h10 := tail_is (xs ++ ys) xs.length (fun s => decide (sumZ xs xs.length ≤ s)) (by omega)
    exact h9.mono fun e w' ⟨he, hb⟩ => ⟨he.trans (congrArg (fun v => Ending.returned (.int .i64 v)) h10), hb⟩
  have hcs : (csO [(xs, (A, c)), (ys, (B, d))]).flatten = xs ++ ys := by simp [csO]
  rw [hcs] at HCC
  have HR1 := Lib.hid h
  have HR2 := Lib.hid h'
  unfold wtOut at HWT
  rw [hlen] at HCC HWT HCW
  have HCH : Hid (∀ W, Calls Try.prog 54 #[.int .i64 ((xs.length : Int) + (ys.length : Int)), .int .i64 (xs.length : Int)] W (fun e w' => e = .returned (.int .i64 (pas (xs.length + ys.length) xs.length : Nat)) ∧ Below W.heap.size W w')) := Lib.hid fun W => by
    have := choices_any (xs.length + ys.length) xs.length (by omega) (by omega) W
    rw [Int.natCast_add] at this
    exact this
  have hw : IntKind.i64.wrap ((xs.length : Int) + (ys.length : Int)) = (xs.length : Int) + (ys.length : Int) := IntWalk.i64_in _ (by omega)
  clear h h' hx hy hlen hcs hsm
  generalize (tailN (xs ++ ys) xs.length fun s => decide (sumZ xs xs.length ≤ s)) = tail at *
  generalize sumZ xs xs.length = own at *
  generalize pas (xs.length + ys.length) xs.length = ch at *
  generalize xs ++ ys = zs at *
  go_enter Try.func15, Try.ntmps15
  go_upto_region 3 with (go_at_call 48; refine H.out.mono ?_; rintro e w0 ⟨rfl, m0, rfl⟩)
  have B1 := Lib.hid (below_dn (Below.refl w.heap.size w) m0)
  have HR0 : Hid (Rd (w.drewN m0) (w.drewN m0).heap.size A (il xs)) := Lib.hid (HR1.out.drewN m0)
  generalize w.drewN m0 = w1 at *
  go_upto_region 4 with (go_at_call 49; refine (HTO.out _ HR0.out).mono ?_; rintro e w2 ⟨rfl, rfl⟩)
  have B2 := Lib.hid (below_al B1.out (.cells #[.int .i64 own] 2))
  have y0 : (w1.alloc (.cells #[.int .i64 own] 2)).cell? ⟨w1.heap.size, 0, none⟩ = some (.int .i64 own) := by
    rw [World.cell?_alloc_new]
    rfl
  have HRA := Lib.hid (HR1.out.at_ B2.out)
  have HRB := Lib.hid (HR2.out.at_ B2.out)
  have HBX := Lib.hid y0
  clear y0 B1
  generalize hW2 : w1.alloc (.cells #[.int .i64 own] 2) = W2 at *
  generalize w1.heap.size = bx at *
  have hmf : ∀ (fn : Fn) (first cap : Array Value) (w : World), (Instr.makeFunc fn first cap).run Try.prog w = .ok (.func fn first cap) w := fun _ _ _ _ => rfl
  clear hW2
  go_wp2_with (first
    | (go_at_call 50; refine (HCC.out _ HRA.out HRB.out).mono ?_; rintro e w2 ⟨A2, c2, rfl, ho2, hb2⟩; have O2 := Lib.hid ho2; have B3 := Lib.hid (below_next (below_al (Below.refl _ _) _) hb2); clear ho2 hb2)
    | (go_at_call 52; refine (HWT.out _ _ _ (Rd.of_own O2.out)).mono ?_; rintro e w4 ⟨b4, D4, rfl, hm4, hi4, hb4⟩; have M4 := Lib.hid hm4; have I4 := Lib.hid hi4; have B5 := Lib.hid (below_next B3.out hb4); clear hm4 hi4 hb4)
    | (go_at_call 51; refine (HCW.out _ _ _ _ M4.out I4.out (keepC B5.out HBX.out)).mono ?_; rintro e w5 ⟨rfl, hb5⟩; have B6 := Lib.hid (below_next B5.out hb5); clear hb5)
    | (go_at_call 54; refine (HCH.out _).mono ?_; rintro e w6 ⟨rfl, hb6⟩; have B7 := Lib.hid (below_next B6.out hb6); clear hb6))
  go_ret3
  exact ⟨rfl, below_next B2.out B7.out⟩
end Go.Proofs.Ytfkjnaaplhcheaa.Sb

namespace Go.Proofs.Ytfkjnaaplhcheaa.Sb
open Go Go.RowKit Go.Maps Go.WideShapes

def sgn (n : Nat) : Nat → Nat
  | 0 => 0
  | j + 1 => sgn n j + 2 * pas n j
theorem sgn_le {n : Nat} (h : n ≤ 40) : ∀ j, j ≤ 21 → sgn n j ≤ j * 2199023255552
  | 0, _ => Nat.le_refl _
  | j + 1, hj => by
    have h1 := sgn_le h j (by omega)
    have h2 := pas_le n j
    have h3 := two_few h
    show sgn n j + 2 * pas n j ≤ _
    omega
/-- how many signs are as rare -/
def signV (a b : Nat) : Nat := if a + b ≤ 2 * min a b then 2 ^ (a + b) else sgn (a + b) (min a b + 1)
set_option maxRecDepth 100000 in
set_option maxHeartbeats 3200000 in
theorem SignTail_ok (a b : Nat) (ha : a ≤ 20) (hb : b ≤ 20) (w : World) : Calls Try.prog 19 #[.int .i64 a, .int .i64 b] w (rtOut (signV a b : Nat) (2 ^ (a + b) : Nat) true w) := by
  have HCH : Hid (∀ k, k ≤ a + b → ∀ W, Calls Try.prog 54 #[.int .i64 ((a + b : Nat) : Int), .int .i64 (k : Int)] W (fun e w' => e = .returned (.int .i64 (pas (a + b) k : Nat)) ∧ Below W.heap.size W w')) := Lib.hid fun k hk W => choices_any (a + b) k (by omega) hk W
  have w1 : IntKind.i64.wrap ((a : Int) + (b : Int)) = ((a + b : Nat) : Int) := by rw [show (a : Int) + (b : Int) = ((a + b : Nat) : Int) by push_cast; rfl]; exact IntWalk.i64_in _ (by omega)
  have HV : Hid (signV a b = if a + b ≤ 2 * min a b then 2 ^ (a + b) else sgn (a + b) (min a b + 1)) := Lib.hid rfl
  have HSL := Lib.hid fun j (hj : j ≤ 21) => sgn_le (n := a + b) (by omega) j hj
  have HP := Lib.hid (two_few (i := a + b) (by omega))
  have HPL : Hid (∀ k, pas (a + b) k ≤ 1099511627776) := Lib.hid fun k => Nat.le_trans (pas_le _ _) HP.out
  have HSC : Hid (∀ j, sgn (a + b) (j + 1) = sgn (a + b) j + 2 * pas (a + b) j) := Lib.hid fun j => rfl
  have HS0 : Hid (sgn (a + b) 0 = 0) := Lib.hid rfl
  have hcase : (min a b = a ∧ ¬ (b : Int) < (a : Int)) ∨ (min a b = b ∧ (b : Int) < (a : Int)) := by omega
  have hsh : wrap64 ((2 : Int) ^ (a + b)) = (2 : Int) ^ (a + b) := by
    rw [w64]
    have h1 := HP.out
    have h2 : ((2 ^ (a + b) : Nat) : Int) = (2 : Int) ^ (a + b) := by push_cast; rfl
    rw [← h2]
    generalize 2 ^ (a + b) = q at *
    exact IntWalk.i64_in _ (by omega)
  have HPI : Hid (((2 ^ (a + b) : Nat) : Int) = (2 : Int) ^ (a + b)) := Lib.hid (by push_cast; rfl)
  rw [HPI.out]
  have hr : min a b ≤ 20 := by omega
  have hrn : min a b ≤ a + b := by omega
  have n1 : ¬ (a : Int) < 0 := by omega
  have n2 : ¬ (b : Int) < 0 := by omega
  have n3 : ¬ (60 : Int) < (a : Int) := by omega
  have n4 : ¬ (60 : Int) < (b : Int) := by omega
  have hn : a + b ≤ 40 := by omega
  unfold rtOut
  generalize hV : signV a b = V at *
  clear hV
  generalize sgn (a + b) = sg at *
  generalize pas (a + b) = pa at *
  generalize hr0 : min a b = r at *
  clear hr0
  generalize hN : a + b = n at *
  have n5 : ¬ (60 : Int) < (n : Int) := by omega
  have hN' := Lib.hid hN
  clear hN
  generalize hAL : (2 : Int) ^ n = AL at *
  have hr1 : IntKind.i64.wrap ((r : Int) + 1) = ((r + 1 : Nat) : Int) := by rw [show (r : Int) + 1 = ((r + 1 : Nat) : Int) by push_cast; rfl]; exact IntWalk.i64_in _ (by omega)
  have hr2 : IntKind.i64.wrap (2 * (r : Int)) = 2 * (r : Int) := IntWalk.i64_in _ (by omega)
  by_cases hq : n ≤ 2 * r
  · have e := HV.out
    rw [if_pos hq] at e
    have E : Hid ((V : Int) = AL) := Lib.hid (by rw [e, HPI.out])
    clear e HV
    have hqz : (n : Int) ≤ 2 * (r : Int) := by omega
    rcases hcase with ⟨hra, hlt⟩ | ⟨hra, hlt⟩
    all_goals
      subst hra
      go_enter Try.func19, Try.ntmps19
      go_wp2_with fail
      go_ret3
      rw [E.out]
      exact ⟨rfl, Below.refl _ _⟩
  · have e := HV.out
    rw [if_neg hq] at e
    have E := Lib.hid e
    clear e HV
    have hqz : ¬ (n : Int) ≤ 2 * (r : Int) := by omega
    have START : Hid ((0 : Int) = (sg 0 : Nat)) := Lib.hid (by rw [HS0.out]; rfl)
    rcases hcase with ⟨hra, hlt⟩ | ⟨hra, hlt⟩
    all_goals
      subst hra
      go_enter Try.func19, Try.ntmps19
      go_wp2_with fail
      go_loopw [10, 11, 48] (fun pv _ jv wr => ∃ j : Nat, j ≤ r + 1 ∧ jv = .int .i64 j ∧ pv = .int .i64 (sg j : Nat) ∧ Below w.heap.size w wr) (fun _ _ jv _ => r + 1 - (intOf jv).toNat)
      case atStart => exact ⟨0, by omega, rfl, by rw [← START.out], Below.refl _ _⟩
      case round =>
        obtain ⟨j, hj, rfl, rfl, hb⟩ := hrel
        rename World => wr
        have HB := Lib.hid hb
        clear hb
        by_cases hjr : j < r + 1
        · have hl := HSL.out (j + 1) (by omega)
          have hl0 := HSL.out j (by omega)
          have hpl := HPL.out j
          have hsc := HSC.out j
          have w2 : IntKind.i64.wrap (2 * ((pa j : Nat) : Int)) = 2 * ((pa j : Nat) : Int) := IntWalk.i64_in _ (by omega)
          have w3 : IntKind.i64.wrap (((sg j : Nat) : Int) + 2 * ((pa j : Nat) : Int)) = ((sg (j + 1) : Nat) : Int) := by rw [hsc, show ((sg j : Nat) : Int) + 2 * ((pa j : Nat) : Int) = ((sg j + 2 * pa j : Nat) : Int) by push_cast; rfl]; exact IntWalk.i64_in _ (by omega)
          have HCj := Lib.hid (HCH.out j (by omega))
          clear hl hl0 hpl hsc
          generalize hs1 : sg (j + 1) = s1 at *
          have HS1 := Lib.hid hs1
          clear hs1
          generalize sg j = s0 at *
          generalize pa j = p at *
          go_wp2_with (go_at_call 54; refine (HCj.out _).mono ?_; rintro e w6 ⟨rfl, hb6⟩; have HB6 := Lib.hid (below_next HB.out hb6); clear hb6)
          go_roundw
          case rel => exact ⟨j + 1, by omega, by go_num, by rw [HS1.out], HB6.out⟩
          case measure => simp [intOf]; omega
        · obtain rfl : j = r + 1 := by omega
          go_wp2_with fail
          go_ret3
          rw [E.out]
          exact ⟨rfl, HB.out⟩
end Go.Proofs.Ytfkjnaaplhcheaa.Sb

namespace Go.Proofs.Ytfkjnaaplhcheaa.Sb
open Go Go.RowKit Go.Maps Go.WideShapes Go.Sort

theorem Rd.pre {w : World} {B : Nat} {A : Option Addr} {vs us : List Value} (h : Rd w B A (vs ++ us)) : Rd w B A vs := fun h0 => by
  obtain ⟨b, off, e, hb, hc⟩ := h (by rw [List.length_append]; omega)
  exact ⟨b, off, e, hb, fun k hk => by rw [hc k (by rw [List.length_append]; omega), List.getElem_append_left hk]⟩
theorem SignedTail1_any (x : Int) (w : World) : Calls Try.prog 61 #[.int .i64 x] w (Quiet (.bool (x == 0)) w) := by
  by_cases h : x = 0
  · subst h
    go_enter Try.func61, Try.ntmps61
    go_wp2
    go_ret
    exact .mk0
  · have hb : (x == 0) = false := by simpa using h
    go_enter Try.func61, Try.ntmps61
    go_wp2
    go_ret
    exact ⟨retB (by simp [h]), 0, rfl⟩
def nzL (xs : List Int) : List Int := xs.filter fun x => !(x == 0)
theorem delete_nz (xs : List Int) (base g cap : Nat) (w : World) (ho : w.ownsRow base 2 1 (.slice (some ⟨g, 0, none⟩) xs.length cap) xs.length (il xs)) (h1 : xs.length ≤ 64) :
    Calls Try.prog 59 #[.slice (some ⟨g, 0, none⟩) xs.length cap, .func (.func 61) #[] #[]] w (fun e w' => e = .returned (.slice (some ⟨g, 0, none⟩) (nzL xs).length cap) ∧ Rd w' w'.heap.size (some ⟨g, 0, none⟩) (il (nzL xs)) ∧ w.grownBy w' (some g)) := by
  have hlt := (ho.lt g rfl).2
  rcases ho.2 with ⟨hv, _⟩ | ⟨g', cap', cur, hv, hbg', hh, hn, hc, hs, ht⟩
  · cases hv
  · cases hv
    rw [Nat.mul_one] at ht
    have hH := holds_of_blockI hh ht
    have eg : ∀ args w, (callFunc 61 args).run Try.prog w = .ok (.enter 61 args) w := enters_of Try.func61 (by kernel_rfl) rfl
    have hp : PredAt Try.prog 61 #[] (Value.int .i64) (fun x => x == 0) w := fun W x hW => SignedTail1_any x W
    have hpo : PredOver Try.prog 61 #[] (Value.int .i64) (fun x => x == 0) g 0 xs.toArray.size w := fun n os dk x _ => SignedTail1_any x _
    have H := AnyE.slices_DeleteFunc Try.delI (Value.int .i64) (fun _ => rfl) (fun x => x == 0) 61 #[] eg 0 Try.zeroValue2 g 0 cap xs.toArray w hp hpo hH (by simp; omega) (by simpa using hn)
    refine H.mono ?_
    rintro e w' ⟨rfl, q, rfl⟩
    have hl : ((nzL xs) ++ List.replicate (xs.toArray.size - (nzL xs).length) (0 : Int)).length = xs.length := by
      rw [List.length_append, List.length_replicate]
      have : (nzL xs).length ≤ xs.length := List.length_filter_le _ xs
      have e2 : xs.toArray.size = xs.length := List.size_toArray
      omega
    have hown := ownsRow_sortedI (os := #[]) (n := q) hl hbg' hh hn hc hs
    have hgr := grownBy_sortedI (w := w) (g := g) (n := q) (os := #[]) ((nzL xs) ++ List.replicate (xs.toArray.size - (nzL xs).length) (0 : Int)).toArray
    rw [grow_empty] at hown hgr
    refine ⟨rfl, ?_, hgr⟩
    have hrd := Rd.of_own hown
    rw [List.map_append] at hrd
    exact Rd.pre hrd
/-- 'm[k] = v' within a map's literal -/
theorem wpList_insert_own {H : Type} {P : Program} (w : World) {ops : Array Oper} {rest : List Oper} {o : Oper} {a : Act} {Q : Exit → Act → World → Prop}
    (hg : o.guard = none) (m x v : Operand) (t : TypeId) (hop : o.op = Op.insert t m x v)
    (k e : TypeId) (K : Keyed P k) (ht : P.underlying t = some (.map k e)) (R : Value → Option (DataW H × List MemPlace)) (b n : Nat) (D : DataW H)
    (hm : a.eval m = .map (some b)) (hown : w.ownsMap P k R b n D) (hn : n < maxLen) (key val : Value) (kl : Lit) (hx : a.eval x = key) (hv : a.eval v = val) (hkey : keyOf P k key = some kl)
    (d : DataW H) (ps : List MemPlace) (hval : R val = some (d, ps))
    (hK : ∀ w', w'.ownsMap P k R b (n + 1) (D.put kl d) → w.grownBy w' (some b) → wpList P ops Q rest (a.put o.dst undef) w') :
    wpList P ops Q (o :: rest) a w := by
  refine wpList_plain hg fun K' hK' => ?_
  obtain ⟨w', hrun, r1, r2⟩ := hown.update K ht hn hkey hval
  unfold Oper.wp
  simp [execOp, hop, hm, hx, hv, hrun, Result.andThen]
  exact hK' _ _ (hK _ r1 r2)
/-- a map that is partly filled: each entry counts for its own sum and for one with r more -/
def partA (f : Int → Int) (Dp : DU) (left : Lit → Bool) (x : Int) : Int := if has Dp (kI x) && !left (kI x) then f x else 0
def part2 (f : Int → Int) (r : Int) (Dp : DU) (left : Lit → Bool) : Int → Int := fun x => partA f Dp left x + partA f Dp left (x - r)
theorem partA_start (f : Int → Int) (Dp : DU) (x : Int) : partA f Dp (has Dp) x = 0 := by
  unfold partA
  rw [if_neg]
  cases has Dp (kI x) <;> simp
theorem part2_start (f : Int → Int) (r : Int) (Dp : DU) (x : Int) : part2 f r Dp (has Dp) x = 0 := by
  unfold part2
  rw [partA_start, partA_start]
  rfl
theorem partA_end {f : Int → Int} {S : Nat} {Dp : DU} {left : Lit → Bool} (hl : ∀ k, left k = false) (hp : MapIs Dp f S) (x : Int) : partA f Dp left x = f x := by
  unfold partA
  rw [hl]
  cases hh : has Dp (kI x) with
  | true => rfl
  | false => rw [mapIs_none hp hh]; rfl
theorem partA_le {f : Int → Int} {Dp : DU} {left : Lit → Bool} {M : Int} (h0 : 0 ≤ M) (h : ∀ x, 0 ≤ f x ∧ f x ≤ M) (x : Int) : 0 ≤ partA f Dp left x ∧ partA f Dp left x ≤ M := by
  unfold partA
  split
  · exact h x
  · omega
theorem partA_at {f : Int → Int} {s : Int} {Dp : DU} {left : Lit → Bool} (hh : has Dp (kI s) = true) (hl : left (kI s) = true) : partA f Dp left s = 0 ∧ partA f Dp (fun z => left z && !z.sameKey (kI s)) s = f s := by
  have hsk : (kI s).sameKey (kI s) = true := by rw [sameKey_kI]; simp
  unfold partA
  simp [hh, hl, hsk]
theorem partA_ne {f : Int → Int} {s x : Int} {Dp : DU} {left : Lit → Bool} (hx : x ≠ s) : partA f Dp (fun z => left z && !z.sameKey (kI s)) x = partA f Dp left x := by
  have hne : decide (x = s) = false := decide_eq_false hx
  unfold partA
  simp only [sameKey_kI, hne, Bool.not_false, Bool.and_true]
/-- the first of the two stores -/
def part1 (f : Int → Int) (r : Int) (Dp : DU) (left : Lit → Bool) (s : Int) : Int → Int := updF (part2 f r Dp left) s (part2 f r Dp left s + f s)
theorem part2_step {f : Int → Int} {r s : Int} {Dp : DU} {left : Lit → Bool} (hr : r ≠ 0) (hh : has Dp (kI s) = true) (hl : left (kI s) = true) (x : Int) :
    updF (part1 f r Dp left s) (s + r) (part1 f r Dp left s (s + r) + f s) x = part2 f r Dp (fun z => left z && !z.sameKey (kI s)) x := by
  obtain ⟨h1, h2⟩ := partA_at (f := f) hh hl
  unfold updF
  by_cases hx : x = s + r
  · rw [if_pos hx, hx]
    unfold part1 updF
    rw [if_neg (show ¬ s + r = s by omega)]
    unfold part2
    rw [partA_ne (show s + r ≠ s by omega), show s + r - r = s by omega, h1, h2]
    omega
  · rw [if_neg hx]
    unfold part1 updF
    by_cases hs : x = s
    · rw [if_pos hs, hs]
      unfold part2
      rw [h1, h2, partA_ne (show s - r ≠ s by omega)]
      omega
    · rw [if_neg hs]
      unfold part2
      rw [partA_ne hs, partA_ne (show x - r ≠ s by omega)]
theorem part2_le {f : Int → Int} {r : Int} {Dp : DU} {left : Lit → Bool} {M : Int} (h0 : 0 ≤ M) (h : ∀ x, 0 ≤ f x ∧ f x ≤ M) (x : Int) : 0 ≤ part2 f r Dp left x ∧ part2 f r Dp left x ≤ 2 * M := by
  have h1 := partA_le (Dp := Dp) (left := left) h0 h x
  have h2 := partA_le (Dp := Dp) (left := left) h0 h (x - r)
  unfold part2
  omega
theorem part1_le {f : Int → Int} {r s : Int} {Dp : DU} {left : Lit → Bool} {M : Int} (h0 : 0 ≤ M) (h : ∀ x, 0 ≤ f x ∧ f x ≤ M) (x : Int) : 0 ≤ part1 f r Dp left s x ∧ part1 f r Dp left s x ≤ 3 * M := by
  have h1 := part2_le (r := r) (Dp := Dp) (left := left) h0 h x
  have h2 := part2_le (r := r) (Dp := Dp) (left := left) h0 h s
  have h3 := h s
  unfold part1 updF
  split <;> omega
/-- the table of counts of all choices of the first j -/
def awZ (rs : List Int) (j : Nat) (x : Int) : Int := ((allS (rs.take j).reverse).count x : Nat)
theorem awZ_le (rs : List Int) (j : Nat) (x : Int) : 0 ≤ awZ rs j x ∧ awZ rs j x ≤ ((2 ^ j : Nat) : Int) := by
  unfold awZ
  have h1 := List.count_le_length (a := x) (l := allS (rs.take j).reverse)
  rw [allS_len] at h1
  have h3 : 2 ^ (rs.take j).reverse.length ≤ 2 ^ j := Nat.pow_le_pow_right (by omega) (by rw [List.length_reverse, List.length_take]; omega)
  omega
theorem awZ_zero (rs : List Int) (x : Int) : awZ rs 0 x = if x = 0 then 1 else 0 := by
  unfold awZ
  rw [List.take_zero, List.reverse_nil]
  by_cases h : x = 0
  · subst h
    simp [allS]
  · rw [if_neg h]
    simp [allS, List.count_cons]
    omega
theorem awZ_s {rs : List Int} {j : Nat} (hj : j < rs.length) (x : Int) : awZ rs (j + 1) x = awZ rs j x + awZ rs j (x - rs.getD j 0) := by
  have e : (rs.take (j + 1)).reverse = rs.getD j 0 :: (rs.take j).reverse := by
    rw [List.take_succ_eq_append_getElem hj, List.reverse_append, List.getD_eq_getElem?_getD, List.getElem?_eq_getElem hj]
    rfl
  show ((_ : Nat) : Int) = ((_ : Nat) : Int) + ((_ : Nat) : Int)
  rw [e, allS, List.count_append, count_shift]
  omega
theorem allS_perm {l l' : List Int} (h : l.Perm l') : (allS l).Perm (allS l') := by
  induction h with
  | nil => exact .refl _
  | cons x _ ih => exact ih.append (ih.map _)
  | swap x y l =>
    simp only [allS, List.map_append, List.map_map]
    have e : ((fun s => s + y) ∘ fun s => s + x) = ((fun s => s + x) ∘ fun s : Int => s + y) := by
      funext s
      simp only [Function.comp]
      omega
    rw [e, ← List.append_assoc, ← List.append_assoc]
    refine List.Perm.append_right _ ?_
    rw [List.append_assoc, List.append_assoc]
    exact List.Perm.append_left _ List.perm_append_comm
  | trans _ _ ih1 ih2 => exact ih1.trans ih2
theorem allS_in : ∀ (l : List Int) (x : Int), x ∈ allS l → -((l.map Int.natAbs).sum : Int) ≤ x ∧ x ≤ (l.map Int.natAbs).sum
  | [], x, h => by
    have : x = 0 := by simpa [allS] using h
    subst this
    simp
  | r :: l, x, h => by
    rw [allS, List.mem_append, List.mem_map] at h
    rw [List.map_cons, List.sum_cons]
    rcases h with h | ⟨y, h, rfl⟩
    · have := allS_in l x h
      omega
    · have := allS_in l y h
      omega
theorem all_is (rs : List Int) (P : Int → Bool) (h40 : rs.length ≤ 40) :
    IntKind.i64.wrap (sumF (fun j => if P ((j : Int) - (sabs rs rs.length : Nat)) = true then awZ rs rs.length ((j : Int) - (sabs rs rs.length : Nat)) else 0) (2 * sabs rs rs.length + 1)) = ((allS rs).countP P : Nat) := by
  have hp := allS_perm (List.reverse_perm rs)
  have h1 := count_sum P (sabs rs rs.length) (allS rs.reverse) (fun x hx => by
    have h2 := allS_in _ _ hx
    have h3 : (rs.reverse.map Int.natAbs).sum = sabs rs rs.length := by
      unfold sabs
      rw [List.take_length, List.map_reverse, List.sum_reverse]
    rw [h3] at h2
    exact h2)
  have h4 : ∀ x, awZ rs rs.length x = ((allS rs.reverse).count x : Nat) := fun x => by unfold awZ; rw [List.take_length]
  simp only [h4]
  rw [h1, hp.countP_eq]
  have h5 := List.countP_le_length (p := P) (l := allS rs)
  rw [allS_len] at h5
  have h7 := two_few h40
  exact wrap_of_ok (by unfold okI; omega)
end Go.Proofs.Ytfkjnaaplhcheaa.Sb

namespace Go.Proofs.Ytfkjnaaplhcheaa.Sb
open Go Go.RowKit Go.Maps Go.WideShapes Go.Sort

def sizesL (xs : List Int) : List Int := (nzL xs).map fun x => (x.natAbs : Int)
def sgRanks (xs : List Int) : List Int := ranksI (sizesL xs)
theorem sgRanks_len (xs : List Int) : (sgRanks xs).length = (nzL xs).length := by unfold sgRanks; rw [ranksI_len]; simp [sizesL]
/-- the sum of the ranks of the first j that are positive -/
def ownS (xs : List Int) : Nat → Int
  | 0 => 0
  | j + 1 => if 0 < (nzL xs).getD j 0 then ownS xs j + (sgRanks xs).getD j 0 else ownS xs j
def signedV (xs : List Int) : Nat := (allS (sgRanks xs)).countP fun s => decide (s ≤ ownS xs (nzL xs).length)
theorem grown_of_below {w w' : World} (hb : Below w.heap.size w w') : w.grownBy w' none := ⟨hb.os, hb.tape, hb.output, hb.size, fun j hj _ => hb.block j hj⟩
theorem nzL_len (xs : List Int) : (nzL xs).length ≤ xs.length := List.length_filter_le _ xs
theorem nzL_ne {xs : List Int} {j : Nat} (h : j < (nzL xs).length) : (nzL xs).getD j 0 ≠ 0 := by
  rw [List.getD_eq_getElem?_getD, List.getElem?_eq_getElem h]
  have h1 := List.getElem_mem h
  unfold nzL at h1
  have h2 := (List.mem_filter.1 h1).2
  show (nzL xs)[j] ≠ 0
  unfold nzL
  simpa using h2
theorem nzL_small {xs : List Int} (hs : smallL xs) {j : Nat} (h : j < (nzL xs).length) : -1000 ≤ (nzL xs).getD j 0 ∧ (nzL xs).getD j 0 ≤ 1000 := by
  rw [List.getD_eq_getElem?_getD, List.getElem?_eq_getElem h]
  have h1 := List.getElem_mem h
  unfold nzL at h1
  exact hs _ (List.mem_filter.1 h1).1
theorem sgRanks_in {xs : List Int} (h : xs.length ≤ 40) {j : Nat} (hj : j < (nzL xs).length) : 1 ≤ (sgRanks xs).getD j 0 ∧ (sgRanks xs).getD j 0 ≤ 81 := by
  have h1 := sgRanks_len xs
  rw [List.getD_eq_getElem?_getD, List.getElem?_eq_getElem (by omega)]
  have h2 := List.getElem_mem (l := sgRanks xs) (n := j) (by omega)
  unfold sgRanks ranksI at h2
  rw [List.mem_map] at h2
  obtain ⟨n, hn, e⟩ := h2
  have h3 := ranksN_mem (xs := sizesL xs) (by have := nzL_len xs; simp [sizesL]; omega) hn
  show 1 ≤ (sgRanks xs)[j] ∧ (sgRanks xs)[j] ≤ 81
  unfold sgRanks ranksI
  rw [← e]
  omega
theorem sgRanks_abs {xs : List Int} (h : xs.length ≤ 40) : ∀ j, j ≤ (nzL xs).length → sabs (sgRanks xs) j ≤ 81 * j
  | 0, _ => by simp [sabs]
  | j + 1, hj => by
    have h1 := sgRanks_len xs
    have h2 := sgRanks_in h (j := j) (by omega)
    rw [sabs_succ (by omega)]
    have := sgRanks_abs h j (by omega)
    omega
theorem ownS_in {xs : List Int} (h : xs.length ≤ 40) : ∀ j, j ≤ (nzL xs).length → 0 ≤ ownS xs j ∧ ownS xs j ≤ 81 * j
  | 0, _ => by simp [ownS]
  | j + 1, hj => by
    have h2 := sgRanks_in h (j := j) (by omega)
    have := ownS_in h j (by omega)
    show 0 ≤ (if 0 < (nzL xs).getD j 0 then ownS xs j + (sgRanks xs).getD j 0 else ownS xs j) ∧ (if 0 < (nzL xs).getD j 0 then ownS xs j + (sgRanks xs).getD j 0 else ownS xs j) ≤ _
    split <;> omega
set_option maxRecDepth 100000 in
set_option maxHeartbeats 6400000 in
theorem SignedTail_any (A : Option Addr) (xs : List Int) (c : Nat) (w : World) (h : Rd w w.heap.size A (il xs)) (hs : sampB xs = true) (h1 : 1 ≤ xs.length) (h40 : xs.length ≤ 40) :
    Calls Try.prog 20 #[.slice A xs.length c] w (rtOut (if (nzL xs).length = 0 then 0 else (signedV xs : Nat)) (if (nzL xs).length = 0 then 0 else (2 ^ (nzL xs).length : Nat)) (decide ((nzL xs).length ≠ 0)) w) := by
  have H : Hid (Calls Try.prog 46 #[.slice A xs.length c] w (Quiet (.bool true) w)) := Lib.hid (by
    have := isSample_any A xs c w (by omega) h
    rw [hs] at this
    exact this)
  have HC : Hid (∀ m, Calls Try.prog 60 #[.slice A xs.length c] (w.drewN m) (fun e w' => ∃ g c', e = .returned (.slice (some ⟨g, 0, none⟩) xs.length c') ∧ w'.ownsRow w.heap.size 2 1 (.slice (some ⟨g, 0, none⟩) xs.length c') xs.length (il xs) ∧ w.heap.size ≤ g ∧ g < w'.heap.size ∧ Below w.heap.size (w.drewN m) w')) := Lib.hid fun m => by
    refine (cloneI_any A xs c (w.drewN m) (by omega) h1 (h.drewN m)).mono ?_
    rintro e w' ⟨A', c', rfl, ho, hb⟩
    obtain ⟨g, rfl, hg, hr, -⟩ := own_rw ho h1 rfl
    exact ⟨g, c', rfl, ho, hg, hr.lt, hb⟩
  have HD := Lib.hid fun (W : World) (g cap : Nat) (ho : W.ownsRow w.heap.size 2 1 (.slice (some ⟨g, 0, none⟩) xs.length cap) xs.length (il xs)) => delete_nz xs w.heap.size g cap W ho (by omega)
  have HNL := Lib.hid (nzL_len xs)
  have HNN := Lib.hid fun j (hj : j < (nzL xs).length) => nzL_ne hj
  have HNB := Lib.hid fun j (hj : j < (nzL xs).length) => nzL_small (sampB_small hs) hj
  have HRI := Lib.hid fun j (hj : j < (nzL xs).length) => sgRanks_in h40 hj
  have HSA := Lib.hid fun j (hj : j ≤ (nzL xs).length) => sgRanks_abs h40 j hj
  have HOI := Lib.hid fun j (hj : j ≤ (nzL xs).length) => ownS_in h40 j hj
  have HO0 : Hid (ownS xs 0 = 0) := Lib.hid rfl
  have HOS : Hid (∀ j, ownS xs (j + 1) = if 0 < (nzL xs).getD j 0 then ownS xs j + (sgRanks xs).getD j 0 else ownS xs j) := Lib.hid fun j => rfl
  have HRL := Lib.hid (sgRanks_len xs)
  have HRK : Hid (∀ (A' : Option Addr) (c' : Nat) (W : World), Rd W W.heap.size A' (il (sizesL xs)) → Calls Try.prog 47 #[.slice A' (nzL xs).length c'] W (fun e w' => ∃ A3 c3, e = .returned (.slice A3 (nzL xs).length c3) ∧ w'.ownsRow W.heap.size 2 1 (.slice A3 (nzL xs).length c3) (nzL xs).length (il (sgRanks xs)) ∧ Below W.heap.size W w')) := Lib.hid fun A' c' W h9 => by
    have hl : (sizesL xs).length = (nzL xs).length := by simp [sizesL]
    have h8 := ranksOf_any A' (sizesL xs) c' W (by have := nzL_len xs; omega) h9
    unfold rkOut at h8
    rw [hl, nlv_il] at h8
    exact h8
  have HSZ : Hid (∀ i, i < (nzL xs).length → il ((sizesL xs).take (i + 1)) = il ((sizesL xs).take i) ++ [.int .i64 (((nzL xs).getD i 0).natAbs : Nat)]) := Lib.hid fun i hi => by
    have hl : i < (sizesL xs).length := by simpa [sizesL] using hi
    rw [List.take_succ_eq_append_getElem hl, List.getD_eq_getElem?_getD, List.getElem?_eq_getElem hi]
    simp [il, sizesL]
  have HSW : Hid ((sizesL xs).take (nzL xs).length = sizesL xs) := Lib.hid (List.take_of_length_le (by simp [sizesL]))
  have HS0 : Hid (il ((sizesL xs).take 0) = []) := Lib.hid rfl
  have HCW : Hid (∀ b bx D W, OM W b (2 ^ (nzL xs).length) D → MapIs D (awZ (sgRanks xs) (nzL xs).length) (sabs (sgRanks xs) (nzL xs).length) → W.cell? ⟨bx, 0, none⟩ = some (.int .i64 (ownS xs (nzL xs).length)) → Calls Try.prog 51 #[.map (some b), .func (.func 62) #[] #[.pointer (some ⟨bx, 0, none⟩)]] W (fun e w' => e = .returned (.int .i64 (signedV xs : Nat)) ∧ Below W.heap.size W w')) := Lib.hid fun b bx D W hm hi hx => by
    have h9 := countWhere_any 62 _ _ (.inr (.inl ⟨rfl, rfl⟩)) _ _ b _ bx D W hm hi hx
    have h10 := all_is (sgRanks xs) (fun s => decide (s ≤ ownS xs (nzL xs).length)) (by have := nzL_len xs; rw [sgRanks_len]; omega)
    rw [sgRanks_len] at h10
    exact h9.mono fun e w' ⟨he, hb⟩ => ⟨he.trans (congrArg (fun v => Ending.returned (.int .i64 v)) h10), hb⟩
  have HA0 : Hid (∀ x, awZ (sgRanks xs) 0 x = if x = 0 then 1 else 0) := Lib.hid fun x => awZ_zero _ x
  have HAS : Hid (∀ j, j < (nzL xs).length → ∀ x, awZ (sgRanks xs) (j + 1) x = awZ (sgRanks xs) j x + awZ (sgRanks xs) j (x - (sgRanks xs).getD j 0)) := Lib.hid fun j hj x => awZ_s (by rw [sgRanks_len]; exact hj) x
  have HAL := Lib.hid fun j x => awZ_le (sgRanks xs) j x
  have HSS : Hid (∀ j, j < (nzL xs).length → sabs (sgRanks xs) (j + 1) = sabs (sgRanks xs) j + ((sgRanks xs).getD j 0).natAbs) := Lib.hid fun j hj => sabs_succ (by rw [sgRanks_len]; exact hj)
  have HCL : Hid (∀ (W : World) g, Rd W W.heap.size (some ⟨g, 0, none⟩) (il (nzL xs)) → ∀ j, j < (nzL xs).length → W.cell? ⟨g, j, none⟩ = some (.int .i64 ((nzL xs).getD j 0))) := Lib.hid fun W g h9 j hj => by
    obtain ⟨b, off, e, -, hc⟩ := h9.ilAt hj
    cases e
    rw [Nat.zero_add] at hc
    rw [hc, List.getD_eq_getElem?_getD, List.getElem?_eq_getElem hj]
    rfl
  have HCR : Hid (∀ (W : World) g c' base, W.ownsRow base 2 1 (.slice (some ⟨g, 0, none⟩) (nzL xs).length c') (nzL xs).length (il (sgRanks xs)) → ∀ j, j < (nzL xs).length → W.cell? ⟨g, j, none⟩ = some (.int .i64 ((sgRanks xs).getD j 0))) := Lib.hid fun W g c' base h9 j hj => by
    have hl := sgRanks_len xs
    refine own_cellAt h9 ?_
    unfold il
    rw [List.getElem?_map, List.getElem?_eq_getElem (by omega), List.getD_eq_getElem?_getD, List.getElem?_eq_getElem (by omega)]
    rfl
  have HRW : Hid (∀ (W : World) A' c' base, 1 ≤ (nzL xs).length → W.ownsRow base 2 1 (.slice A' (nzL xs).length c') (nzL xs).length (il (sgRanks xs)) → ∃ g, A' = some ⟨g, 0, none⟩ ∧ base ≤ g ∧ g < W.heap.size) := Lib.hid fun W A' c' base h9 h8 => by
    obtain ⟨g, e, hg, hr, -⟩ := own_rw h8 h9 (sgRanks_len xs)
    exact ⟨g, e, hg, hr.lt⟩
  obtain ⟨i0, hi0, hz0, hz1, hz2⟩ := info_parts info_i64
  have hmm := @run_makeMap Try.prog
  unfold rtOut
  clear h hs
  generalize signedV xs = SV at *
  generalize ownS xs = own at *
  generalize hgr : sgRanks xs = RS at *
  generalize (fun j => RS.getD j 0) = dummy at *
  generalize awZ RS = aw at *
  generalize sabs RS = st at *
  generalize hrk : (fun j => RS.getD j 0) = rk at *
  have hrk' : ∀ j, RS.getD j 0 = rk j := fun j => by rw [← hrk]
  simp only [hrk'] at HRI HOS HAS HSS HCR
  generalize hSZ : sizesL xs = SZ at *
  generalize hnz : (fun j => (nzL xs).getD j 0) = nz at *
  have hnz' : ∀ j, (nzL xs).getD j 0 = nz j := fun j => by rw [← hnz]
  simp only [hnz'] at HNN HOS HCL HSZ HNB
  generalize hL : (nzL xs).length = L at *
  generalize nzL xs = NZ at *
  generalize xs.length = n at *
  clear hgr hrk hrk' hSZ hnz hnz' hL
  go_enter Try.func20, Try.ntmps20
  go_upto_region 4 with (first
    | (go_at_call 46; refine H.out.mono ?_; rintro e w1 ⟨rfl, m, rfl⟩)
    | (go_at_call 60; refine (HC.out _).mono ?_; rintro e w2 ⟨g, cg, rfl, ho2, hg2, hl2, hb2⟩; have O2 := Lib.hid ho2; have B2 := Lib.hid ((below_dn (Below.refl w.heap.size w) m).trans hb2); clear ho2 hb2)
    | (go_at_call 59; refine (HD.out _ _ _ O2.out).mono ?_; rintro e w3 ⟨rfl, hr3, hg3⟩; have R3 := Lib.hid hr3; have B3 := Lib.hid (B2.out.grown hg3 B2.out.size (fun j hj => by cases hj; exact hg2)); have Z3 := Lib.hid hg3.size; have B3' := Lib.hid (show w.heap.size ≤ w3.heap.size from (B2.out.grown hg3 B2.out.size (fun j hj => by cases hj; exact hg2)).size); clear hr3 hg3))
  have START := Lib.hid (Grow.empty w3 2)
  clear H HC HD O2 B2
  go_wp2_with fail
  generalize World.alloc w3 _ = W4 at *
  go_loopw [6, 25] (fun sv iv wr => ∃ i : Nat, i ≤ L ∧ iv = .int .i64 i ∧ Grow w3 2 i (il (SZ.take i)) sv wr) (fun _ iv _ => L - (intOf iv).toNat)
  case atStart => exact ⟨0, by omega, rfl, by rw [HS0.out]; exact START.out⟩
  case round =>
    clear START
    obtain ⟨i, hi, rfl, hbw, A4, c4, rfl, ho4⟩ := hrel
    rename World => wr
    have HB := Lib.hid hbw
    have HO := Lib.hid ho4
    have hz := HB.out.size
    clear hbw ho4
    have hnl := HNL.out
    by_cases hcase : i < L
    · have hc := keepC HB.out (HCL.out w3 g R3.out i hcase)
      have hne := HNN.out i hcase
      have hnb := HNB.out i hcase
      have HSZi := Lib.hid (HSZ.out i hcase)
      have hng : IntKind.i64.wrap (-(nz i)) = -(nz i) := IntWalk.i64_in _ (by omega)
      have hi2 : i < 40 := by omega
      have e1 : (((nz i).natAbs : Nat) : Int) = max (nz i) (-(nz i)) := by omega
      rw [e1] at HSZi
      clear e1
      generalize nz i = z at *
      go_wp2_with (refine wpList_append_lies _ rfl _ _ _ rfl w3.heap.size 2 i0 _ 1 8 Try.underlying25 hi0 hz0 hz1 hz2 rfl (by omega) (.slice A4 i c4) i (il (SZ.take i)) (by rfl) (HO.out.alloc _) ⟨wr.heap.size, 0, none⟩ 1 1 [.int .i64 (max z (-z))] (by rfl) (by rfl) (World.news_of_block (cs := #[.int .i64 (max z (-z))]) (t := 2) (fr := (0, 0)) (heap_alloc_new wr _)) (by simp [Value.oneCell']) (by omega) (by unfold maxLen; omega) (by omega) (by simp; omega) (wr.heap.size + 1) (by simp) ?_; intro g9 cap9 w9 hown9 hgrow hat hlt9; have G9 := Lib.hid (Grow.step HB.out HO.out (Below.refl _ _) hgrow hown9); clear hown9 hgrow hat)
      go_roundw
      case rel => exact ⟨i + 1, by omega, by go_num, by rw [HSZi.out]; exact G9.out⟩
      case measure => simp [intOf]; omega
    · obtain rfl : i = L := by omega
      clear HSZ HS0 HNN HNB
      by_cases hL0 : i = 0
      · subst hL0
        go_wp2_with fail
        go_ret3
        exact ⟨by simp, below_next B3.out HB.out⟩
      · have hL1 : 1 ≤ i := by omega
        have hLz : ¬ (i : Int) = 0 := by omega
        have RS4 : Hid (Rd wr wr.heap.size A4 (il SZ)) := Lib.hid (by
          have h9 := Rd.of_own HO.out
          rw [HSW.out] at h9
          exact h9)
        have R4 := Lib.hid (R3.out.at_ HB.out)
        have B4 := Lib.hid (below_next B3.out HB.out)
        have HM4 : Hid (OM (wr.alloc (.map #[] 0)) wr.heap.size 0 (.map [])) := Lib.hid (World.ownsMap_made wr Try.prog 2 (plainElem (H := Unit) Try.prog 2))
        clear HB HO R3 B3 HSW
        go_upto_region 12 with (refine wpList_insert_own _ rfl _ _ _ 78 rfl 2 2 keyed Try.underlying78 _ wr.heap.size 0 _ rfl HM4.out (by unfold maxLen; omega) _ _ _ rfl rfl (keyOf_int_mk Try.underlying2 (WalkArith.wf_i64 (by omega))) _ [] (plainElem_int Try.underlying2 (WalkArith.wf_i64 (by omega))) ?_; intro w5 hown5 hgrow5; have M5 := Lib.hid hown5; have G5 := Lib.hid hgrow5; clear hown5 hgrow5)
        have hmb : ∀ j, some wr.heap.size = some j → wr.heap.size ≤ j := fun j e => by cases e; exact Nat.le_refl _
        have B5 := Lib.hid ((below_al B4.out (.map #[] 0)).grown G5.out (by have := B4.out.size; simp; omega) (fun j e => by have := hmb j e; have := B4.out.size; omega))
        have hgl : g < wr.heap.size := by have := Z3.out; omega
        have hz5 : wr.heap.size + 1 ≤ w5.heap.size := by have := G5.out.size; simpa using this
        have BW5 : Hid (Below wr.heap.size wr w5) := Lib.hid ((below_al (Below.refl _ _) (.map #[] 0)).grown G5.out (by simp) hmb)
        have M6 : Hid (OM (w5.alloc (.cells #[.int .i64 0] 2)) wr.heap.size 1 (.put (.map []) (kI 0) (.lit (.int .i64 1)))) := Lib.hid (M5.out.alloc _)
        have R6 := Lib.hid ((R4.out.at_ BW5.out).at_ (below_al (Below.refl _ _) (.cells #[.int .i64 0] 2)))
        have RS6 := Lib.hid ((RS4.out.at_ BW5.out).at_ (below_al (Below.refl _ _) (.cells #[.int .i64 0] 2)))
        have B6 := Lib.hid (below_al B5.out (.cells #[.int .i64 0] 2))
        have hbx : (w5.alloc (.cells #[.int .i64 0] 2)).cell? ⟨w5.heap.size, 0, none⟩ = some (.int .i64 0) := by simp [go_sem]
        have hbf : (w5.alloc (.cells #[.int .i64 0] 2)).frozen? ⟨w5.heap.size, 0, none⟩ = false := by simp [go_sem]
        have hbl : w5.heap.size < (w5.alloc (.cells #[.int .i64 0] 2)).heap.size := by simp
        have HBX := Lib.hid hbx
        have HBF := Lib.hid hbf
        clear R4 RS4 B4 M5 B5 BW5 G5 HM4 hbx hbf
        generalize w5.alloc (.cells #[.int .i64 0] 2) = W6 at *
        generalize hbxn : w5.heap.size = bx at *
        generalize hmbn : wr.heap.size = mb at *
        clear hbxn hmbn
        go_upto_region 13 with (go_at_call 47; refine (HRK.out _ _ _ RS6.out).mono ?_; rintro e w7 ⟨A3, c3, rfl, ho7, hb7⟩; obtain ⟨g3, rfl, hg3, hl3⟩ := HRW.out _ _ _ _ hL1 ho7; have C7 := Lib.hid (HCR.out _ _ _ _ ho7); have L7 := Lib.hid (HCL.out _ _ (R6.out.at_ hb7)); have M7 := Lib.hid (M6.out.kept (grown_of_below hb7) (by simp)); have X7 := Lib.hid (keepC hb7 HBX.out); have F7 := Lib.hid ((hb7.frozen (p := ⟨bx, 0, none⟩) hbl).trans HBF.out); have B7 := Lib.hid (below_next B6.out hb7); have Z7 := Lib.hid hb7.size; clear ho7 hb7)
        have hg3n : g3 ≠ bx := by omega
        have hgn : g ≠ bx := by omega
        have hmbl : mb < bx := by omega
        have hbx7 : bx < w7.heap.size := by have := Z7.out; omega
        have CL : Hid (∀ W, w7.grownBy W (some bx) → ∀ j, j < i → W.cell? ⟨g, j, none⟩ = some (.int .i64 (nz j))) := Lib.hid fun W hW j hj => hW.cell (L7.out j hj) (fun e => hgn (Option.some.inj e))
        have CR : Hid (∀ W, w7.grownBy W (some bx) → ∀ j, j < i → W.cell? ⟨g3, j, none⟩ = some (.int .i64 (rk j))) := Lib.hid fun W hW j hj => hW.cell (C7.out j hj) (fun e => hg3n (Option.some.inj e))
        have BG : Hid (∀ W, w7.grownBy W (some bx) → Below w.heap.size w W) := Lib.hid fun W hW => B7.out.grown hW B7.out.size (fun j e => by cases e; have := B3'.out; omega)
        have I7 : Hid (MapIs (.put (.map []) (kI 0) (.lit (.int .i64 1)) : DU) (aw 0) (st 0)) := Lib.hid (mapIs_congr (mapIs_put (mapIs_empty (st 0)) (by omega) (Nat.le_refl _) 1) fun x => by rw [HA0.out]; rfl)
        have MS : Hid (OM w7 mb (2 ^ 0) (.put (.map []) (kI 0) (.lit (.int .i64 1)))) := Lib.hid (M7.out.mono (by simp))
        have X7' : Hid (w7.cell? ⟨bx, 0, none⟩ = some (.int .i64 (own 0))) := Lib.hid (by rw [HO0.out]; exact X7.out)
        clear M7 X7 L7 C7 HO0 HA0 HRW HCR HCL HRK
        go_wp2_with fail
        go_loopw [10, 45] (fun mv iv wr => ∃ (j b : Nat) (D : DU), j ≤ i ∧ iv = .int .i64 j ∧ mv = .map (some b) ∧ OM wr b (2 ^ j) D ∧ MapIs D (aw j) (st j) ∧ b ≠ bx ∧ wr.cell? ⟨bx, 0, none⟩ = some (.int .i64 (own j)) ∧ wr.frozen? ⟨bx, 0, none⟩ = false ∧ w7.grownBy wr (some bx)) (fun _ iv _ => i - (intOf iv).toNat)
        case atStart => exact ⟨0, mb, _, by omega, rfl, rfl, MS.out, I7.out, by omega, X7'.out, F7.out, grown_refl _ _⟩
        case round =>
          clear MS I7 X7' F7
          obtain ⟨j, b, D, hj, rfl, rfl, hm, hi', hbb, hx, hf, hg⟩ := hrel
          rename World => wk
          have HM := Lib.hid hm
          have HI := Lib.hid hi'
          have HG := Lib.hid hg
          have hbk := hm.lt
          have hzk := hg.size
          clear hm hi' hg
          by_cases hji : j < i
          · have cl := CL.out wk HG.out j hji
            have cr := CR.out wk HG.out j hji
            have hri := HRI.out j hji
            have hoi := HOI.out j (by omega)
            have hoi1 := HOI.out (j + 1) (by omega)
            have hos := HOS.out j
            have HASj := Lib.hid (HAS.out j hji)
            have hss := HSS.out j hji
            have hsa := HSA.out (j + 1) (by omega)
            have HALj := Lib.hid (HAL.out j)
            have hp2 : 2 ^ (j + 1) = 2 ^ j + 2 ^ j := by rw [Nat.pow_succ]; omega
            have hp3 := two_few (i := j + 1) (by omega)
            have HP2 := Lib.hid hp2
            have HP3 := Lib.hid hp3
            have HRI' := Lib.hid hri
            have HSSj := Lib.hid hss
            have HSAj := Lib.hid hsa
            have hwo : IntKind.i64.wrap (own j + rk j) = own j + rk j := IntWalk.i64_in _ (by omega)
            have hbl8 : bx < wk.heap.size := by omega
            clear hp2 hp3 hss hsa CL CR HAS HSS HAL HSA HOS HOI HRI HCW
            generalize hr0 : rk j = r at *
            clear hr0
            generalize hown1 : own (j + 1) = own1 at *
            have HOW1 := Lib.hid hown1
            clear hown1
            generalize own j = own0 at *
            have hcase : 0 < nz j ∨ ¬ 0 < nz j := Classical.em _
            rcases hcase with hpos | hpos
            · rw [if_pos hpos] at hos
              have HX8 : Hid ((wk.setCell ⟨bx, 0, none⟩ (.int .i64 own1)).cell? ⟨bx, 0, none⟩ = some (.int .i64 own1)) := Lib.hid (by simp [go_sem, hx])
              have HF8 : Hid ((wk.setCell ⟨bx, 0, none⟩ (.int .i64 own1)).frozen? ⟨bx, 0, none⟩ = false) := Lib.hid (by simpa [go_sem] using hf)
              have HG8 : Hid (w7.grownBy (wk.setCell ⟨bx, 0, none⟩ (.int .i64 own1)) (some bx)) := Lib.hid (grown_set HG.out 0 _)
              have HM8 : Hid (OM (wk.setCell ⟨bx, 0, none⟩ (.int .i64 own1)) b (2 ^ j) D) := Lib.hid (HM.out.kept (grown_set (grown_refl wk (some bx)) 0 _) (fun e => hbb (Option.some.inj e)))
              have hz8 : (wk.setCell ⟨bx, 0, none⟩ (.int .i64 own1)).heap.size = wk.heap.size := by simp
              have hwo1 : IntKind.i64.wrap (own0 + r) = own1 := by rw [hwo]; exact hos.symm
              clear hos HM HG hwo
              generalize nz j = z at *
              go_upto_region 17 with fail
              generalize World.setCell wk _ _ = W8 at *
              have hnb8 : w7.heap.size ≤ W8.heap.size := HG8.out.size
              have HM9 := Lib.hid (HM8.out.alloc (.map #[] 0))
              have HN9 : Hid (OM (W8.alloc (.map #[] 0)) W8.heap.size 0 (.map [])) := Lib.hid (World.ownsMap_made W8 Try.prog 2 (plainElem (H := Unit) Try.prog 2))
              have HG9 : Hid (w7.grownBy (W8.alloc (.map #[] 0)) (some bx)) := Lib.hid (HG8.out.andThen (World.grownBy_alloc W8 _ none) (fun j e => by cases e))
              have HX9 : Hid ((W8.alloc (.map #[] 0)).cell? ⟨bx, 0, none⟩ = some (.int .i64 own1)) := Lib.hid (keepC (below_al (Below.refl _ _) _) HX8.out)
              have hbx8 : bx < W8.heap.size := by omega
              have HF9 : Hid ((W8.alloc (.map #[] 0)).frozen? ⟨bx, 0, none⟩ = false) := Lib.hid (((below_al (Below.refl W8.heap.size W8) (.map #[] 0)).frozen (p := ⟨bx, 0, none⟩) hbx8).trans HF8.out)
              have hbn : b ≠ W8.heap.size := by omega
              have hz9 : (W8.alloc (.map #[] 0)).heap.size = W8.heap.size + 1 := by simp
              have HSZ9 := Lib.hid (own_size HM8.out)
              clear HM8 HG8 HX8 HF8 hx hf hzk hbk hbl8 hz8
              go_upto_region 18 with fail
              generalize hw9 : W8.alloc (.map #[] 0) = W9 at *
              generalize hnb : W8.heap.size = nb at *
              clear hw9 hnb
              have hnb9 : nb < W9.heap.size := by omega
              have hbx9 : bx < W9.heap.size := by omega
              have hbxn : bx ≠ nb := by omega
              clear hz9
              go_wp2_with (at_range; refine wpList_range_own _ rfl _ 78 rfl 2 2 keyed Try.underlying78 _ b (2 ^ j) _ rfl HM9.out ?_; intro w0 hrg0 hg0 hs0)
              try go_frame
              have hg0b := hg0.but (some nb)
              have START4 := Lib.hid (show w0.ranges Try.prog 2 (plainElem (H := Unit) Try.prog 2) b W9.heap.size (2 ^ j) D (has D) (Maps.size D) ∧ OM w0 nb 0 (.map []) ∧ 0 + 2 * Maps.size D ≤ 2 ^ (j + 1) ∧ MapIs (.map [] : DU) (part2 (aw j) r D (has D)) (st (j + 1)) ∧ W9.grownBy w0 (some nb) from
                ⟨hrg0, HN9.out.kept hg0 (by simp), by have h1 := HSZ9.out; have h2 := HP2.out; omega, mapIs_congr (mapIs_empty _) fun x => (part2_start _ _ _ x).symm, hg0b⟩)
              clear hrg0 hg0 hs0 hg0b HN9
              go_loopw [14] (fun _ wr => ∃ (left : Lit → Bool) (cnt n' : Nat) (E : DU), wr.ranges Try.prog 2 (plainElem (H := Unit) Try.prog 2) b W9.heap.size (2 ^ j) D left cnt ∧ OM wr nb n' E ∧ n' + 2 * cnt ≤ 2 ^ (j + 1) ∧ MapIs E (part2 (aw j) r D left) (st (j + 1)) ∧ W9.grownBy wr (some nb)) (fun _ wr => wr.rangeLeft b W9.heap.size)
              case atStart => exact ⟨_, _, _, _, START4.out.1, START4.out.2.1, START4.out.2.2.1, START4.out.2.2.2.1, START4.out.2.2.2.2⟩
              case round =>
                clear START4
                obtain ⟨left, cnt, n', E, hrg, hom, hnc, hmi, hgw⟩ := hrel
                rename World => wz
                have HRG := Lib.hid hrg
                have HOM := Lib.hid hom
                have HNC := Lib.hid hnc
                have HMI := Lib.hid hmi
                have HGW := Lib.hid hgw
                clear hrg hom hnc hmi hgw
                go_wp2_with (at_next; refine wpList_next_ranges_ii _ rfl _ rfl 2 2 .i64 .i64 keyed Try.underlying2 Try.underlying2 b W9.heap.size (2 ^ j) _ _ _ rfl HRG.out ?_ ?_)
                · intro _ hl0
                  have M9 : Hid (MapIs E (aw (j + 1)) (st (j + 1))) := Lib.hid (mapIs_congr HMI.out fun x => by unfold part2; rw [partA_end hl0 HI.out, partA_end hl0 HI.out, HASj.out])
                  have O9 : Hid (OM wz nb (2 ^ (j + 1)) E) := Lib.hid (HOM.out.mono (by have := HNC.out; omega))
                  have X9 : Hid (wz.cell? ⟨bx, 0, none⟩ = some (.int .i64 own1)) := Lib.hid (HGW.out.cell HX9.out (fun e => hbxn (Option.some.inj e)))
                  have F9 : Hid (wz.frozen? ⟨bx, 0, none⟩ = false) := Lib.hid ((World.frozen?_of_block (a := ⟨bx, 0, none⟩) (HGW.out.block bx hbx9 (fun e => hbxn (Option.some.inj e)))).trans HF9.out)
                  have G9 : Hid (w7.grownBy wz (some bx)) := Lib.hid (HG9.out.andThen HGW.out (fun q e => by cases e; exact .inl hnb8))
                  clear hl0
                  go_wp2_with fail
                  go_roundw
                  case rel => exact ⟨j + 1, nb, E, by omega, by go_num, rfl, O9.out, M9.out, by omega, by rw [HOW1.out]; exact X9.out, F9.out, G9.out⟩
                  case measure => simp [intOf]; omega
                · intro s c1 w1 cnt1 hwx hwc hlx hat hrg1 hlt1 hg1 hs1 hen
                  have hh := has_true_of_atKey hat
                  obtain ⟨hx0, hx1⟩ := HI.out.2.1 s hh
                  have hc1 : c1 = aw j s := by
                    have h1 := HI.out.2.2 s
                    rw [show D.atKey (kI s) (.lit (.int .i64 0)) = .lit (.int .i64 c1) from hat _] at h1
                    injection h1 with h1
                    injection h1
                  have hst := HSSj.out
                  have hsa := HSAj.out
                  have hrr := HRI'.out
                  have HRG1 := Lib.hid hrg1
                  have HLT1 := Lib.hid hlt1
                  have HGW1 := Lib.hid (HGW.out.andThen hg1 (fun q hq => by cases hq; exact Or.inl (Nat.le_refl _)))
                  have HO1 : Hid (OM w1 nb n' E) := Lib.hid (HOM.out.kept hg1 (fun e => by have e := Option.some.inj e; omega))
                  obtain ⟨sr, hsr0⟩ : ∃ sr, sr = s + r := ⟨_, rfl⟩
                  have hwk : IntKind.i64.wrap (s + r) = sr := by rw [hsr0]; exact IntWalk.i64_in _ (by omega)
                  have hwfs : (Lit.int .i64 s).wf = true := WalkArith.wf_i64 (by omega)
                  have hwfr : (Lit.int .i64 sr).wf = true := WalkArith.wf_i64 (by omega)
                  have HIN : Hid (-((st (j + 1) : Nat) : Int) ≤ s ∧ s ≤ (st (j + 1) : Nat)) := Lib.hid (by omega)
                  have HINr : Hid (-((st (j + 1) : Nat) : Int) ≤ sr ∧ sr ≤ (st (j + 1) : Nat)) := Lib.hid (by omega)
                  have hn'm : n' < maxLen := by have h1 := HNC.out; have h2 := HP3.out; unfold maxLen; omega
                  have hn2m : n' + 1 < maxLen := by have h1 := HNC.out; have h2 := HP3.out; unfold maxLen; omega
                  have hMle : ((2 ^ j : Nat) : Int) ≤ 1099511627776 := Int.ofNat_le.2 (two_few (by omega))
                  have hM0 : (0 : Int) ≤ ((2 ^ j : Nat) : Int) := Int.natCast_nonneg _
                  have hle2 := part2_le (r := r) (Dp := D) (left := left) (M := ((2 ^ j : Nat) : Int)) hM0 HALj.out s
                  have hle1 := part1_le (r := r) (s := s) (Dp := D) (left := left) (M := ((2 ^ j : Nat) : Int)) hM0 HALj.out sr
                  have hle0 := HALj.out s
                  generalize ((2 ^ j : Nat) : Int) = M at hle2 hle1 hle0 hMle hM0
                  have HW1 : Hid (wrap64 (part2 (aw j) r D left s + aw j s) = part2 (aw j) r D left s + aw j s) := Lib.hid (by rw [w64]; exact IntWalk.i64_in _ (by omega))
                  have HW2 : Hid (wrap64 (part1 (aw j) r D left s sr + aw j s) = part1 (aw j) r D left s sr + aw j s) := Lib.hid (by rw [w64]; exact IntWalk.i64_in _ (by omega))
                  have HST : Hid (∀ x, updF (part1 (aw j) r D left s) sr (part1 (aw j) r D left s sr + aw j s) x = part2 (aw j) r D (fun z => left z && !z.sameKey (kI s)) x) := Lib.hid fun x => by rw [hsr0]; exact part2_step (by omega) hh hlx x
                  have HN1 : Hid (part1 (aw j) r D left s = updF (part2 (aw j) r D left) s (part2 (aw j) r D left s + aw j s)) := Lib.hid rfl
                  have HC1 : Hid (c1 = aw j s) := Lib.hid hc1
                  have hnw : nb < W9.heap.size := hnb9
                  clear hc1 hx0 hx1 hat hh hlx hrg1 hlt1 hg1 hst hsa hrr hsr0 hle2 hle1 hle0 hMle hM0
                  go_upto_region 22 with first
                    | (at_lookup; refine wpList_lookup_own_int _ rfl _ _ 78 rfl 2 2 .i64 keyed Try.underlying78 Try.underlying2 (zeroI _) nb n' _ rfl HO1.out _ _ rfl (keyOf_int_mk Try.underlying2 hwfs) ?_; intro c2 hat2 hwc2)
                    | (at_mapUpdate; refine wpList_mapUpdate_own _ rfl _ _ _ 78 rfl 2 2 keyed Try.underlying78 _ nb n' _ rfl HO1.out hn'm _ _ _ rfl rfl (keyOf_int_mk Try.underlying2 hwfs) _ [] (plainElem_int Try.underlying2 (wrap64_wf _)) ?_; intro w5 hown5 hgrow5)
                  have hc2 : c2 = part2 (aw j) r D left s := by
                    have h1 := HMI.out.2.2 s
                    rw [show E.atKey (kI s) (.lit (.int .i64 0)) = .lit (.int .i64 c2) from hat2] at h1
                    injection h1 with h1
                    injection h1
                  have e1 := HC1.out
                  subst hc2 e1
                  have M5 : Hid (MapIs (E.put (kI s) (.lit (.int .i64 (wrap64 (part2 (aw j) r D left s + aw j s))))) (part1 (aw j) r D left s) (st (j + 1))) := Lib.hid (by rw [HW1.out, HN1.out]; exact mapIs_put HMI.out HIN.out (Nat.le_refl _) _)
                  have G5 := Lib.hid (HGW1.out.andThen hgrow5 (fun q hq => by cases hq; exact Or.inr rfl))
                  have R5 := Lib.hid (HRG1.out.kept hgrow5 (fun e => hbn (Option.some.inj e)) (fun e => by have e := Option.some.inj e; omega))
                  have O5 : Hid (OM w5 nb (n' + 1) (E.put (kI s) (.lit (.int .i64 (wrap64 (part2 (aw j) r D left s + aw j s)))))) := Lib.hid hown5
                  clear hown5 hgrow5 hat2 hwc2
                  generalize E.put (kI s) (.lit (.int .i64 (wrap64 (part2 (aw j) r D left s + aw j s)))) = E1 at *
                  go_wp2_with first
                    | (at_lookup; refine wpList_lookup_own_int _ rfl _ _ 78 rfl 2 2 .i64 keyed Try.underlying78 Try.underlying2 (zeroI _) nb (n' + 1) _ rfl O5.out _ _ rfl (keyOf_int_mk Try.underlying2 hwfr) ?_; intro c3 hat3 hwc3)
                    | (at_mapUpdate; refine wpList_mapUpdate_own _ rfl _ _ _ 78 rfl 2 2 keyed Try.underlying78 _ nb (n' + 1) _ rfl O5.out hn2m _ _ _ rfl rfl (keyOf_int_mk Try.underlying2 hwfr) _ [] (plainElem_int Try.underlying2 (wrap64_wf _)) ?_; intro w6 hown6 hgrow6)
                  have hc3 : c3 = part1 (aw j) r D left s sr := by
                    have h1 := M5.out.2.2 sr
                    rw [show E1.atKey (kI sr) (.lit (.int .i64 0)) = .lit (.int .i64 c3) from hat3] at h1
                    injection h1 with h1
                    injection h1
                  subst hc3
                  have M6 : Hid (MapIs (E1.put (kI sr) (.lit (.int .i64 (wrap64 (part1 (aw j) r D left s sr + aw j s))))) (part2 (aw j) r D (fun z => left z && !z.sameKey (kI s))) (st (j + 1))) := Lib.hid (by rw [HW2.out]; exact mapIs_congr (mapIs_put M5.out HINr.out (Nat.le_refl _) _) HST.out)
                  have G6 := Lib.hid (G5.out.andThen hgrow6 (fun q hq => by cases hq; exact Or.inr rfl))
                  have R6' := Lib.hid (R5.out.kept hgrow6 (fun e => hbn (Option.some.inj e)) (fun e => by have e := Option.some.inj e; omega))
                  have O6 := Lib.hid hown6
                  clear hown6 hgrow6 hat3 hwc3
                  go_wp2_with fail
                  go_roundw
                  case rel => exact ⟨_, _, R6'.out, n' + 1 + 1, _, O6.out, by have := HNC.out; have := HLT1.out; omega, M6.out, G6.out⟩
                  case measure => rw [R6'.out.left_eq, HRG.out.left_eq]; exact HLT1.out
            · rw [if_neg hpos] at hos
              have HX8 : Hid (wk.cell? ⟨bx, 0, none⟩ = some (.int .i64 own1)) := Lib.hid (by rw [hos]; exact hx)
              have HF8 := Lib.hid hf
              have HG8 := HG
              have HM8 := HM
              have hz8 : wk.heap.size = wk.heap.size := rfl
              clear hos HM HG
              generalize nz j = z at *
              go_upto_region 17 with fail
              generalize hw8 : wk = W8 at *
              clear hw8
              have hnb8 : w7.heap.size ≤ W8.heap.size := HG8.out.size
              have HM9 := Lib.hid (HM8.out.alloc (.map #[] 0))
              have HN9 : Hid (OM (W8.alloc (.map #[] 0)) W8.heap.size 0 (.map [])) := Lib.hid (World.ownsMap_made W8 Try.prog 2 (plainElem (H := Unit) Try.prog 2))
              have HG9 : Hid (w7.grownBy (W8.alloc (.map #[] 0)) (some bx)) := Lib.hid (HG8.out.andThen (World.grownBy_alloc W8 _ none) (fun j e => by cases e))
              have HX9 : Hid ((W8.alloc (.map #[] 0)).cell? ⟨bx, 0, none⟩ = some (.int .i64 own1)) := Lib.hid (keepC (below_al (Below.refl _ _) _) HX8.out)
              have hbx8 : bx < W8.heap.size := by omega
              have HF9 : Hid ((W8.alloc (.map #[] 0)).frozen? ⟨bx, 0, none⟩ = false) := Lib.hid (((below_al (Below.refl W8.heap.size W8) (.map #[] 0)).frozen (p := ⟨bx, 0, none⟩) hbx8).trans HF8.out)
              have hbn : b ≠ W8.heap.size := by omega
              have hz9 : (W8.alloc (.map #[] 0)).heap.size = W8.heap.size + 1 := by simp
              have HSZ9 := Lib.hid (own_size HM8.out)
              clear HM8 HG8 HX8 HF8 hx hf hzk hbk hbl8 hz8
              go_upto_region 18 with fail
              generalize hw9 : W8.alloc (.map #[] 0) = W9 at *
              generalize hnb : W8.heap.size = nb at *
              clear hw9 hnb
              have hnb9 : nb < W9.heap.size := by omega
              have hbx9 : bx < W9.heap.size := by omega
              have hbxn : bx ≠ nb := by omega
              clear hz9
              go_wp2_with (at_range; refine wpList_range_own _ rfl _ 78 rfl 2 2 keyed Try.underlying78 _ b (2 ^ j) _ rfl HM9.out ?_; intro w0 hrg0 hg0 hs0)
              try go_frame
              have hg0b := hg0.but (some nb)
              have START4 := Lib.hid (show w0.ranges Try.prog 2 (plainElem (H := Unit) Try.prog 2) b W9.heap.size (2 ^ j) D (has D) (Maps.size D) ∧ OM w0 nb 0 (.map []) ∧ 0 + 2 * Maps.size D ≤ 2 ^ (j + 1) ∧ MapIs (.map [] : DU) (part2 (aw j) r D (has D)) (st (j + 1)) ∧ W9.grownBy w0 (some nb) from
                ⟨hrg0, HN9.out.kept hg0 (by simp), by have h1 := HSZ9.out; have h2 := HP2.out; omega, mapIs_congr (mapIs_empty _) fun x => (part2_start _ _ _ x).symm, hg0b⟩)
              clear hrg0 hg0 hs0 hg0b HN9
              go_loopw [14] (fun _ wr => ∃ (left : Lit → Bool) (cnt n' : Nat) (E : DU), wr.ranges Try.prog 2 (plainElem (H := Unit) Try.prog 2) b W9.heap.size (2 ^ j) D left cnt ∧ OM wr nb n' E ∧ n' + 2 * cnt ≤ 2 ^ (j + 1) ∧ MapIs E (part2 (aw j) r D left) (st (j + 1)) ∧ W9.grownBy wr (some nb)) (fun _ wr => wr.rangeLeft b W9.heap.size)
              case atStart => exact ⟨_, _, _, _, START4.out.1, START4.out.2.1, START4.out.2.2.1, START4.out.2.2.2.1, START4.out.2.2.2.2⟩
              case round =>
                clear START4
                obtain ⟨left, cnt, n', E, hrg, hom, hnc, hmi, hgw⟩ := hrel
                rename World => wz
                have HRG := Lib.hid hrg
                have HOM := Lib.hid hom
                have HNC := Lib.hid hnc
                have HMI := Lib.hid hmi
                have HGW := Lib.hid hgw
                clear hrg hom hnc hmi hgw
                go_wp2_with (at_next; refine wpList_next_ranges_ii _ rfl _ rfl 2 2 .i64 .i64 keyed Try.underlying2 Try.underlying2 b W9.heap.size (2 ^ j) _ _ _ rfl HRG.out ?_ ?_)
                · intro _ hl0
                  have M9 : Hid (MapIs E (aw (j + 1)) (st (j + 1))) := Lib.hid (mapIs_congr HMI.out fun x => by unfold part2; rw [partA_end hl0 HI.out, partA_end hl0 HI.out, HASj.out])
                  have O9 : Hid (OM wz nb (2 ^ (j + 1)) E) := Lib.hid (HOM.out.mono (by have := HNC.out; omega))
                  have X9 : Hid (wz.cell? ⟨bx, 0, none⟩ = some (.int .i64 own1)) := Lib.hid (HGW.out.cell HX9.out (fun e => hbxn (Option.some.inj e)))
                  have F9 : Hid (wz.frozen? ⟨bx, 0, none⟩ = false) := Lib.hid ((World.frozen?_of_block (a := ⟨bx, 0, none⟩) (HGW.out.block bx hbx9 (fun e => hbxn (Option.some.inj e)))).trans HF9.out)
                  have G9 : Hid (w7.grownBy wz (some bx)) := Lib.hid (HG9.out.andThen HGW.out (fun q e => by cases e; exact .inl hnb8))
                  clear hl0
                  go_wp2_with fail
                  go_roundw
                  case rel => exact ⟨j + 1, nb, E, by omega, by go_num, rfl, O9.out, M9.out, by omega, by rw [HOW1.out]; exact X9.out, F9.out, G9.out⟩
                  case measure => simp [intOf]; omega
                · intro s c1 w1 cnt1 hwx hwc hlx hat hrg1 hlt1 hg1 hs1 hen
                  have hh := has_true_of_atKey hat
                  obtain ⟨hx0, hx1⟩ := HI.out.2.1 s hh
                  have hc1 : c1 = aw j s := by
                    have h1 := HI.out.2.2 s
                    rw [show D.atKey (kI s) (.lit (.int .i64 0)) = .lit (.int .i64 c1) from hat _] at h1
                    injection h1 with h1
                    injection h1
                  have hst := HSSj.out
                  have hsa := HSAj.out
                  have hrr := HRI'.out
                  have HRG1 := Lib.hid hrg1
                  have HLT1 := Lib.hid hlt1
                  have HGW1 := Lib.hid (HGW.out.andThen hg1 (fun q hq => by cases hq; exact Or.inl (Nat.le_refl _)))
                  have HO1 : Hid (OM w1 nb n' E) := Lib.hid (HOM.out.kept hg1 (fun e => by have e := Option.some.inj e; omega))
                  obtain ⟨sr, hsr0⟩ : ∃ sr, sr = s + r := ⟨_, rfl⟩
                  have hwk : IntKind.i64.wrap (s + r) = sr := by rw [hsr0]; exact IntWalk.i64_in _ (by omega)
                  have hwfs : (Lit.int .i64 s).wf = true := WalkArith.wf_i64 (by omega)
                  have hwfr : (Lit.int .i64 sr).wf = true := WalkArith.wf_i64 (by omega)
                  have HIN : Hid (-((st (j + 1) : Nat) : Int) ≤ s ∧ s ≤ (st (j + 1) : Nat)) := Lib.hid (by omega)
                  have HINr : Hid (-((st (j + 1) : Nat) : Int) ≤ sr ∧ sr ≤ (st (j + 1) : Nat)) := Lib.hid (by omega)
                  have hn'm : n' < maxLen := by have h1 := HNC.out; have h2 := HP3.out; unfold maxLen; omega
                  have hn2m : n' + 1 < maxLen := by have h1 := HNC.out; have h2 := HP3.out; unfold maxLen; omega
                  have hMle : ((2 ^ j : Nat) : Int) ≤ 1099511627776 := Int.ofNat_le.2 (two_few (by omega))
                  have hM0 : (0 : Int) ≤ ((2 ^ j : Nat) : Int) := Int.natCast_nonneg _
                  have hle2 := part2_le (r := r) (Dp := D) (left := left) (M := ((2 ^ j : Nat) : Int)) hM0 HALj.out s
                  have hle1 := part1_le (r := r) (s := s) (Dp := D) (left := left) (M := ((2 ^ j : Nat) : Int)) hM0 HALj.out sr
                  have hle0 := HALj.out s
                  generalize ((2 ^ j : Nat) : Int) = M at hle2 hle1 hle0 hMle hM0
                  have HW1 : Hid (wrap64 (part2 (aw j) r D left s + aw j s) = part2 (aw j) r D left s + aw j s) := Lib.hid (by rw [w64]; exact IntWalk.i64_in _ (by omega))
                  have HW2 : Hid (wrap64 (part1 (aw j) r D left s sr + aw j s) = part1 (aw j) r D left s sr + aw j s) := Lib.hid (by rw [w64]; exact IntWalk.i64_in _ (by omega))
                  have HST : Hid (∀ x, updF (part1 (aw j) r D left s) sr (part1 (aw j) r D left s sr + aw j s) x = part2 (aw j) r D (fun z => left z && !z.sameKey (kI s)) x) := Lib.hid fun x => by rw [hsr0]; exact part2_step (by omega) hh hlx x
                  have HN1 : Hid (part1 (aw j) r D left s = updF (part2 (aw j) r D left) s (part2 (aw j) r D left s + aw j s)) := Lib.hid rfl
                  have HC1 : Hid (c1 = aw j s) := Lib.hid hc1
                  have hnw : nb < W9.heap.size := hnb9
                  clear hc1 hx0 hx1 hat hh hlx hrg1 hlt1 hg1 hst hsa hrr hsr0 hle2 hle1 hle0 hMle hM0
                  go_upto_region 22 with first
                    | (at_lookup; refine wpList_lookup_own_int _ rfl _ _ 78 rfl 2 2 .i64 keyed Try.underlying78 Try.underlying2 (zeroI _) nb n' _ rfl HO1.out _ _ rfl (keyOf_int_mk Try.underlying2 hwfs) ?_; intro c2 hat2 hwc2)
                    | (at_mapUpdate; refine wpList_mapUpdate_own _ rfl _ _ _ 78 rfl 2 2 keyed Try.underlying78 _ nb n' _ rfl HO1.out hn'm _ _ _ rfl rfl (keyOf_int_mk Try.underlying2 hwfs) _ [] (plainElem_int Try.underlying2 (wrap64_wf _)) ?_; intro w5 hown5 hgrow5)
                  have hc2 : c2 = part2 (aw j) r D left s := by
                    have h1 := HMI.out.2.2 s
                    rw [show E.atKey (kI s) (.lit (.int .i64 0)) = .lit (.int .i64 c2) from hat2] at h1
                    injection h1 with h1
                    injection h1
                  have e1 := HC1.out
                  subst hc2 e1
                  have M5 : Hid (MapIs (E.put (kI s) (.lit (.int .i64 (wrap64 (part2 (aw j) r D left s + aw j s))))) (part1 (aw j) r D left s) (st (j + 1))) := Lib.hid (by rw [HW1.out, HN1.out]; exact mapIs_put HMI.out HIN.out (Nat.le_refl _) _)
                  have G5 := Lib.hid (HGW1.out.andThen hgrow5 (fun q hq => by cases hq; exact Or.inr rfl))
                  have R5 := Lib.hid (HRG1.out.kept hgrow5 (fun e => hbn (Option.some.inj e)) (fun e => by have e := Option.some.inj e; omega))
                  have O5 : Hid (OM w5 nb (n' + 1) (E.put (kI s) (.lit (.int .i64 (wrap64 (part2 (aw j) r D left s + aw j s)))))) := Lib.hid hown5
                  clear hown5 hgrow5 hat2 hwc2
                  generalize E.put (kI s) (.lit (.int .i64 (wrap64 (part2 (aw j) r D left s + aw j s)))) = E1 at *
                  go_wp2_with first
                    | (at_lookup; refine wpList_lookup_own_int _ rfl _ _ 78 rfl 2 2 .i64 keyed Try.underlying78 Try.underlying2 (zeroI _) nb (n' + 1) _ rfl O5.out _ _ rfl (keyOf_int_mk Try.underlying2 hwfr) ?_; intro c3 hat3 hwc3)
                    | (at_mapUpdate; refine wpList_mapUpdate_own _ rfl _ _ _ 78 rfl 2 2 keyed Try.underlying78 _ nb (n' + 1) _ rfl O5.out hn2m _ _ _ rfl rfl (keyOf_int_mk Try.underlying2 hwfr) _ [] (plainElem_int Try.underlying2 (wrap64_wf _)) ?_; intro w6 hown6 hgrow6)
                  have hc3 : c3 = part1 (aw j) r D left s sr := by
                    have h1 := M5.out.2.2 sr
                    rw [show E1.atKey (kI sr) (.lit (.int .i64 0)) = .lit (.int .i64 c3) from hat3] at h1
                    injection h1 with h1
                    injection h1
                  subst hc3
                  have M6 : Hid (MapIs (E1.put (kI sr) (.lit (.int .i64 (wrap64 (part1 (aw j) r D left s sr + aw j s))))) (part2 (aw j) r D (fun z => left z && !z.sameKey (kI s))) (st (j + 1))) := Lib.hid (by rw [HW2.out]; exact mapIs_congr (mapIs_put M5.out HINr.out (Nat.le_refl _) _) HST.out)
                  have G6 := Lib.hid (G5.out.andThen hgrow6 (fun q hq => by cases hq; exact Or.inr rfl))
                  have R6' := Lib.hid (R5.out.kept hgrow6 (fun e => hbn (Option.some.inj e)) (fun e => by have e := Option.some.inj e; omega))
                  have O6 := Lib.hid hown6
                  clear hown6 hgrow6 hat3 hwc3
                  go_wp2_with fail
                  go_roundw
                  case rel => exact ⟨_, _, R6'.out, n' + 1 + 1, _, O6.out, by have := HNC.out; have := HLT1.out; omega, M6.out, G6.out⟩
                  case measure => rw [R6'.out.left_eq, HRG.out.left_eq]; exact HLT1.out
          · obtain rfl : j = i := by omega
            have HCWj := Lib.hid fun (m : Nat) => HCW.out b bx D (wk.drewN m) (HM.out.kept (row := none) ⟨rfl, rfl, rfl, Nat.le_refl _, fun _ _ _ => rfl⟩ (by simp)) HI.out hx
            have HBG := Lib.hid (BG.out wk HG.out)
            have hmf : ∀ (fn : Fn) (first cap : Array Value) (w : World), (Instr.makeFunc fn first cap).run Try.prog w = .ok (.func fn first cap) w := fun _ _ _ _ => rfl
            have hp3 := two_few (i := j) (by omega)
            have HPI : Hid (((2 ^ j : Nat) : Int) = (2 : Int) ^ j) := Lib.hid (by push_cast; rfl)
            have hsh : IntKind.i64.wrap ((2 : Int) ^ j) = (2 : Int) ^ j := by
              rw [← HPI.out]
              generalize 2 ^ j = q at *
              exact IntWalk.i64_in _ (by omega)
            have HL0 := Lib.hid hL0
            clear HM HI HG hx hf hp3 HCW
            have HSH := Lib.hid hsh
            clear hsh
            go_upto_region 25 with fail
            go_region_held3 (fun W => True)
              (exact trivial)
              (first | (go_at_call 51; refine (HCWj.out _).mono ?_; rintro e w9 ⟨rfl, hb9⟩; have B9 := Lib.hid (below_next (below_dn HBG.out _) hb9); clear hb9))
            all_goals
              go_wp2_with fail
              go_ret3
              refine ⟨?_, B9.out⟩
              show Ending.returned (.tuple #[.int .i64 (SV : Nat), .int .i64 (IntKind.i64.wrap ((2 : Int) ^ j)), .bool true]) = Ending.returned (.tuple #[.int .i64 (SV : Nat), .int .i64 ((2 : Int) ^ j), .bool true])
              rw [HSH.out]
end Go.Proofs.Ytfkjnaaplhcheaa.Sb
