/-
  In how many ways so many of some numbers have a sum: by a table (plain), and by maps that are filled in whatever order (plain).
-/
import Derived.Test.YtmpnfjajlmafgaaRs
import Derived.Maps.Own
import Derived.Maps.OwnOps
import Derived.Maps.RangeWalk
import Derived.Maps.Views
namespace Go.Proofs.Ytmpnfjajlmafgaa
open Go Go.RowKit Go.Maps Go.WideShapes

/-- in how many ways k of the first i numbers have the sum x -/
def way (rs : List Nat) : Nat → Nat → Nat → Int
  | 0, k, x => if k = 0 ∧ x = 0 then 1 else 0
  | i + 1, 0, x => way rs i 0 x
  | i + 1, k + 1, x => if rs.getD i 0 ≤ x then IntKind.i64.wrap (way rs i (k + 1) x + way rs i k (x - rs.getD i 0)) else way rs i (k + 1) x
def okI (a : Int) : Prop := -9223372036854775808 ≤ a ∧ a ≤ 9223372036854775807
theorem wrap_ok (a : Int) : okI (IntKind.i64.wrap a) := by unfold okI; rw [IntKind.wrap_i64]; omega
theorem wrap_of_ok {a : Int} (h : okI a) : IntKind.i64.wrap a = a := IntWalk.i64_in _ h
theorem way_ok (rs : List Nat) : ∀ i k x, okI (way rs i k x)
  | 0, k, x => by
    show okI (if k = 0 ∧ x = 0 then 1 else 0)
    unfold okI
    split <;> omega
  | i + 1, 0, x => way_ok rs i 0 x
  | i + 1, k + 1, x => by
    show okI (if rs.getD i 0 ≤ x then IntKind.i64.wrap (way rs i (k + 1) x + way rs i k (x - rs.getD i 0)) else way rs i (k + 1) x)
    split
    · exact wrap_ok _
    · exact way_ok rs i (k + 1) x

def kI (x : Int) : Lit := .int .i64 x
abbrev DU := DataW Unit
/-- a map that reads as a table: its keys are no greater than S -/
def MapIs (D : DU) (f : Nat → Int) (S : Nat) : Prop := IsMap D ∧ (∀ x : Int, has D (kI x) = true → 0 ≤ x ∧ x ≤ S) ∧ ∀ x : Nat, D.atKey (kI x) (.lit (.int .i64 0)) = .lit (.int .i64 (f x))
theorem kI_ne {x y : Int} (h : x ≠ y) : kI x ≠ kI y := fun e => h (by
  unfold kI at e
  injection e)
theorem kI_key (x : Int) : WideAt.IsKeyLit (kI x) := by
  unfold kI WideAt.IsKeyLit
  trivial
theorem mapIs_empty (S : Nat) : MapIs (.map [] : DU) (fun _ => 0) S := by
  refine ⟨isMap_empty, fun x h => ?_, fun x => rfl⟩
  rw [has_eq] at h
  simp at h
def updF (f : Nat → Int) (s : Nat) (v : Int) : Nat → Int := fun x => if x = s then v else f x
theorem mapIs_put {D : DU} {f : Nat → Int} {S S' s : Nat} (h : MapIs D f S) (hs : s ≤ S') (hS : S ≤ S') (v : Int) : MapIs (D.put (kI s) (.lit (.int .i64 v))) (updF f s v) S' := by
  obtain ⟨h1, h2, h3⟩ := h
  refine ⟨h1.put _ _, fun x hx => ?_, fun x => ?_⟩
  · by_cases he : x = s
    · omega
    · rw [has_put_other (kI_ne he)] at hx
      have := h2 x hx
      omega
  · unfold updF
    by_cases he : x = s
    · rw [if_pos he, he, atKey_put_same h1 (kI_key _)]
    · rw [if_neg he, atKey_put_other (kI_ne (by omega))]
      exact h3 x
theorem mapIs_congr {D : DU} {f g : Nat → Int} {S : Nat} (h : MapIs D f S) (he : ∀ x, f x = g x) : MapIs D g S := ⟨h.1, h.2.1, fun x => by rw [← he x]; exact h.2.2 x⟩
theorem mapIs_mono {D : DU} {f : Nat → Int} {S S' : Nat} (h : MapIs D f S) (hS : S ≤ S') : MapIs D f S' := ⟨h.1, fun x hx => by have := h.2.1 x hx; omega, h.2.2⟩
theorem mapIs_none {D : DU} {f : Nat → Int} {S x : Nat} (h : MapIs D f S) (hn : has D (kI x) = false) : f x = 0 := by
  have h1 := h.2.2 x
  rw [atKey_of_not_has hn] at h1
  injection h1 with h1
  injection h1 with _ h2
  exact h2.symm
/-- a map that is partly filled out of another one -/
def partF (f0 fp : Nat → Int) (r : Nat) (Dp : DU) (left : Lit → Bool) : Nat → Int := fun x =>
  if decide (r ≤ x) && (has Dp (kI ((x - r : Nat) : Int)) && !left (kI ((x - r : Nat) : Int))) then IntKind.i64.wrap (f0 x + fp (x - r)) else f0 x
theorem part_start (f0 fp : Nat → Int) (r : Nat) (Dp : DU) (x : Nat) : partF f0 fp r Dp (has Dp) x = f0 x := by
  unfold partF
  rw [if_neg]
  cases has Dp (kI ((x - r : Nat) : Int)) <;> simp
theorem part_at {f0 fp : Nat → Int} {r s : Nat} {Dp : DU} {left : Lit → Bool} (hl : left (kI s) = true) : partF f0 fp r Dp left (s + r) = f0 (s + r) := by
  unfold partF
  rw [if_neg]
  rw [Nat.add_sub_cancel, hl]
  simp
theorem sameKey_kI (x y : Int) : (kI x).sameKey (kI y) = decide (x = y) := by
  by_cases h : x = y
  · rw [h, decide_eq_true rfl]
    exact WideAt.sameKey_self (kI_key _)
  · rw [decide_eq_false h, sameKey_ne (kI_ne h)]
theorem part_step {f0 fp : Nat → Int} {r s : Nat} {Dp : DU} {left : Lit → Bool} (hh : has Dp (kI s) = true) (x : Nat) :
    updF (partF f0 fp r Dp left) (s + r) (IntKind.i64.wrap (f0 (s + r) + fp s)) x = partF f0 fp r Dp (fun z => left z && !z.sameKey (kI s)) x := by
  unfold updF partF
  by_cases hx : x = s + r
  · subst hx
    have hsk : (kI (s : Int)).sameKey (kI (s : Int)) = true := by rw [sameKey_kI]; simp
    rw [if_pos rfl, Nat.add_sub_cancel, hh]
    dsimp only
    rw [if_pos (by rw [hsk]; simp)]
  · rw [if_neg hx]
    by_cases hr : r ≤ x
    · have hne : decide (((x - r : Nat) : Int) = (s : Int)) = false := decide_eq_false (by omega)
      simp only [sameKey_kI, hne, Bool.not_false, Bool.and_true]
    · rw [decide_eq_false hr]
      simp
theorem part_end {f0 fp : Nat → Int} {r S : Nat} {Dp : DU} {left : Lit → Bool} (hl : ∀ k, left k = false) (hp : MapIs Dp fp S) (h0 : ∀ x, okI (f0 x)) (x : Nat) :
    partF f0 fp r Dp left x = if r ≤ x then IntKind.i64.wrap (f0 x + fp (x - r)) else f0 x := by
  unfold partF
  rw [hl]
  by_cases hr : r ≤ x
  · rw [if_pos hr, decide_eq_true hr]
    cases hh : has Dp (kI ((x - r : Nat) : Int)) with
    | true => rfl
    | false =>
      rw [mapIs_none hp hh, Int.add_zero, wrap_of_ok (h0 x)]
      rfl
  · rw [if_neg hr, decide_eq_false hr]
    rfl
theorem own_size {H : Type} {P : Program} {k : TypeId} {R : Value → Option (DataW H × List MemPlace)} {w : World} {b n : Nat} {D : DataW H} (h : w.ownsMap P k R b n D) : Maps.size D ≤ n := by
  obtain ⟨es, clock, hb, F, hs, rfl⟩ := h
  show (_ : List _).length ≤ n
  rw [length_sorted, List.length_map]
  simpa using hs

/-- a sum over the first so many -/
def sumF (g : Nat → Int) : Nat → Int
  | 0 => 0
  | n + 1 => sumF g n + g n
theorem sumF_congr {g g' : Nat → Int} : ∀ n, (∀ x, x < n → g x = g' x) → sumF g n = sumF g' n
  | 0, _ => rfl
  | n + 1, h => by
    show sumF g n + g n = sumF g' n + g' n
    rw [sumF_congr n fun x hx => h x (by omega), h n (by omega)]
theorem sumF_add {g g' : Nat → Int} {s : Nat} {v : Int} : ∀ n, s < n → (∀ x, x ≠ s → g' x = g x) → g' s = g s + v → sumF g' n = sumF g n + v
  | 0, h, _, _ => by omega
  | n + 1, h, he, hs => by
    show sumF g' n + g' n = sumF g n + g n + v
    by_cases hn : s = n
    · subst hn
      rw [sumF_congr (g := g') (g' := g) s fun x hx => he x (by omega), hs]
      omega
    · rw [sumF_add n (by omega) he hs, he n (by omega)]
      omega
theorem sumF_over {g : Nat → Int} {n m : Nat} (h : ∀ x, n ≤ x → g x = 0) (hm : n ≤ m) : sumF g m = sumF g n := by
  obtain ⟨d, rfl⟩ : ∃ d, m = n + d := ⟨m - n, by omega⟩
  induction d with
  | zero => rfl
  | succ d ih =>
    show sumF g (n + d) + g (n + d) = _
    rw [ih (by omega), h _ (by omega), Int.add_zero]
/-- what has been counted of a map, up to a sum -/
def cntF (f : Nat → Int) (own : Nat) (D : DU) (left : Lit → Bool) : Nat → Int := fun x => if (decide (x ≤ own) && (has D (kI x) && !left (kI x))) = true then f x else 0
theorem cnt_start (f : Nat → Int) (own : Nat) (D : DU) (n : Nat) : sumF (cntF f own D (has D)) n = 0 := by
  induction n with
  | zero => rfl
  | succ n ih =>
    show sumF _ n + cntF f own D (has D) n = 0
    rw [ih]
    unfold cntF
    cases has D (kI (n : Nat)) <;> simp
theorem cnt_step {f : Nat → Int} {own s n : Nat} {D : DU} {left : Lit → Bool} (hs : s < n) (hh : has D (kI s) = true) (hl : left (kI s) = true) :
    sumF (cntF f own D fun z => left z && !z.sameKey (kI s)) n = sumF (cntF f own D left) n + (if s ≤ own then f s else 0) := by
  refine sumF_add n hs (fun x hx => ?_) ?_
  · unfold cntF
    have hne : decide ((x : Int) = (s : Int)) = false := decide_eq_false (by omega)
    simp only [sameKey_kI, hne, Bool.not_false, Bool.and_true]
  · unfold cntF
    simp only [sameKey_kI, hh, hl]
    by_cases h : s ≤ own <;> simp [h]
theorem cnt_end {f : Nat → Int} {own S n : Nat} {D : DU} {left : Lit → Bool} (hl : ∀ k, left k = false) (hp : MapIs D f S) (ho : own < n) : sumF (cntF f own D left) n = sumF f (own + 1) := by
  have h1 : sumF (cntF f own D left) n = sumF (fun x => if x ≤ own then f x else 0) n := sumF_congr n fun x hx => by
    unfold cntF
    rw [hl]
    by_cases h : x ≤ own
    · rw [if_pos h, decide_eq_true h]
      cases hh : has D (kI x) with
      | true => rfl
      | false => rw [mapIs_none hp hh]; rfl
    · rw [if_neg h, decide_eq_false h]
      rfl
  rw [h1, sumF_over (n := own + 1) (fun x hx => if_neg (by omega)) (by omega)]
  exact sumF_congr _ fun x hx => if_pos (by omega)
theorem wrap_add (a b : Int) : IntKind.i64.wrap (IntKind.i64.wrap a + b) = IntKind.i64.wrap (a + b) := by
  rw [IntKind.wrap_i64, IntKind.wrap_i64, IntKind.wrap_i64]
  omega
end Go.Proofs.Ytmpnfjajlmafgaa
