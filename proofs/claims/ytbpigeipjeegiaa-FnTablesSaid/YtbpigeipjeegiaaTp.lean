/-
  Maps keyed by pairs of counts (plain): a map that is filled out of another one, in whatever order; how many tables of 2 rows and 2 columns there are.
-/
import Derived.Test.YtbpigeipjeegiaaVe
import Derived.Maps.Own
import Derived.Maps.OwnOps
import Derived.Maps.RangeWalk
import Derived.Maps.Views
namespace Go.Proofs.Ytbpigeipjeegiaa
open Go Go.RowKit Go.Maps Go.WideShapes

abbrev DV := DataW Unit
def kP (u v : Nat) : Lit := .string (keyBytes [.int .i64 u, .int .i64 v, .int .i64 0, .int .i64 0])
def InjP : Prop := ∀ u v u' v' : Nat, u ≤ 24 → v ≤ 24 → u' ≤ 24 → v' ≤ 24 → kP u v = kP u' v' → u = u' ∧ v = v'
theorem kP_key (u v : Nat) : WideAt.IsKeyLit (kP u v) := by
  unfold kP WideAt.IsKeyLit
  trivial
def cntP (D : DV) (C0 C1 : Nat) : Nat := sumN (fun u => sumN (fun v => if has D (kP u v) = true then 1 else 0) (C1 + 1)) (C0 + 1)
theorem sumN_const (c : Nat) : ∀ k, sumN (fun _ => c) k = k * c
  | 0 => by simp [sumN]
  | k + 1 => by
    show sumN (fun _ => c) k + c = _
    rw [sumN_const c k, Nat.succ_mul]
theorem cntP_le (D : DV) (C0 C1 : Nat) : cntP D C0 C1 ≤ (C0 + 1) * (C1 + 1) := by
  unfold cntP
  refine Nat.le_trans (sumN_le (g := fun _ => C1 + 1) _ fun u _ => Nat.le_trans (sumN_le (g := fun _ => 1) _ fun v _ => by split <;> omega) (by rw [sumN_const]; omega)) ?_
  rw [sumN_const]
  exact Nat.le_refl _
theorem sumN_upd {F G : Nat → Nat} : ∀ {k p : Nat}, p < k → (∀ i, i < k → i ≠ p → F i = G i) → sumN F k + G p = sumN G k + F p
  | k + 1, p, hp, h => by
    show sumN F k + F k + G p = sumN G k + G k + F p
    by_cases hk : p = k
    · subst hk
      rw [sumN_congr p fun i hi => h i (by omega) (by omega)]
      omega
    · have h1 := sumN_upd (F := F) (G := G) (show p < k by omega) fun i hi hn => h i (by omega) hn
      have h2 := h k (by omega) (fun e => hk e.symm)
      omega
theorem cntP_put (I : InjP) {D : DV} {C0 C1 u v : Nat} (hC : C0 ≤ 24 ∧ C1 ≤ 24) (hD : IsMap D) (hu : u ≤ C0) (hv : v ≤ C1) (d : DV) : cntP (D.put (kP u v) d) C0 C1 = cntP D C0 C1 + (if has D (kP u v) = true then 0 else 1) := by
  have hne : ∀ u' v', u' ≤ C0 → v' ≤ C1 → ¬ (u' = u ∧ v' = v) → has (D.put (kP u v) d) (kP u' v') = has D (kP u' v') := fun u' v' a b c => has_put_other (fun e => c (I _ _ _ _ (by omega) (by omega) (by omega) (by omega) e)) d
  have hs := has_put_same hD (kP_key u v) d
  have inner := sumN_upd (F := fun v' => if has (D.put (kP u v) d) (kP u v') = true then 1 else 0) (G := fun v' => if has D (kP u v') = true then 1 else 0) (k := C1 + 1) (p := v) (by omega) fun i hi hn => by rw [hne u i hu (by omega) (fun e => hn e.2)]
  have outer := sumN_upd (F := fun u' => sumN (fun v' => if has (D.put (kP u v) d) (kP u' v') = true then 1 else 0) (C1 + 1)) (G := fun u' => sumN (fun v' => if has D (kP u' v') = true then 1 else 0) (C1 + 1)) (k := C0 + 1) (p := u) (by omega) fun i hi hn => by
    refine sumN_congr _ fun v' hv' => ?_
    rw [hne i v' (by omega) (by omega) (fun e => hn e.1)]
  rw [if_pos hs] at inner
  unfold cntP
  split at inner
  · next h => rw [if_pos h]; omega
  · next h => rw [if_neg h]; omega
def MapP (D : DV) (C0 C1 : Nat) (g : Nat → Nat → Nat) : Prop := (Tidy D ∧ size D = cntP D C0 C1) ∧ (∀ kl, has D kl = true → ∃ u v, u ≤ C0 ∧ v ≤ C1 ∧ kl = kP u v) ∧ (∀ u v, u ≤ C0 → v ≤ C1 → D.atKey (kP u v) (.lit (.int .i64 0)) = .lit (.int .i64 (IntKind.i64.wrap (g u v)))) ∧ ∀ u v, u ≤ C0 → v ≤ C1 → has D (kP u v) = false → g u v = 0
theorem mapP_empty (C0 C1 : Nat) : MapP (.map []) C0 C1 (fun _ _ => 0) := by
  refine ⟨⟨tidy_empty, ?_⟩, fun kl h => ?_, fun u v _ _ => rfl, fun u v _ _ _ => rfl⟩
  · unfold cntP
    rw [sumN_zero _ fun u _ => sumN_zero _ fun v _ => by rw [has_eq]; simp]
    rfl
  rw [has_eq] at h
  simp at h
def bump (g : Nat → Nat → Nat) (u v m : Nat) : Nat → Nat → Nat := fun u' v' => if u' = u ∧ v' = v then g u' v' + m else g u' v'
theorem mapP_congr {D : DV} {C0 C1 : Nat} {g g' : Nat → Nat → Nat} (h : MapP D C0 C1 g) (he : ∀ u v, g u v = g' u v) : MapP D C0 C1 g' :=
  ⟨h.1, h.2.1, fun u v hu hv => by rw [← he]; exact h.2.2.1 u v hu hv, fun u v hu hv hn => by rw [← he]; exact h.2.2.2 u v hu hv hn⟩
theorem mapP_put (I : InjP) {D : DV} {C0 C1 u v m : Nat} {g : Nat → Nat → Nat} (hC : C0 ≤ 24 ∧ C1 ≤ 24) (h : MapP D C0 C1 g) (hu : u ≤ C0) (hv : v ≤ C1) {x : Int} (hx : x = IntKind.i64.wrap ((g u v + m : Nat) : Int)) : MapP (D.put (kP u v) (.lit (.int .i64 x))) C0 C1 (bump g u v m) := by
  obtain ⟨⟨ht, hsz⟩, h2, h3, h4⟩ := h
  have h1 := ht.isMap
  have hne : ∀ u' v', u' ≤ C0 → v' ≤ C1 → ¬ (u' = u ∧ v' = v) → kP u' v' ≠ kP u v := fun u' v' a b c e => c (I _ _ _ _ (by omega) (by omega) (by omega) (by omega) e)
  refine ⟨⟨ht.put (kP_key _ _) _, ?_⟩, fun kl hk => ?_, fun u' v' a b => ?_, fun u' v' a b hn => ?_⟩
  · rw [size_put ht, hsz, cntP_put I hC h1 hu hv]
    split <;> omega
  · by_cases he : kl = kP u v
    · exact ⟨u, v, hu, hv, he⟩
    · rw [has_put_other he] at hk
      exact h2 kl hk
  · unfold bump
    by_cases he : u' = u ∧ v' = v
    · rw [if_pos he, he.1, he.2, atKey_put_same h1 (kP_key _ _), hx]
    · rw [if_neg he, atKey_put_other (hne u' v' a b he)]
      exact h3 u' v' a b
  · unfold bump
    by_cases he : u' = u ∧ v' = v
    · rw [he.1, he.2, has_put_same h1 (kP_key _ _)] at hn
      cases hn
    · rw [if_neg he]
      rw [has_put_other (hne u' v' a b he)] at hn
      exact h4 u' v' a b hn
/-- is there a row of sum r that leads from one pair to another? -/
def wayP (r u v k1 k2 : Nat) : Nat := if k1 ≤ u ∧ k2 ≤ v ∧ u - k1 + (v - k2) = r then 1 else 0
def partG (f : Nat → Nat → Nat) (C0 C1 r : Nat) (left : Lit → Bool) (k1 k2 : Nat) : Nat := sumN (fun u => sumN (fun v => if left (kP u v) = true then 0 else f u v * wayP r u v k1 k2) (C1 + 1)) (C0 + 1)
def nextG (f : Nat → Nat → Nat) (C0 C1 r k1 k2 : Nat) : Nat := sumN (fun u => sumN (fun v => f u v * wayP r u v k1 k2) (C1 + 1)) (C0 + 1)
theorem partG_start {D : DV} {C0 C1 : Nat} {f : Nat → Nat → Nat} (h : MapP D C0 C1 f) (r k1 k2 : Nat) : partG f C0 C1 r (has D) k1 k2 = 0 := by
  unfold partG
  refine sumN_zero _ fun u hu => sumN_zero _ fun v hv => ?_
  split
  · rfl
  · next hn => rw [h.2.2.2 u v (by omega) (by omega) (by simpa using hn), Nat.zero_mul]
theorem partG_end {C0 C1 : Nat} {f : Nat → Nat → Nat} {left : Lit → Bool} (hl : ∀ k, left k = false) (r k1 k2 : Nat) : partG f C0 C1 r left k1 k2 = nextG f C0 C1 r k1 k2 := by
  unfold partG nextG
  refine sumN_congr _ fun u _ => sumN_congr _ fun v _ => ?_
  rw [if_neg (by rw [hl]; simp)]
theorem partG_step (I : InjP) {C0 C1 u v : Nat} {f : Nat → Nat → Nat} {left : Lit → Bool} (hC : C0 ≤ 24 ∧ C1 ≤ 24) (hu : u ≤ C0) (hv : v ≤ C1) (hl : left (kP u v) = true) (r k1 k2 : Nat) :
    partG f C0 C1 r (fun z => left z && !z.sameKey (kP u v)) k1 k2 = partG f C0 C1 r left k1 k2 + f u v * wayP r u v k1 k2 := by
  have hs : (kP u v).sameKey (kP u v) = true := WideAt.sameKey_self (kP_key _ _)
  have hne : ∀ u' v', u' ≤ C0 → v' ≤ C1 → ¬ (u' = u ∧ v' = v) → (kP u' v').sameKey (kP u v) = false := fun u' v' a b c => sameKey_ne fun e => c (I _ _ _ _ (by omega) (by omega) (by omega) (by omega) e)
  have inner : sumN (fun v' => if (left (kP u v') && !(kP u v').sameKey (kP u v)) = true then 0 else f u v' * wayP r u v' k1 k2) (C1 + 1) = sumN (fun v' => if left (kP u v') = true then 0 else f u v' * wayP r u v' k1 k2) (C1 + 1) + f u v * wayP r u v k1 k2 := by
    have := sumN_upd (F := fun v' => if (left (kP u v') && !(kP u v').sameKey (kP u v)) = true then 0 else f u v' * wayP r u v' k1 k2) (G := fun v' => if left (kP u v') = true then 0 else f u v' * wayP r u v' k1 k2) (k := C1 + 1) (p := v) (by omega) fun i hi hn => by
      rw [hne u i hu (by omega) (fun e => hn e.2), Bool.not_false, Bool.and_true]
    rw [hl, hs] at this
    simp only [Bool.not_true, Bool.and_false, if_true] at this
    simpa using this
  have outer := sumN_upd (F := fun u' => sumN (fun v' => if (left (kP u' v') && !(kP u' v').sameKey (kP u v)) = true then 0 else f u' v' * wayP r u' v' k1 k2) (C1 + 1)) (G := fun u' => sumN (fun v' => if left (kP u' v') = true then 0 else f u' v' * wayP r u' v' k1 k2) (C1 + 1)) (k := C0 + 1) (p := u) (by omega) fun i hi hn => by
    refine sumN_congr _ fun v' hv' => ?_
    rw [hne i v' (by omega) (by omega) (fun e => hn e.1), Bool.not_false, Bool.and_true]
  rw [inner] at outer
  have e : partG f C0 C1 r (fun z => left z && !z.sameKey (kP u v)) k1 k2 = sumN (fun u' => sumN (fun v' => if (left (kP u' v') && !(kP u' v').sameKey (kP u v)) = true then 0 else f u' v' * wayP r u' v' k1 k2) (C1 + 1)) (C0 + 1) := rfl
  rw [e]
  unfold partG
  omega
/-- what all rows of one entry add -/
theorem rows_bump (u v r m : Nat) (g : Nat → Nat → Nat) (k1 k2 : Nat) : goRows (fun (g : Nat → Nat → Nat) row => bump g (u - row[0]!) (v - row[1]!) m) [] (rowsOf [u, v] r) g k1 k2 = g k1 k2 + m * wayP r u v k1 k2 := by
  rw [goRows_two]
  have H : ∀ K, K ≤ min r u + 1 → foldN (fun n (y : Nat → Nat → Nat) => if r - n ≤ v then bump y (u - ([] ++ [n, r - n])[0]!) (v - ([] ++ [n, r - n])[1]!) m else y) K g k1 k2 = g k1 k2 + m * (if k1 ≤ u ∧ u - k1 < K ∧ r - (u - k1) ≤ v ∧ k2 = v - (r - (u - k1)) then 1 else 0) := by
    intro K
    induction K with
    | zero =>
      intro _
      rw [if_neg (by omega)]
      rfl
    | succ K ih =>
      intro hK
      have ih := ih (by omega)
      rw [foldN]
      by_cases h1 : r - K ≤ v
      · rw [if_pos h1]
        show (if k1 = u - K ∧ k2 = v - (r - K) then foldN _ K g k1 k2 + m else foldN _ K g k1 k2) = _
        rw [ih]
        by_cases h2 : k1 = u - K ∧ k2 = v - (r - K)
        · rw [if_pos h2, if_neg (by omega), if_pos (by
            have : u - k1 = K := by omega
            rw [this]
            exact ⟨by omega, by omega, h1, h2.2⟩)]
          omega
        · rw [if_neg h2]
          congr 2
          by_cases h3 : k1 ≤ u ∧ u - k1 < K ∧ r - (u - k1) ≤ v ∧ k2 = v - (r - (u - k1))
          · rw [if_pos h3, if_pos ⟨h3.1, by omega, h3.2.2⟩]
          · rw [if_neg h3, if_neg]
            intro h4
            by_cases h5 : u - k1 = K
            · rw [h5] at h4
              exact h2 ⟨by omega, h4.2.2.2⟩
            · exact h3 ⟨h4.1, by omega, h4.2.2⟩
      · rw [if_neg h1, ih]
        congr 2
        by_cases h3 : k1 ≤ u ∧ u - k1 < K ∧ r - (u - k1) ≤ v ∧ k2 = v - (r - (u - k1))
        · rw [if_pos h3, if_pos ⟨h3.1, by omega, h3.2.2⟩]
        · rw [if_neg h3, if_neg]
          intro h4
          by_cases h5 : u - k1 = K
          · rw [h5] at h4
            exact h1 h4.2.2.1
          · exact h3 ⟨h4.1, by omega, h4.2.2⟩
  rw [H _ (Nat.le_refl _)]
  congr 2
  unfold wayP
  by_cases h : k1 ≤ u ∧ k2 ≤ v ∧ u - k1 + (v - k2) = r
  · rw [if_pos h, if_pos (by omega)]
  · rw [if_neg h, if_neg (by omega)]
theorem sumN_run (lo hi : Nat) : ∀ (k : Nat), sumN (fun u => if lo ≤ u ∧ u ≤ hi then 1 else 0) k = min k (hi + 1) - lo
  | 0 => by
    show 0 = _
    omega
  | k + 1 => by
    show sumN (fun u => if lo ≤ u ∧ u ≤ hi then 1 else 0) k + (if lo ≤ k ∧ k ≤ hi then 1 else 0) = _
    rw [sumN_run lo hi k]
    split <;> omega
def startG (C0 C1 : Nat) : Nat → Nat → Nat := fun u v => if u = C0 ∧ v = C1 then 1 else 0
theorem next_one (C0 C1 r k1 k2 : Nat) : nextG (startG C0 C1) C0 C1 r k1 k2 = wayP r C0 C1 k1 k2 := by
  unfold nextG startG
  show sumN _ C0 + (sumN _ C1 + _) = _
  rw [sumN_zero C0 fun u hu => sumN_zero _ fun v hv => by rw [if_neg (by omega), Nat.zero_mul], sumN_zero C1 fun v hv => by rw [if_neg (by omega), Nat.zero_mul]]
  show 0 + (0 + (if C0 = C0 ∧ C1 = C1 then 1 else 0) * wayP r C0 C1 k1 k2) = _
  rw [if_pos ⟨rfl, rfl⟩]
  omega
theorem next_two (a b c d : Nat) : nextG (nextG (startG (a + c) (b + d)) (a + c) (b + d) (a + b)) (a + c) (b + d) (c + d) 0 0 = manyT a b c d := by
  unfold nextG
  rw [sumN_congr (g := fun u => if (c + d) - (b + d) ≤ u ∧ u ≤ c + d then 1 else 0) _ fun u hu => ?_]
  · rw [sumN_run]
    unfold manyT lowT
    omega
  · by_cases h : (c + d) - (b + d) ≤ u ∧ u ≤ c + d
    · rw [if_pos h]
      have := sumN_one (fun _ => 1) (k := b + d + 1) (p := c + d - u) (by omega)
      refine Eq.trans (sumN_congr _ fun v hv => ?_) this
      have e := next_one (a + c) (b + d) (a + b) u v
      unfold nextG at e
      rw [e]
      unfold wayP
      by_cases h2 : v = c + d - u
      · rw [if_pos (by omega), if_pos (by omega), if_pos h2]
      · rw [if_neg (show ¬ (0 ≤ u ∧ 0 ≤ v ∧ u - 0 + (v - 0) = c + d) by omega), if_neg h2, Nat.mul_zero]
    · rw [if_neg h]
      refine sumN_zero _ fun v hv => ?_
      rw [show wayP (c + d) u v 0 0 = 0 from if_neg (by omega), Nat.mul_zero]
end Go.Proofs.Ytbpigeipjeegiaa
