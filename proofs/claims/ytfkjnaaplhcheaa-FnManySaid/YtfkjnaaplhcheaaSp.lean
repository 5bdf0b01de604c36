/-
  A stable sort of a row of numbers, plain: exchanged stretches, turned stretches, and what merging needs.
-/
import Derived.Sort.LotA
import Derived.Sort.WalkC
import Derived.Test.YtfkjnaaplhcheaaProg
namespace Go.Proofs.Ytfkjnaaplhcheaa
open Go Go.RowKit Go.Sort

/-- a row rises, from a to b, by a key -/
def Srt (K : Nat → Nat) (d : Array Nat) (a b : Nat) : Prop := ∀ p q, a ≤ p → p < q → q < b → K d[p]! < K d[q]!
/-- the same numbers from a to b, and the rest as it was -/
def Same (a b : Nat) (d d' : Array Nat) : Prop := d'.size = d.size ∧ (∀ x, (∃ p, a ≤ p ∧ p < b ∧ d[p]! = x) ↔ (∃ p, a ≤ p ∧ p < b ∧ d'[p]! = x)) ∧ ∀ p, (p < a ∨ b ≤ p) → d'[p]! = d[p]!
theorem Same.refl (a b : Nat) (d : Array Nat) : Same a b d d := ⟨rfl, fun _ => Iff.rfl, fun _ _ => rfl⟩
theorem Same.trans {a b : Nat} {d e f : Array Nat} (h : Same a b d e) (h' : Same a b e f) : Same a b d f := ⟨h'.1.trans h.1, fun x => (h.2.1 x).trans (h'.2.1 x), fun p hp => (h'.2.2 p hp).trans (h.2.2 p hp)⟩
/-- a stretch within -/
theorem Same.wide {a b a' b' : Nat} {d e : Array Nat} (h : Same a b d e) (ha : a' ≤ a) (hb : b ≤ b') : Same a' b' d e := by
  refine ⟨h.1, fun x => ⟨fun ⟨p, h1, h2, h3⟩ => ?_, fun ⟨p, h1, h2, h3⟩ => ?_⟩, fun p hp => h.2.2 p (by omega)⟩
  · by_cases hp : a ≤ p ∧ p < b
    · obtain ⟨q, q1, q2, q3⟩ := (h.2.1 x).1 ⟨p, hp.1, hp.2, h3⟩
      exact ⟨q, by omega, by omega, q3⟩
    · exact ⟨p, h1, h2, (h.2.2 p (by omega)).trans h3⟩
  · by_cases hp : a ≤ p ∧ p < b
    · obtain ⟨q, q1, q2, q3⟩ := (h.2.1 x).2 ⟨p, hp.1, hp.2, h3⟩
      exact ⟨q, by omega, by omega, q3⟩
    · exact ⟨p, h1, h2, (h.2.2 p (by omega)).symm.trans h3⟩
/-- what all numbers of a stretch are, they stay -/
theorem Same.all {a b : Nat} {d e : Array Nat} (h : Same a b d e) {P : Nat → Prop} (hp : ∀ p, a ≤ p → p < b → P d[p]!) : ∀ p, a ≤ p → p < b → P e[p]! := fun p h1 h2 => by
  obtain ⟨q, q1, q2, q3⟩ := (h.2.1 e[p]!).2 ⟨p, h1, h2, rfl⟩
  rw [← q3]
  exact hp q q1 q2
theorem swp_at (d : Array Nat) {i j : Nat} (hi : i < d.size) (hj : j < d.size) (k : Nat) : (swp d i j)[k]! = if k = i then d[j]! else if k = j then d[i]! else d[k]! := by
  by_cases h1 : k = i
  · subst h1
    rw [if_pos rfl]
    by_cases hij : k = j
    · subst hij
      exact swp_right d k k hj
    · exact swp_left d k j hi hij
  · rw [if_neg h1]
    by_cases h2 : k = j
    · subst h2
      rw [if_pos rfl]
      exact swp_right d i k hj
    · rw [if_neg h2]
      exact swp_other d i j k h1 h2
theorem swp_same {a b i j : Nat} {d : Array Nat} (hi : i < d.size) (hj : j < d.size) (h1 : a ≤ i ∧ i < b) (h2 : a ≤ j ∧ j < b) : Same a b d (swp d i j) := by
  refine ⟨size_swp d i j, fun x => ⟨fun ⟨p, p1, p2, p3⟩ => ?_, fun ⟨p, p1, p2, p3⟩ => ?_⟩, fun p hp => swp_other d i j p (by omega) (by omega)⟩
  · by_cases e1 : p = i
    · exact ⟨j, h2.1, h2.2, by rw [swp_right d i j hj, ← e1, p3]⟩
    · by_cases e2 : p = j
      · exact ⟨i, h1.1, h1.2, by rw [swp_at d hi hj, if_pos rfl, ← e2, p3]⟩
      · exact ⟨p, p1, p2, by rw [swp_other d i j p e1 e2, p3]⟩
  · rw [swp_at d hi hj] at p3
    by_cases e1 : p = i
    · rw [if_pos e1] at p3
      exact ⟨j, h2.1, h2.2, p3⟩
    · rw [if_neg e1] at p3
      by_cases e2 : p = j
      · rw [if_pos e2] at p3
        exact ⟨i, h1.1, h1.2, p3⟩
      · rw [if_neg e2] at p3
        exact ⟨p, p1, p2, p3⟩

/-- n numbers from a on are exchanged with those from b on -/
def swpR (d : Array Nat) (a b : Nat) : Nat → Array Nat
  | 0 => d
  | n + 1 => swp (swpR d a b n) (a + n) (b + n)
theorem swpR_size (d : Array Nat) (a b : Nat) : ∀ n, (swpR d a b n).size = d.size
  | 0 => rfl
  | n + 1 => (size_swp _ _ _).trans (swpR_size d a b n)
theorem swpR_get (d : Array Nat) (a b : Nat) : ∀ n, a + n ≤ b → b + n ≤ d.size → ∀ p, (swpR d a b n)[p]! = if a ≤ p ∧ p < a + n then d[p - a + b]! else if b ≤ p ∧ p < b + n then d[p - b + a]! else d[p]!
  | 0, _, _, p => by
    rw [if_neg (by omega), if_neg (by omega)]
    rfl
  | n + 1, h1, h2, p => by
    have hs := swpR_size d a b n
    show (swp (swpR d a b n) (a + n) (b + n))[p]! = _
    rw [swp_at _ (by omega) (by omega), swpR_get d a b n (by omega) (by omega), swpR_get d a b n (by omega) (by omega), swpR_get d a b n (by omega) (by omega)]
    by_cases e1 : p = a + n
    · rw [if_pos e1, if_neg (by omega), if_neg (by omega), if_pos (by omega)]
      exact congrArg (fun z => d[z]!) (by omega)
    · rw [if_neg e1]
      by_cases e2 : p = b + n
      · rw [if_pos e2, if_neg (by omega), if_neg (by omega), if_neg (by omega), if_pos (by omega)]
        exact congrArg (fun z => d[z]!) (by omega)
      · rw [if_neg e2]
        by_cases e3 : a ≤ p ∧ p < a + n
        · rw [if_pos e3, if_pos (by omega)]
        · rw [if_neg e3, if_neg (show ¬ (a ≤ p ∧ p < a + (n + 1)) by omega)]
          by_cases e4 : b ≤ p ∧ p < b + n
          · rw [if_pos e4, if_pos (by omega)]
          · rw [if_neg e4, if_neg (by omega)]

/-- the stretches from a to m and from m to b change places -/
def IsRot (a m b : Nat) (d e : Array Nat) : Prop := e.size = d.size ∧ ∀ p, e[p]! = if a ≤ p ∧ p < a + (b - m) then d[p - a + m]! else if a + (b - m) ≤ p ∧ p < b then d[p - (b - m)]! else d[p]!
theorem rot_left {d e : Array Nat} {i j m : Nat} (hi : j < i) (him : i ≤ m) (hs : m + j ≤ d.size) (h : IsRot (m - (i - j)) m (m + j) (swpR d (m - i) m j) e) : IsRot (m - i) m (m + j) d e := by
  have hg := swpR_get d (m - i) m j (by omega) hs
  refine ⟨h.1.trans (swpR_size _ _ _ _), fun p => ?_⟩
  rw [h.2 p]
  repeat' split
  all_goals first
    | (exfalso; omega)
    | (rw [hg]; repeat' split)
  all_goals first
    | (exfalso; omega)
    | rfl
    | exact congrArg (fun z => d[z]!) (by omega)
theorem rot_right {d e : Array Nat} {i j m : Nat} (hi : i < j) (him : i ≤ m) (hs : m + j ≤ d.size) (h : IsRot (m - i) m (m + (j - i)) (swpR d (m - i) (m + j - i) i) e) : IsRot (m - i) m (m + j) d e := by
  have hg := swpR_get d (m - i) (m + j - i) i (by omega) (by omega)
  refine ⟨h.1.trans (swpR_size _ _ _ _), fun p => ?_⟩
  rw [h.2 p]
  repeat' split
  all_goals first
    | (exfalso; omega)
    | (rw [hg]; repeat' split)
  all_goals first
    | (exfalso; omega)
    | rfl
    | exact congrArg (fun z => d[z]!) (by omega)
theorem rot_last {d : Array Nat} {i m : Nat} (him : i ≤ m) (hs : m + i ≤ d.size) : IsRot (m - i) m (m + i) d (swpR d (m - i) m i) := by
  refine ⟨swpR_size _ _ _ _, fun p => ?_⟩
  rw [swpR_get d (m - i) m i (by omega) hs]
  repeat' split
  all_goals first
    | (exfalso; omega)
    | rfl
    | exact congrArg (fun z => d[z]!) (by omega)
theorem IsRot.same {a m b : Nat} {d e : Array Nat} (h : IsRot a m b d e) (ha : a ≤ m) (hb : m ≤ b) : Same a b d e := by
  refine ⟨h.1, fun x => ⟨fun ⟨p, p1, p2, p3⟩ => ?_, fun ⟨p, p1, p2, p3⟩ => ?_⟩, fun p hp => by rw [h.2 p, if_neg (by omega), if_neg (by omega)]⟩
  · by_cases hpm : p < m
    · refine ⟨p + (b - m), by omega, by omega, ?_⟩
      rw [h.2, if_neg (by omega), if_pos (by omega), Nat.add_sub_cancel]
      exact p3
    · refine ⟨p - m + a, by omega, by omega, ?_⟩
      rw [h.2, if_pos (by omega), show p - m + a - a + m = p by omega]
      exact p3
  · rw [h.2] at p3
    by_cases h1 : a ≤ p ∧ p < a + (b - m)
    · rw [if_pos h1] at p3
      exact ⟨_, by omega, by omega, p3⟩
    · rw [if_neg h1, if_pos (by omega)] at p3
      exact ⟨_, by omega, by omega, p3⟩
end Go.Proofs.Ytfkjnaaplhcheaa
