/-
  Merging in place (slices.symMergeCmpFunc), plain.
-/
import Derived.Test.YtfkjnaaplhcheaaIs
namespace Go.Proofs.Ytfkjnaaplhcheaa
open Go Go.RowKit Go.Sort

theorem Srt.le {K : Nat → Nat} {d : Array Nat} {a b p q : Nat} (h : Srt K d a b) (h1 : a ≤ p) (h2 : p ≤ q) (h3 : q < b) : K d[p]! ≤ K d[q]! := by
  by_cases e : p = q
  · subst e
    exact Nat.le_refl _
  · exact Nat.le_of_lt (h p q h1 (by omega) h3)
theorem Srt.congr {K : Nat → Nat} {d e : Array Nat} {a b : Nat} (h : Srt K d a b) (he : ∀ p, a ≤ p → p < b → e[p]! = d[p]!) : Srt K e a b := fun p q h1 h2 h3 => by
  rw [he p h1 (by omega), he q (by omega) h3]
  exact h p q h1 h2 h3
/-- two stretches that rise; every index of the left one is less than every index of the right one -/
structure SM (K : Nat → Nat) (a m b : Nat) (d : Array Nat) : Prop where
  l : Srt K d a m
  r : Srt K d m b
  x : ∀ p q, a ≤ p → p < m → m ≤ q → q < b → d[p]! < d[q]!

/-- the first number on its way up -/
def ShU (a k : Nat) (d e : Array Nat) : Prop := Same a (k + 1) d e ∧ ∀ p, e[p]! = if a ≤ p ∧ p < k then d[p + 1]! else if p = k then d[a]! else d[p]!
theorem ShU.start (a : Nat) (d : Array Nat) : ShU a a d d := ⟨Same.refl _ _ _, fun p => by
  rw [if_neg (by omega)]
  split
  · next h => rw [h]
  · rfl⟩
theorem ShU.step {a k : Nat} {d e : Array Nat} (h : ShU a k d e) (ha : a ≤ k) (hk : k + 1 < d.size) : ShU a (k + 1) d (swp e k (k + 1)) := by
  have hs := h.1.1
  refine ⟨(h.1.wide (Nat.le_refl _) (by omega)).trans (swp_same (by omega) (by omega) ⟨by omega, by omega⟩ ⟨by omega, by omega⟩), fun p => ?_⟩
  rw [swp_at e (by omega) (by omega), h.2, h.2, h.2]
  repeat' split
  all_goals first
    | (exfalso; omega)
    | rfl
    | exact congrArg (fun z => d[z]!) (by omega)
theorem ShU.sorted {K : Nat → Nat} {a i b : Nat} {d e : Array Nat} (h : ShU a (i - 1) d e) (hi : a + 1 ≤ i) (hib : i ≤ b) (hs : Srt K d (a + 1) b) (h1 : ∀ p, a + 1 ≤ p → p < i → K d[p]! < K d[a]!) (h2 : ∀ p, i ≤ p → p < b → K d[a]! < K d[p]!) : Srt K e a b := fun p q p1 p2 p3 => by
  rw [h.2, h.2]
  by_cases c1 : p < i - 1
  · rw [if_pos ⟨p1, c1⟩]
    by_cases c2 : q < i - 1
    · rw [if_pos ⟨by omega, c2⟩]
      exact hs _ _ (by omega) (by omega) (by omega)
    · rw [if_neg (by omega)]
      by_cases c3 : q = i - 1
      · rw [if_pos c3]
        exact h1 _ (by omega) (by omega)
      · rw [if_neg c3]
        exact hs _ _ (by omega) (by omega) p3
  · rw [if_neg (by omega)]
    by_cases c2 : p = i - 1
    · rw [if_pos c2, if_neg (by omega), if_neg (by omega)]
      exact h2 _ (by omega) p3
    · rw [if_neg c2, if_neg (by omega), if_neg (by omega)]
      exact hs _ _ (by omega) p2 p3
/-- the last number on its way down -/
def ShD (m k : Nat) (d e : Array Nat) : Prop := Same k (m + 1) d e ∧ ∀ p, e[p]! = if p = k then d[m]! else if k < p ∧ p ≤ m then d[p - 1]! else d[p]!
theorem ShD.start (m : Nat) (d : Array Nat) : ShD m m d d := ⟨Same.refl _ _ _, fun p => by
  by_cases h : p = m
  · rw [if_pos h, h]
  · rw [if_neg h, if_neg (by omega)]⟩
theorem ShD.step {m k : Nat} {d e : Array Nat} (h : ShD m (k + 1) d e) (hm : k + 1 ≤ m) (hs : m < d.size) : ShD m k d (swp e (k + 1) k) := by
  have hz := h.1.1
  refine ⟨(h.1.wide (by omega) (Nat.le_refl _)).trans (swp_same (by omega) (by omega) ⟨by omega, by omega⟩ ⟨by omega, by omega⟩), fun p => ?_⟩
  rw [swp_at e (by omega) (by omega), h.2, h.2, h.2]
  repeat' split
  all_goals first
    | (exfalso; omega)
    | rfl
    | exact congrArg (fun z => d[z]!) (by omega)
theorem ShD.sorted {K : Nat → Nat} {a i m : Nat} {d e : Array Nat} (h : ShD m i d e) (hi : a ≤ i) (him : i ≤ m) (hs : Srt K d a m) (h1 : ∀ p, a ≤ p → p < i → K d[p]! < K d[m]!) (h2 : ∀ p, i ≤ p → p < m → K d[m]! < K d[p]!) : Srt K e a (m + 1) := fun p q p1 p2 p3 => by
  rw [h.2, h.2]
  by_cases c1 : p < i
  · rw [if_neg (by omega), if_neg (by omega)]
    by_cases c2 : q = i
    · rw [if_pos c2]
      exact h1 p p1 c1
    · rw [if_neg c2]
      by_cases c3 : i < q ∧ q ≤ m
      · rw [if_pos c3]
        exact hs _ _ p1 (by omega) (by omega)
      · rw [if_neg c3]
        exact hs _ _ p1 p2 (by omega)
  · by_cases c2 : p = i
    · rw [if_pos c2, if_neg (by omega), if_pos (by omega)]
      exact h2 _ (by omega) (by omega)
    · rw [if_neg c2, if_pos (by omega), if_neg (by omega), if_pos (by omega)]
      exact hs _ _ (by omega) (by omega) (by omega)

/-- where the two stretches are to be cut -/
structure Cut (K : Nat → Nat) (a s m e b : Nat) (d : Array Nat) : Prop where
  hs : a ≤ s
  sm : s ≤ m
  me : m ≤ e
  eb : e ≤ b
  lt : ∀ p q, ((a ≤ p ∧ p < s) ∨ (m ≤ p ∧ p < e)) → ((s ≤ q ∧ q < m) ∨ (e ≤ q ∧ q < b)) → K d[p]! < K d[q]!
theorem cut_of {K : Nat → Nat} {a m b mid s s0 r0 n : Nat} {d : Array Nat} (h : SM K a m b d) (ham : a < m) (hmb : m < b) (hmid : mid = (a + b) / 2) (hn : n = mid + m) (h0 : (mid < m ∧ s0 = n - b ∧ r0 = mid) ∨ (m ≤ mid ∧ s0 = a ∧ r0 = m))
    (hs : s0 ≤ s ∧ s ≤ r0) (h1 : ∀ c, s0 ≤ c → c < s → K d[c]! < K d[n - 1 - c]!) (h2 : ∀ c, s ≤ c → c < r0 → K d[n - 1 - c]! < K d[c]!) : Cut K a s m (n - s) b d := by
  refine ⟨by omega, by omega, by omega, by omega, fun p q hp hq => ?_⟩
  rcases hp with hp | hp
  · rcases hq with hq | hq
    · exact h.l p q hp.1 (by omega) hq.2
    · have k1 := h1 (s - 1) (by omega) (by omega)
      rw [show n - 1 - (s - 1) = n - s by omega] at k1
      exact Nat.lt_of_le_of_lt (h.l.le hp.1 (by omega) (by omega)) (Nat.lt_of_lt_of_le k1 (h.r.le (by omega) hq.1 hq.2))
  · rcases hq with hq | hq
    · have k1 := h2 s (Nat.le_refl _) (by omega)
      exact Nat.lt_of_le_of_lt (h.r.le hp.1 (by omega) (by omega)) (Nat.lt_of_lt_of_le k1 (h.l.le (by omega) hq.1 hq.2))
    · exact h.r p q hp.1 (by omega) hq.2
theorem rot_none {s m e : Nat} {d : Array Nat} (h : s = m ∨ m = e) (hs : s ≤ m) (he : m ≤ e) : IsRot s m e d d := by
  refine ⟨rfl, fun p => ?_⟩
  repeat' split
  all_goals first
    | rfl
    | (exfalso; omega)
    | exact congrArg (fun z => d[z]!) (by omega)
section
variable {K : Nat → Nat} {a s m e b mid : Nat} {d dr : Array Nat}
theorem Cut.left (h : Cut K a s m e b d) (hm : SM K a m b d) (hr : IsRot s m e d dr) (hmid : mid + m = s + e) : SM K a s mid dr := by
  obtain ⟨c1, c2, c3, c4, -⟩ := h
  have e1 : ∀ p, p < s → dr[p]! = d[p]! := fun p hp => by rw [hr.2, if_neg (by omega), if_neg (by omega)]
  have e2 : ∀ p, s ≤ p → p < mid → dr[p]! = d[p - s + m]! := fun p h1 h2 => by rw [hr.2, if_pos (by omega)]
  refine ⟨fun p q h1 h2 h3 => ?_, fun p q h1 h2 h3 => ?_, fun p q h1 h2 h3 h4 => ?_⟩
  · rw [e1 p (by omega), e1 q h3]
    exact hm.l p q h1 h2 (by omega)
  · rw [e2 p h1 (by omega), e2 q (by omega) h3]
    exact hm.r _ _ (by omega) (by omega) (by omega)
  · rw [e1 p h2, e2 q h3 h4]
    exact hm.x _ _ h1 (by omega) (by omega) (by omega)
theorem Cut.right (h : Cut K a s m e b d) (hm : SM K a m b d) (hr : IsRot s m e d dr) (hmid : mid + m = s + e) : SM K mid e b dr := by
  obtain ⟨c1, c2, c3, c4, -⟩ := h
  have e1 : ∀ p, e ≤ p → dr[p]! = d[p]! := fun p hp => by rw [hr.2, if_neg (by omega), if_neg (by omega)]
  have e2 : ∀ p, mid ≤ p → p < e → dr[p]! = d[p - (e - m)]! := fun p h1 h2 => by rw [hr.2, if_neg (by omega), if_pos (by omega)]
  refine ⟨fun p q h1 h2 h3 => ?_, fun p q h1 h2 h3 => ?_, fun p q h1 h2 h3 h4 => ?_⟩
  · rw [e2 p h1 (by omega), e2 q (by omega) h3]
    exact hm.l _ _ (by omega) (by omega) (by omega)
  · rw [e1 p h1, e1 q (by omega)]
    exact hm.r _ _ (by omega) h2 h3
  · rw [e2 p h1 h2, e1 q h3]
    exact hm.x _ _ (by omega) (by omega) (by omega) h4
theorem Cut.all (h : Cut K a s m e b d) (hr : IsRot s m e d dr) (hmid : mid + m = s + e) : ∀ p q, a ≤ p → p < mid → mid ≤ q → q < b → K dr[p]! < K dr[q]! := fun p q h1 h2 h3 h4 => by
  obtain ⟨c1, c2, c3, c4, c5⟩ := h
  rw [hr.2 p, hr.2 q]
  by_cases p1 : s ≤ p ∧ p < s + (e - m)
  · rw [if_pos p1, if_neg (by omega)]
    by_cases q1 : s + (e - m) ≤ q ∧ q < e
    · rw [if_pos q1]
      exact c5 _ _ (by omega) (by omega)
    · rw [if_neg q1]
      exact c5 _ _ (by omega) (by omega)
  · rw [if_neg p1, if_neg (by omega), if_neg (by omega)]
    by_cases q1 : s + (e - m) ≤ q ∧ q < e
    · rw [if_pos q1]
      exact c5 _ _ (by omega) (by omega)
    · rw [if_neg q1]
      exact c5 _ _ (by omega) (by omega)
end
theorem SM.one {K : Nat → Nat} {a s b : Nat} {d : Array Nat} (h : SM K a s b d) (hs : s ≤ a ∨ b ≤ s) : Srt K d a b := fun p q h1 h2 h3 => by
  rcases hs with hs | hs
  · exact h.r p q (by omega) h2 h3
  · exact h.l p q h1 h2 (by omega)
theorem SM.congr {K : Nat → Nat} {a s b : Nat} {d e : Array Nat} (h : SM K a s b d) (he : ∀ p, a ≤ p → p < b → e[p]! = d[p]!) (h1 : a ≤ s) (h2 : s ≤ b) : SM K a s b e :=
  ⟨h.l.congr fun p p1 p2 => he p p1 (by omega), h.r.congr fun p p1 p2 => he p (by omega) p2, fun p q p1 p2 p3 p4 => by
    rw [he p p1 (by omega), he q (by omega) p4]
    exact h.x p q p1 p2 p3 p4⟩
theorem merged {K : Nat → Nat} {a mid b : Nat} {dr d1 d2 : Array Nat} (ham : a ≤ mid) (hmb : mid ≤ b) (hall : ∀ p q, a ≤ p → p < mid → mid ≤ q → q < b → K dr[p]! < K dr[q]!)
    (s1 : Srt K d1 a mid) (m1 : Same a mid dr d1) (s2 : Srt K d2 mid b) (m2 : Same mid b d1 d2) : Srt K d2 a b ∧ Same a b dr d2 := by
  have e1 : ∀ p, p < mid → d2[p]! = d1[p]! := fun p hp => m2.2.2 p (by omega)
  have e2 : ∀ p, mid ≤ p → d1[p]! = dr[p]! := fun p hp => m1.2.2 p (by omega)
  refine ⟨fun p q h1 h2 h3 => ?_, (m1.wide (Nat.le_refl _) hmb).trans (m2.wide ham (Nat.le_refl _))⟩
  by_cases hq : q < mid
  · rw [e1 p (by omega), e1 q hq]
    exact s1 p q h1 h2 hq
  · by_cases hp : mid ≤ p
    · exact s2 p q hp h2 h3
    · rw [e1 p (by omega)]
      refine m2.all (P := fun z => K d1[p]! < K z) (fun q q1 q2 => ?_) q (by omega) h3
      rw [e2 q q1]
      exact m1.all (P := fun z => K z < K dr[q]!) (fun p p1 p2 => hall p q p1 p2 q1 q2) p h1 (by omega)
end Go.Proofs.Ytfkjnaaplhcheaa
