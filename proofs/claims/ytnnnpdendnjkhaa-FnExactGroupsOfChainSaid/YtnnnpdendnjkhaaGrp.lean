/-
  To which states one comes, and groups of states: a search that keeps a list finds all of them; being reached from each other parts states into groups. No program.
-/
import Derived.Test.YtnnnpdendnjkhaaMem
namespace Go.Proofs.Ytnnnpdendnjkhaa

def upd (f : Nat → Bool) (k : Nat) : Nat → Bool := fun j => if j = k then true else f j
/-- looking from p at k: what has been seen, and in which order -/
def visit (adj : Nat → Nat → Bool) (p : Nat) (S : (Nat → Bool) × List Nat) (k : Nat) : (Nat → Bool) × List Nat := if (!S.1 k && adj p k) = true then (upd S.1 k, S.2 ++ [k]) else S
def visits (adj : Nat → Nat → Bool) (p : Nat) (S : (Nat → Bool) × List Nat) (m : Nat) : (Nat → Bool) × List Nat := (List.range m).foldl (visit adj p) S
theorem visits_succ (adj : Nat → Nat → Bool) (p : Nat) (S : (Nat → Bool) × List Nat) (m : Nat) : visits adj p S (m + 1) = visit adj p (visits adj p S m) m := by
  unfold visits
  rw [List.range_succ, List.foldl_append]
  rfl
/-- behind so many states of the list -/
def search (adj : Nat → Nat → Bool) (n i : Nat) : Nat → (Nat → Bool) × List Nat
  | 0 => (fun j => decide (j = i), [i])
  | p + 1 => if p < (search adj n i p).2.length then visits adj ((search adj n i p).2.getD p 0) (search adj n i p) n else search adj n i p
theorem search_succ {adj : Nat → Nat → Bool} {n i p : Nat} (h : p < (search adj n i p).2.length) : search adj n i (p + 1) = visits adj ((search adj n i p).2.getD p 0) (search adj n i p) n := by
  show (if p < (search adj n i p).2.length then _ else _) = _
  rw [if_pos h]
theorem search_end {adj : Nat → Nat → Bool} {n i p : Nat} (h : p = (search adj n i p).2.length) : ∀ d, search adj n i (p + d) = search adj n i p := by
  intro d
  induction d with
  | zero => rfl
  | succ d ih =>
    show (if p + d < (search adj n i (p + d)).2.length then visits adj ((search adj n i (p + d)).2.getD (p + d) 0) (search adj n i (p + d)) n else search adj n i (p + d)) = _
    rw [ih, if_neg (by omega)]

/-- k can be reached from i -/
def Rch (adj : Nat → Nat → Bool) (n i k : Nat) : Prop := ∀ P : Nat → Prop, P i → (∀ a b, b < n → P a → adj a b = true → P b) → P k
theorem Rch.refl (adj : Nat → Nat → Bool) (n i : Nat) : Rch adj n i i := fun _ h _ => h
theorem Rch.step {adj : Nat → Nat → Bool} {n i a b : Nat} (h : Rch adj n i a) (hb : b < n) (hab : adj a b = true) : Rch adj n i b := fun P h0 h1 => h1 a b hb (h P h0 h1) hab
theorem Rch.trans {adj : Nat → Nat → Bool} {n i j k : Nat} (h : Rch adj n i j) (h' : Rch adj n j k) : Rch adj n i k := h' (Rch adj n i) h fun _ _ hb ha hab => ha.step hb hab

/-- what holds of the state of a search -/
def Inv (adj : Nat → Nat → Bool) (n i : Nat) (S : (Nat → Bool) × List Nat) : Prop :=
  S.2.Nodup ∧ (∀ j ∈ S.2, j < n) ∧ (∀ j, S.1 j = true ↔ j ∈ S.2) ∧ i ∈ S.2 ∧ (∀ j ∈ S.2, Rch adj n i j)
theorem inv_visit {adj : Nat → Nat → Bool} {n i p k : Nat} {S : (Nat → Bool) × List Nat} (h : Inv adj n i S) (hp : Rch adj n i p) (hk : k < n) : Inv adj n i (visit adj p S k) := by
  unfold visit
  split
  · rename_i hc
    rw [Bool.and_eq_true] at hc
    obtain ⟨h1, h2, h3, h4, h5⟩ := h
    have hns : k ∉ S.2 := fun hm => by
      have := (h3 k).2 hm
      rw [this] at hc
      exact absurd hc.1 (by decide)
    refine ⟨?_, ?_, ?_, List.mem_append_left _ h4, ?_⟩
    · rw [List.nodup_append]
      refine ⟨h1, by simp, fun a ha b hb => ?_⟩
      rw [List.mem_singleton] at hb
      subst hb
      rintro rfl
      exact hns ha
    · intro j hj
      rcases List.mem_append.1 hj with hj | hj
      · exact h2 j hj
      · rw [List.mem_singleton] at hj
        omega
    · intro j
      show upd S.1 k j = true ↔ j ∈ S.2 ++ [k]
      unfold upd
      rw [List.mem_append, List.mem_singleton]
      by_cases hj : j = k
      · rw [if_pos hj]
        exact ⟨fun _ => .inr hj, fun _ => rfl⟩
      · rw [if_neg hj, h3 j]
        exact ⟨.inl, fun h => h.resolve_right hj⟩
    · intro j hj
      rcases List.mem_append.1 hj with hj | hj
      · exact h5 j hj
      · rw [List.mem_singleton] at hj
        subst hj
        exact hp.step hk hc.2
  · exact h
theorem visit_keeps {adj : Nat → Nat → Bool} {p k : Nat} {S : (Nat → Bool) × List Nat} : S.2 <+: (visit adj p S k).2 := by
  unfold visit
  split
  · exact List.prefix_append _ _
  · exact List.prefix_refl _
theorem visits_keeps {adj : Nat → Nat → Bool} {p : Nat} {S : (Nat → Bool) × List Nat} : ∀ m, S.2 <+: (visits adj p S m).2 := by
  intro m
  induction m with
  | zero => exact List.prefix_refl _
  | succ m ih => rw [visits_succ]; exact ih.trans visit_keeps
theorem inv_visits {adj : Nat → Nat → Bool} {n i p : Nat} {S : (Nat → Bool) × List Nat} (h : Inv adj n i S) (hp : Rch adj n i p) : ∀ m, m ≤ n → Inv adj n i (visits adj p S m) := by
  intro m
  induction m with
  | zero => exact fun _ => h
  | succ m ih => intro hm; rw [visits_succ]; exact inv_visit (ih (by omega)) hp (by omega)
theorem visits_all {adj : Nat → Nat → Bool} {n i p : Nat} {S : (Nat → Bool) × List Nat} (h : Inv adj n i S) (hp : Rch adj n i p) : ∀ m, m ≤ n → ∀ k, k < m → adj p k = true → k ∈ (visits adj p S m).2 := by
  intro m
  induction m with
  | zero => intro _ k hk; omega
  | succ m ih =>
    intro hm k hk ha
    rcases Nat.lt_or_ge k m with hlt | hge
    · have h1 := ih (by omega) k hlt ha
      rw [visits_succ]
      exact visit_keeps.subset h1
    · have : k = m := by omega
      subst this
      have hi := inv_visits h hp k (by omega)
      rw [visits_succ]
      unfold visit
      cases hs : (visits adj p S k).1 k with
      | true =>
        rw [if_neg (by simp)]
        exact (hi.2.2.1 k).1 hs
      | false =>
        rw [if_pos (by simp [ha])]
        exact List.mem_append_right _ (by simp)
theorem search_inv {adj : Nat → Nat → Bool} {n i : Nat} (hi : i < n) : ∀ p, Inv adj n i (search adj n i p) := by
  intro p
  induction p with
  | zero => exact ⟨by simp [search], by simpa [search] using hi, by simp [search], by simp [search], fun j hj => by
      have : j = i := by simpa [search] using hj
      subst this
      exact Rch.refl _ _ _⟩
  | succ p ih =>
    show Inv adj n i (if p < (search adj n i p).2.length then _ else _)
    split
    · rename_i hlt
      refine inv_visits ih (ih.2.2.2.2 _ ?_) n (Nat.le_refl _)
      rw [List.getD_eq_getElem?_getD, List.getElem?_eq_getElem hlt]
      exact List.getElem_mem hlt
    · exact ih
theorem nodup_len : ∀ (n : Nat) (l : List Nat), l.Nodup → (∀ x ∈ l, x < n) → l.length ≤ n := by
  intro n
  induction n with
  | zero =>
    intro l _ h
    cases l with
    | nil => simp
    | cons a l => exact absurd (h a (List.mem_cons_self ..)) (by omega)
  | succ n ih =>
    intro l hd h
    by_cases hm : n ∈ l
    · have h1 := ih (l.erase n) (hd.erase n) fun x hx => by
        have h2 := (hd.mem_erase_iff).1 hx
        have := h x h2.2
        have := h2.1
        omega
      rw [List.length_erase_of_mem hm] at h1
      omega
    · have := ih l hd fun x hx => by
        have := h x hx
        have : x ≠ n := fun e => hm (e ▸ hx)
        omega
      omega
theorem search_len {adj : Nat → Nat → Bool} {n i : Nat} (hi : i < n) (p : Nat) : (search adj n i p).2.length ≤ n := nodup_len n _ (search_inv hi p).1 (search_inv hi p).2.1
theorem search_keeps {adj : Nat → Nat → Bool} {n i : Nat} (p : Nat) : (search adj n i p).2 <+: (search adj n i (p + 1)).2 := by
  show _ <+: (if p < (search adj n i p).2.length then visits adj ((search adj n i p).2.getD p 0) (search adj n i p) n else search adj n i p).2
  split
  · exact visits_keeps n
  · exact List.prefix_refl _
theorem search_closed {adj : Nat → Nat → Bool} {n i : Nat} (hi : i < n) : ∀ p, ∀ q, q < p → ∀ hq : q < (search adj n i p).2.length, ∀ k, k < n → adj ((search adj n i p).2[q]) k = true → k ∈ (search adj n i p).2 := by
  intro p
  induction p with
  | zero => intro q hq; omega
  | succ p ih =>
    intro q hqp hq k hk ha
    have hpre := search_keeps (adj := adj) (n := n) (i := i) p
    rcases Nat.lt_or_ge q p with hlt | hge
    · by_cases hl : q < (search adj n i p).2.length
      · have h1 := hpre.getElem hl
        rw [← h1] at ha
        exact hpre.subset (ih q hlt hl k hk ha)
      · exfalso
        have h2 : ¬ p < (search adj n i p).2.length := by omega
        have h3 : search adj n i (p + 1) = search adj n i p := by
          show (if p < (search adj n i p).2.length then _ else _) = _
          rw [if_neg h2]
        rw [h3] at hq
        exact hl hq
    · have hqe : q = p := by omega
      subst hqe
      by_cases hl : q < (search adj n i q).2.length
      · have h1 := hpre.getElem hl
        rw [← h1] at ha
        rw [search_succ hl]
        have hg : (search adj n i q).2.getD q 0 = (search adj n i q).2[q] := by rw [List.getD_eq_getElem?_getD, List.getElem?_eq_getElem hl]; rfl
        rw [hg]
        exact visits_all (search_inv hi q) ((search_inv hi q).2.2.2.2 _ (List.getElem_mem hl)) n (Nat.le_refl _) k hk ha
      · exfalso
        have h3 : search adj n i (q + 1) = search adj n i q := by
          show (if q < (search adj n i q).2.length then _ else _) = _
          rw [if_neg hl]
        rw [h3] at hq
        exact hl hq
/-- whether one comes from i to k -/
def seenB (adj : Nat → Nat → Bool) (n i : Nat) : Nat → Bool := (search adj n i n).1
theorem search_stop {adj : Nat → Nat → Bool} {n i p : Nat} (hi : i < n) (h : p = (search adj n i p).2.length) : search adj n i p = search adj n i n := by
  have hle := search_len (adj := adj) hi p
  have := search_end h (n - p)
  rw [show p + (n - p) = n by omega] at this
  exact this.symm
theorem seen_iff {adj : Nat → Nat → Bool} {n i : Nat} (hi : i < n) (k : Nat) : seenB adj n i k = true ↔ Rch adj n i k := by
  have hv := search_inv (adj := adj) hi n
  have hlen := search_len (adj := adj) hi n
  unfold seenB
  constructor
  · intro h
    exact hv.2.2.2.2 k ((hv.2.2.1 k).1 h)
  · intro h
    refine (hv.2.2.1 k).2 (h (· ∈ (search adj n i n).2) hv.2.2.2.1 fun a b hb ha hab => ?_)
    obtain ⟨q, hq, rfl⟩ := List.getElem_of_mem ha
    exact search_closed hi n q (by omega) hq b hb hab

/-! ### groups -/
def both_ (R : Nat → Nat → Bool) (i k : Nat) : Bool := R i k && R k i
/-- the group that a state takes from those before it; -1 if none -/
def takeG (R : Nat → Nat → Bool) (gs : List Int) (i m : Nat) : Int := match (List.range m).find? (both_ R i) with | some q => gs.getD q 0 | none => -1
def groupsTo (R : Nat → Nat → Bool) : Nat → List Int × Nat
  | 0 => ([], 0)
  | i + 1 => if takeG R (groupsTo R i).1 i i < 0 then ((groupsTo R i).1 ++ [((groupsTo R i).2 : Int)], (groupsTo R i).2 + 1) else ((groupsTo R i).1 ++ [takeG R (groupsTo R i).1 i i], (groupsTo R i).2)
theorem groupsTo_len (R : Nat → Nat → Bool) : ∀ i, (groupsTo R i).1.length = i := by
  intro i
  induction i with
  | zero => rfl
  | succ i ih =>
    unfold groupsTo
    split <;> simp [ih]
theorem groupsTo_many (R : Nat → Nat → Bool) : ∀ i, (groupsTo R i).2 ≤ i := by
  intro i
  induction i with
  | zero => exact Nat.le_refl _
  | succ i ih =>
    unfold groupsTo
    split
    · show (groupsTo R i).2 + 1 ≤ i + 1
      omega
    · show (groupsTo R i).2 ≤ i + 1
      omega
theorem groupsTo_get (R : Nat → Nat → Bool) (q : Nat) : ∀ i, q < i → (groupsTo R i).1.getD q 0 = (groupsTo R (q + 1)).1.getD q 0 := by
  intro i
  induction i with
  | zero => intro h; omega
  | succ i ih =>
    intro h
    rcases Nat.lt_or_ge q i with hlt | hge
    · rw [← ih hlt]
      have hl := groupsTo_len R i
      have : ∀ x : Int, ((groupsTo R i).1 ++ [x]).getD q 0 = (groupsTo R i).1.getD q 0 := fun x => by
        rw [List.getD_eq_getElem?_getD, List.getD_eq_getElem?_getD, List.getElem?_append_left (by omega)]
      show (if takeG R (groupsTo R i).1 i i < 0 then ((groupsTo R i).1 ++ [((groupsTo R i).2 : Int)], (groupsTo R i).2 + 1) else ((groupsTo R i).1 ++ [takeG R (groupsTo R i).1 i i], (groupsTo R i).2)).1.getD q 0 = _
      split
      · exact this _
      · exact this _
    · have : q = i := by omega
      subst this
      rfl
theorem groupsTo_nn (R : Nat → Nat → Bool) : ∀ i, ∀ x ∈ (groupsTo R i).1, 0 ≤ x ∧ x ≤ i := by
  intro i
  induction i with
  | zero => intro x hx; cases hx
  | succ i ih =>
    intro x hx
    unfold groupsTo at hx
    have hm := groupsTo_many R i
    split at hx
    · rcases List.mem_append.1 hx with h | h
      · have := ih x h; omega
      · rw [List.mem_singleton] at h; omega
    · rcases List.mem_append.1 hx with h | h
      · have := ih x h; omega
      · rename_i hneg
        rw [List.mem_singleton] at h
        have hx2 : takeG R (groupsTo R i).1 i i ≤ i := by
          unfold takeG
          split
          · rename_i q hq
            have hqi := List.mem_range.1 (List.mem_of_find?_eq_some hq)
            rw [List.getD_eq_getElem?_getD, List.getElem?_eq_getElem (by rw [groupsTo_len]; exact hqi)]
            exact (ih _ (List.getElem_mem _)).2
          · omega
        omega
/-- being reached from each other is one group -/
theorem groups_same {R : Nat → Nat → Bool} {n : Nat} (ht : ∀ i j k, i < n → j < n → k < n → R i j = true → R j k = true → R i k = true) :
    ∀ b, b < n → ∀ a, a < b → both_ R b a = true → (groupsTo R (b + 1)).1.getD b 0 = (groupsTo R (a + 1)).1.getD a 0 := by
  intro b
  induction b using Nat.strongRecOn with
  | _ b ih =>
    intro hb a hab hm
    have hl := groupsTo_len R b
    obtain ⟨q, hq⟩ : ∃ q, (List.range b).find? (both_ R b) = some q := by
      cases hf : (List.range b).find? (both_ R b) with
      | some q => exact ⟨q, rfl⟩
      | none =>
        rw [List.find?_eq_none] at hf
        exact absurd hm (hf a (List.mem_range.2 hab))
    have hqm : both_ R b q = true := List.find?_some hq
    have hqb : q < b := List.mem_range.1 (List.mem_of_find?_eq_some hq)
    have hqa : q ≤ a := by
      rcases Nat.lt_or_ge a q with hlt | hge
      · exfalso
        obtain ⟨-, -, hno⟩ := List.find?_range_eq_some.1 hq
        have := hno a hlt
        rw [hm] at this
        cases this
      · exact hge
    have htake : takeG R (groupsTo R b).1 b b = (groupsTo R b).1.getD q 0 := by unfold takeG; rw [hq]
    have hnn : 0 ≤ (groupsTo R b).1.getD q 0 := by
      rw [List.getD_eq_getElem?_getD, List.getElem?_eq_getElem (by omega)]
      exact (groupsTo_nn R b _ (List.getElem_mem _)).1
    have h1 : (groupsTo R (b + 1)).1.getD b 0 = (groupsTo R b).1.getD q 0 := by
      show (if takeG R (groupsTo R b).1 b b < 0 then ((groupsTo R b).1 ++ [((groupsTo R b).2 : Int)], (groupsTo R b).2 + 1) else ((groupsTo R b).1 ++ [takeG R (groupsTo R b).1 b b], (groupsTo R b).2)).1.getD b 0 = _
      rw [if_neg (by rw [htake]; omega), htake]
      rw [List.getD_eq_getElem?_getD, List.getElem?_append_right (by omega), hl, Nat.sub_self]
      rfl
    rw [h1, groupsTo_get R q b hqb]
    rcases Nat.lt_or_ge q a with hlt | hge
    · unfold both_ at hm hqm
      rw [Bool.and_eq_true] at hm hqm
      have haq : both_ R a q = true := by
        unfold both_
        rw [Bool.and_eq_true]
        exact ⟨ht a b q (by omega) hb (by omega) hm.2 hqm.1, ht q b a (by omega) hb (by omega) hqm.2 hm.1⟩
      exact (ih a hab (by omega) q hlt haq).symm
    · have : q = a := by omega
      subst this
      rfl
theorem takeG_zero (R : Nat → Nat → Bool) (gs : List Int) (i : Nat) : takeG R gs i 0 = -1 := rfl
theorem find_range_succ (P : Nat → Bool) (m : Nat) : (List.range (m + 1)).find? P = match (List.range m).find? P with | some q => some q | none => if P m = true then some m else none := by
  rw [List.range_succ, List.find?_append]
  cases h : (List.range m).find? P with
  | some q => rfl
  | none =>
    simp only [Option.none_or, List.find?_cons, List.find?_nil]
    cases hp : P m <;> simp
/-- the first one, as the program takes it -/
theorem takeG_first {R : Nat → Nat → Bool} {gs : List Int} {i m : Nat} (hnn : ∀ q, q < m → 0 ≤ gs.getD q 0) : takeG R gs i (m + 1) = if (decide (takeG R gs i m < 0) && both_ R i m) = true then gs.getD m 0 else takeG R gs i m := by
  unfold takeG
  rw [find_range_succ]
  cases h : (List.range m).find? (both_ R i) with
  | some q =>
    have hq := hnn q (List.mem_range.1 (List.mem_of_find?_eq_some h))
    simp only
    rw [decide_eq_false (by omega), Bool.false_and, if_neg (by decide)]
  | none =>
    simp only
    cases hb : both_ R i m <;> simp
/-- the last one, as the reference takes it -/
theorem takeG_last {R : Nat → Nat → Bool} {n i m : Nat} (ht : ∀ i j k, i < n → j < n → k < n → R i j = true → R j k = true → R i k = true) (hi : i < n) (hm : m < i) :
    takeG R (groupsTo R i).1 i (m + 1) = if both_ R i m = true then (groupsTo R i).1.getD m 0 else takeG R (groupsTo R i).1 i m := by
  unfold takeG
  rw [find_range_succ]
  cases h : (List.range m).find? (both_ R i) with
  | some q =>
    have hqm : both_ R i q = true := List.find?_some h
    have hq := List.mem_range.1 (List.mem_of_find?_eq_some h)
    simp only
    split
    · rename_i hb
      rw [groupsTo_get R q i (by omega), groupsTo_get R m i (by omega)]
      unfold both_ at hb hqm
      rw [Bool.and_eq_true] at hb hqm
      refine (groups_same ht m (by omega) q hq ?_).symm
      unfold both_
      rw [Bool.and_eq_true]
      exact ⟨ht m i q (by omega) hi (by omega) hb.2 hqm.1, ht q i m (by omega) hi (by omega) hqm.2 hb.1⟩
    · rfl
  | none =>
    simp only
    cases hb : both_ R i m <;> simp
theorem seen_trans {adj : Nat → Nat → Bool} {n : Nat} : ∀ i j k, i < n → j < n → k < n → seenB adj n i j = true → seenB adj n j k = true → seenB adj n i k = true := fun i j k hi hj _ h1 h2 => by
  rw [seen_iff hi] at h1 ⊢
  rw [seen_iff hj] at h2
  exact h1.trans h2
end Go.Proofs.Ytnnnpdendnjkhaa

