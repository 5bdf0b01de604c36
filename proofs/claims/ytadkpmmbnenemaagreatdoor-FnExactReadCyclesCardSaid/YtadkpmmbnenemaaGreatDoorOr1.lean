/-
  An order: a list of all numbers below its length, each once; told by sorting, and told by looking whether a number has been seen. No program.
-/
namespace Go.Proofs.YtadkpmmbnenemaaGreatDoor

def ups (n : Nat) : List Int := (List.range n).map Int.ofNat
theorem ups_len (n : Nat) : (ups n).length = n := by simp [ups]
theorem ups_get {n i : Nat} (h : i < (ups n).length) : (ups n)[i] = (i : Int) := by simp [ups]
theorem ups_succ (n : Nat) : ups (n + 1) = ups n ++ [(n : Int)] := by simp [ups, List.range_succ]
def leB : Int → Int → Bool := fun x y => decide (x ≤ y)
theorem leB_eq : (fun x y : Int => decide (x ≤ y)) = leB := rfl
/-- the first so many are numbers below n, each another one -/
def okTo (xs : List Int) (n : Nat) : Nat → Bool
  | 0 => true
  | i + 1 => okTo xs n i && (decide (0 ≤ xs.getD i 0 ∧ xs.getD i 0 ≤ (n : Int) - 1) && !(xs.take i).contains (xs.getD i 0))
theorem okTo_iff {xs : List Int} {n : Nat} : ∀ i, i ≤ xs.length → (okTo xs n i = true ↔ (xs.take i).Nodup ∧ ∀ x ∈ xs.take i, 0 ≤ x ∧ x ≤ (n : Int) - 1) := by
  intro i
  induction i with
  | zero => intro _; simp [okTo]
  | succ i ih =>
    intro hi
    have hlt : i < xs.length := hi
    have hg : xs.getD i 0 = xs[i] := by rw [List.getD_eq_getElem?_getD, List.getElem?_eq_getElem hlt]; rfl
    unfold okTo
    rw [Bool.and_eq_true, Bool.and_eq_true, ih (by omega), decide_eq_true_eq, hg, List.take_succ_eq_append_getElem hlt]
    rw [List.nodup_append]
    constructor
    · rintro ⟨⟨h1, h2⟩, h3, h4⟩
      have h4' : xs[i] ∉ xs.take i := by simpa using h4
      refine ⟨⟨h1, by simp, ?_⟩, ?_⟩
      · intro a ha b hb e
        rw [List.mem_singleton] at hb
        subst hb
        exact h4' (e ▸ ha)
      · intro x hx
        rcases List.mem_append.1 hx with hx | hx
        · exact h2 x hx
        · rw [List.mem_singleton] at hx
          subst hx
          exact h3
    · rintro ⟨⟨h1, _, h3⟩, h4⟩
      refine ⟨⟨h1, fun x hx => h4 x (List.mem_append_left _ hx)⟩, h4 _ (List.mem_append_right _ (by simp)), ?_⟩
      have : xs[i] ∉ xs.take i := fun hm => h3 _ hm _ (by simp) rfl
      simpa using this
theorem okTo_mono {xs : List Int} {n : Nat} {i j : Nat} (h : okTo xs n j = true) (hij : i ≤ j) : okTo xs n i = true := by
  induction j with
  | zero => obtain rfl : i = 0 := by omega
            exact h
  | succ j ih =>
    rcases Nat.lt_or_ge i (j + 1) with hlt | hge
    · unfold okTo at h
      rw [Bool.and_eq_true] at h
      exact ih h.1 (by omega)
    · obtain rfl : i = j + 1 := by omega
      exact h
theorem okTo_false {xs : List Int} {n : Nat} {i j : Nat} (h : okTo xs n i = false) (hij : i ≤ j) : okTo xs n j = false := by
  cases hj : okTo xs n j with
  | false => rfl
  | true =>
    rw [okTo_mono hj hij] at h
    cases h
theorem up_low : ∀ (ys : List Int) (a : Int), (∀ y ∈ ys, a ≤ y) → ys.Pairwise (· < ·) → ∀ i (h : i < ys.length), a + i ≤ ys[i] := by
  intro ys
  induction ys with
  | nil => intro a _ _ i h; simp at h
  | cons y ys ih =>
    intro a h1 h2 i hi
    rw [List.pairwise_cons] at h2
    cases i with
    | zero => have := h1 y (by simp); simpa using this
    | succ i =>
      have hy := h1 y (by simp)
      have h := ih (a + 1) (fun z hz => by have := h2.1 z hz; omega) h2.2 i (by simpa using hi)
      simp only [List.getElem_cons_succ]
      push_cast
      omega
theorem up_high : ∀ (ys : List Int) (b : Int), (∀ y ∈ ys, y ≤ b) → ys.Pairwise (· < ·) → ∀ i (h : i < ys.length), ys[i] + (ys.length - 1 - i : Nat) ≤ b := by
  intro ys
  induction ys with
  | nil => intro b _ _ i h; simp at h
  | cons y ys ih =>
    intro b h1 h2 i hi
    rw [List.pairwise_cons] at h2
    cases i with
    | zero =>
      simp only [List.getElem_cons_zero, List.length_cons]
      rcases Nat.eq_zero_or_pos ys.length with h0 | h0
      · have := h1 y (by simp)
        omega
      · have h := ih b (fun z hz => h1 z (by simp [hz])) h2.2 0 h0
        have hz : y < ys[0] := h2.1 _ (List.getElem_mem _)
        omega
    | succ i =>
      have h := ih b (fun z hz => h1 z (by simp [hz])) h2.2 i (by simpa using hi)
      simp only [List.getElem_cons_succ, List.length_cons]
      omega
theorem sorted_ups {ys : List Int} (h1 : ∀ y ∈ ys, 0 ≤ y ∧ y ≤ (ys.length : Int) - 1) (h2 : ys.Pairwise (· < ·)) : ys = ups ys.length := by
  apply List.ext_getElem
  · rw [ups_len]
  · intro i hi hj
    rw [ups_get]
    have a := up_low ys 0 (fun y hy => (h1 y hy).1) h2 i hi
    have b := up_high ys _ (fun y hy => (h1 y hy).2) h2 i hi
    omega
theorem leB_trans (a b c : Int) : leB a b = true → leB b c = true → leB a c = true := by
  unfold leB
  simp only [decide_eq_true_eq]
  omega
theorem leB_total (a b : Int) : (leB a b || leB b a) = true := by
  unfold leB
  rw [Bool.or_eq_true, decide_eq_true_eq, decide_eq_true_eq]
  omega
theorem ups_nodup (n : Nat) : (ups n).Nodup := by
  unfold ups
  refine List.Pairwise.map _ ?_ List.nodup_range
  intro a b hab h
  exact hab (Int.ofNat.inj h)
/-- sorting tells whether a list is an order -/
theorem order_sort (xs : List Int) : (xs.mergeSort leB = ups xs.length) ↔ okTo xs xs.length xs.length = true := by
  rw [okTo_iff _ (Nat.le_refl _), List.take_length]
  have hp := List.mergeSort_perm xs leB
  constructor
  · intro h
    rw [h] at hp
    refine ⟨hp.nodup_iff.1 (ups_nodup _), fun x hx => ?_⟩
    have hm := hp.mem_iff.2 hx
    unfold ups at hm
    rw [List.mem_map] at hm
    obtain ⟨i, hi, rfl⟩ := hm
    have := List.mem_range.1 hi
    have e : Int.ofNat i = (i : Int) := rfl
    omega
  · rintro ⟨h1, h2⟩
    have hl : (xs.mergeSort leB).length = xs.length := hp.length_eq
    have hs := List.pairwise_mergeSort leB_trans leB_total xs
    have hn : (xs.mergeSort leB).Nodup := hp.nodup_iff.2 h1
    have h := sorted_ups (ys := xs.mergeSort leB) (fun y hy => by rw [hl]; exact h2 y (hp.mem_iff.1 hy)) (by
      refine (List.Pairwise.and hs hn).imp ?_
      rintro a b ⟨h3, h4⟩
      have h3 : a ≤ b := of_decide_eq_true h3
      omega)
    rw [hl] at h
    exact h
end Go.Proofs.YtadkpmmbnenemaaGreatDoor
