/-
  The cycles of an order. No program.
-/
import Derived.Test.YtadkpmmbnenemaaGreatDoorOr1
namespace Go.Proofs.YtadkpmmbnenemaaGreatDoor

def updS (f : Nat → Bool) (k : Nat) : Nat → Bool := fun j => if j = k then true else f j
/-- how many have not been seen -/
def unseen (f : Nat → Bool) : Nat → Nat
  | 0 => 0
  | n + 1 => unseen f n + (if f n = true then 0 else 1)
theorem unseen_le (f : Nat → Bool) : ∀ n, unseen f n ≤ n := by
  intro n
  induction n with
  | zero => exact Nat.le_refl _
  | succ n ih => unfold unseen; split <;> omega
theorem unseen_upd_out (f : Nat → Bool) (k : Nat) : ∀ n, n ≤ k → unseen (updS f k) n = unseen f n := by
  intro n
  induction n with
  | zero => intro _; rfl
  | succ n ih =>
    intro h
    unfold unseen
    rw [ih (by omega), show updS f k n = f n from if_neg (by omega)]
theorem unseen_upd (f : Nat → Bool) (k : Nat) (hf : f k = false) : ∀ n, k < n → unseen (updS f k) n + 1 = unseen f n := by
  intro n
  induction n with
  | zero => intro h; omega
  | succ n ih =>
    intro h
    unfold unseen
    rcases Nat.lt_or_ge k n with hlt | hge
    · have := ih hlt
      rw [show updS f k n = f n from if_neg (by omega)]
      omega
    · obtain rfl : n = k := by omega
      rw [unseen_upd_out f n n (Nat.le_refl _), show updS f n n = true from if_pos rfl, hf]
      simp
/-- from a place on till one that has been seen: what has been seen then, and the places on the way -/
def follow (nx : Nat → Nat) : Nat → (Nat → Bool) → List Nat → Nat → (Nat → Bool) × List Nat
  | 0, f, c, _ => (f, c)
  | t + 1, f, c, k => if f k = true then (f, c) else follow nx t (updS f k) (c ++ [k]) (nx k)
theorem follow_stop (nx : Nat → Nat) {t : Nat} {f : Nat → Bool} {c : List Nat} {k : Nat} (h : f k = true) : follow nx t f c k = (f, c) := by
  cases t with
  | zero => rfl
  | succ t => exact if_pos h
theorem follow_go (nx : Nat → Nat) {t : Nat} {f : Nat → Bool} {c : List Nat} {k : Nat} (h : f k = false) : follow nx (t + 1) f c k = follow nx t (updS f k) (c ++ [k]) (nx k) := if_neg (by rw [h]; decide)
/-- behind i starts -/
def cycTo (nx : Nat → Nat) (n : Nat) : Nat → (Nat → Bool) × List (List Nat)
  | 0 => (fun _ => false, [])
  | i + 1 => ((follow nx (n + 1) (cycTo nx n i).1 [] i).1, if 0 < (follow nx (n + 1) (cycTo nx n i).1 [] i).2.length then (cycTo nx n i).2 ++ [(follow nx (n + 1) (cycTo nx n i).1 [] i).2] else (cycTo nx n i).2)
def natL (c : List Nat) : List Int := c.map Int.ofNat
theorem natL_len (c : List Nat) : (natL c).length = c.length := by simp [natL]
theorem natL_snoc (c : List Nat) (k : Nat) : natL (c ++ [k]) = natL c ++ [(k : Int)] := by simp [natL]
def nxt (xs : List Int) (k : Nat) : Nat := (xs.getD k 0).toNat
/-- the cycles of an order -/
def cycs (xs : List Int) : List (List Int) := (cycTo (nxt xs) xs.length xs.length).2.map natL
theorem nxt_ok {xs : List Int} (h : okTo xs xs.length xs.length = true) {k : Nat} (hk : k < xs.length) : xs[k] = (nxt xs k : Int) ∧ nxt xs k < xs.length := by
  obtain ⟨_, h2⟩ := (okTo_iff _ (Nat.le_refl _)).1 h
  rw [List.take_length] at h2
  have h3 := h2 _ (List.getElem_mem hk)
  have e : nxt xs k = xs[k].toNat := by unfold nxt; rw [List.getD_eq_getElem?_getD, List.getElem?_eq_getElem hk]; rfl
  rw [e]
  omega
/-- what holds of the places on the way -/
theorem follow_all (nx : Nat → Nat) (n : Nat) (hn : ∀ k, k < n → nx k < n) : ∀ t f c k, k < n → (∀ x ∈ c, x < n) → (∀ x ∈ (follow nx t f c k).2, x < n) ∧ (follow nx t f c k).2.length + unseen (follow nx t f c k).1 n = c.length + unseen f n := by
  intro t
  induction t with
  | zero => intro f c k _ hc; exact ⟨hc, rfl⟩
  | succ t ih =>
    intro f c k hk hc
    cases hf : f k with
    | true => rw [follow_stop nx hf]; exact ⟨hc, rfl⟩
    | false =>
      rw [follow_go nx hf]
      obtain ⟨h1, h2⟩ := ih (updS f k) (c ++ [k]) (nx k) (hn k hk) (fun x hx => by
        rcases List.mem_append.1 hx with hx | hx
        · exact hc x hx
        · rw [List.mem_singleton] at hx; omega)
      refine ⟨h1, ?_⟩
      have := unseen_upd f k hf n hk
      rw [List.length_append] at h2
      simp only [List.length_cons, List.length_nil] at h2
      omega
theorem cycTo_all (nx : Nat → Nat) (n : Nat) (hn : ∀ k, k < n → nx k < n) : ∀ i, i ≤ n → (cycTo nx n i).2.length ≤ i ∧ ∀ c ∈ (cycTo nx n i).2, 0 < c.length ∧ c.length ≤ n ∧ ∀ x ∈ c, x < n := by
  intro i
  induction i with
  | zero => intro _; exact ⟨Nat.le_refl _, fun c hc => by cases hc⟩
  | succ i ih =>
    intro hi
    obtain ⟨h1, h2⟩ := ih (by omega)
    obtain ⟨h3, h4⟩ := follow_all nx n hn (n + 1) (cycTo nx n i).1 [] i (by omega) (fun x hx => by cases hx)
    have h5 := unseen_le (cycTo nx n i).1 n
    simp only [List.length_nil] at h4
    show (if 0 < _ then _ else _ : List (List Nat)).length ≤ i + 1 ∧ ∀ c ∈ (if 0 < _ then _ else _ : List (List Nat)), _
    split
    · rename_i hpos
      refine ⟨by rw [List.length_append, List.length_singleton]; omega, fun c hc => ?_⟩
      rcases List.mem_append.1 hc with hc | hc
      · exact h2 c hc
      · rw [List.mem_singleton] at hc
        subst hc
        exact ⟨hpos, by omega, h3⟩
    · exact ⟨by omega, h2⟩
theorem cycs_all {xs : List Int} (h : okTo xs xs.length xs.length = true) : (cycs xs).length ≤ xs.length ∧ ∀ c ∈ cycs xs, 0 < c.length ∧ c.length ≤ xs.length ∧ ∀ x ∈ c, 0 ≤ x ∧ x < xs.length := by
  obtain ⟨h1, h2⟩ := cycTo_all (nxt xs) xs.length (fun k hk => (nxt_ok h hk).2) xs.length (Nat.le_refl _)
  unfold cycs
  refine ⟨by rw [List.length_map]; exact h1, fun c hc => ?_⟩
  rw [List.mem_map] at hc
  obtain ⟨d, hd, rfl⟩ := hc
  obtain ⟨h3, h4, h5⟩ := h2 d hd
  refine ⟨by rw [natL_len]; exact h3, by rw [natL_len]; exact h4, fun x hx => ?_⟩
  unfold natL at hx
  rw [List.mem_map] at hx
  obtain ⟨y, hy, rfl⟩ := hx
  have := h5 y hy
  have e : Int.ofNat y = (y : Int) := rfl
  omega
end Go.Proofs.YtadkpmmbnenemaaGreatDoor
