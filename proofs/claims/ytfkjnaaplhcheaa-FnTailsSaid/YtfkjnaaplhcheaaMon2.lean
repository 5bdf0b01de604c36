/-
  Sums, differences and products of numbers not less than 0: of which sign, how great. No program.
-/
import Derived.Test.YtfkjnaaplhcheaaMono
namespace Go.Proofs.Ytfkjnaaplhcheaa
open Go Ieee

theorem key_word (f : Format) (s : Bool) {r : Nat} (h : r ≤ f.infRung) : key f (f.word s r) = if s then -(r : Int) else r := by
  obtain ⟨h1, h2⟩ := rung_word f s (Nat.lt_of_le_of_lt h f.infRung_lt)
  unfold key
  rw [h1, h2]
theorem key_nearest (f : Format) (s : Bool) (mag : Nat) (place : Int) : key f (f.nearest s mag place) = if s then -(rungTo f mag place : Int) else rungTo f mag place := by
  rw [nearest_eq, key_word f s (rungTo_le f mag place)]
/-- a finite number not less than 0 -/
theorem read_nn {f : Format} (he : 1 ≤ f.exponentBits) {x : Nat} (hf : isFin f x = true) (hk : 0 ≤ key f x) : ∃ s m e, f.read x = .number s m e ∧ (s = false ∨ m = 0) ∧ f.leastPlace ≤ e ∧ m * 2 ^ (e - f.leastPlace).toNat = mu f (rungOf f x) ∧ key f x = rungOf f x := by
  obtain ⟨m, e, hr, hl, hm⟩ := read_fin ((fin_iff f he x).1 hf)
  unfold key at hk ⊢
  cases hs : negOf f x with
  | false => exact ⟨_, m, e, hs ▸ hr, .inl rfl, hl, hm, by simp⟩
  | true =>
    rw [hs] at hk hr
    simp only [if_true] at hk ⊢
    have h0 : rungOf f x = 0 := by omega
    rw [h0] at hm ⊢
    rw [mu_zero] at hm
    have hm0 : m = 0 := by
      rcases Nat.mul_eq_zero.1 hm with h | h
      · exact h
      · have := Nat.two_pow_pos (e - f.leastPlace).toNat; omega
    exact ⟨_, m, e, hr, .inr hm0, hl, by rw [hm, mu_zero], rfl⟩
theorem signed_nn {s : Bool} {m k : Nat} (h : s = false ∨ m = 0) : signed s m k = ((m * 2 ^ k : Nat) : Int) := by
  unfold signed
  rw [Nat.shiftLeft_eq]
  rcases h with rfl | rfl
  · rfl
  · cases s <;> simp
theorem signed_opp {s : Bool} {m k : Nat} (h : s = false ∨ m = 0) : signed (!s) m k = -((m * 2 ^ k : Nat) : Int) := by
  unfold signed
  rw [Nat.shiftLeft_eq]
  rcases h with rfl | rfl
  · rfl
  · cases s <;> simp

/-- a difference of numbers not less than 0, the greater one first: not less than 0, not greater than the first -/
theorem sub_nn {x y : Nat} (hx : isFin single x = true) (hy : isFin single y = true) (hkx : 0 ≤ key single x) (hky : 0 ≤ key single y) (hxy : key single y ≤ key single x) :
    isFin single (fsub x y) = true ∧ 0 ≤ key single (fsub x y) ∧ key single (fsub x y) ≤ key single x := by
  have he : 1 ≤ single.exponentBits := by decide
  have hrx := (fin_iff single he x).1 hx
  obtain ⟨s, m, i, hr, hs, hli, hm, hk⟩ := read_nn he hx hkx
  obtain ⟨t, n, j, hq, ht, hlj, hn, hk2⟩ := read_nn he hy hky
  have hle : mu single (rungOf single y) ≤ mu single (rungOf single x) := (mu_le_iff _ _ _).2 (by omega)
  have hsub : single.sub x y = some (single.nearest (if signed s m (i - min i j).toNat + signed (!t) n (j - min i j).toNat = 0 then s && !t else decide (signed s m (i - min i j).toNat + signed (!t) n (j - min i j).toNat < 0)) (signed s m (i - min i j).toNat + signed (!t) n (j - min i j).toNat).natAbs (min i j)) := by
    unfold Format.sub
    rw [hr, hq]
    rfl
  have hv := congrArg (fun o => Option.getD o 0) hsub
  change fsub x y = _ at hv
  simp only [Option.getD_some] at hv
  rw [signed_nn hs, signed_opp ht] at hv
  have hbase : single.leastPlace ≤ min i j := by omega
  have e1 : (i - single.leastPlace).toNat = (i - min i j).toNat + (min i j - single.leastPlace).toNat := by omega
  have e2 : (j - single.leastPlace).toNat = (j - min i j).toNat + (min i j - single.leastPlace).toNat := by omega
  rw [e1, mul_pow_add] at hm
  rw [e2, mul_pow_add] at hn
  generalize m * 2 ^ (i - min i j).toNat = a at *
  generalize n * 2 ^ (j - min i j).toNat = b at *
  rw [← hm, ← hn] at hle
  have hab : b ≤ a := Nat.le_of_mul_le_mul_right hle (Nat.two_pow_pos _)
  have hmag : ((a : Int) + -(b : Int)).natAbs = a - b := by omega
  have hbound : rungTo single (a - b) (min i j) ≤ rungOf single x := by
    refine rungTo_mono single _ _ single.leastPlace _ hbase (Int.le_refl _) ?_
    rw [Int.sub_self, Int.toNat_zero, Nat.pow_zero, Nat.mul_one, ← hm]
    exact Nat.mul_le_mul_right _ (Nat.sub_le _ _)
  rw [hmag] at hv
  have hkey := key_nearest single (if ((a : Int) + -(b : Int)) = 0 then s && !t else decide (((a : Int) + -(b : Int)) < 0)) (a - b) (min i j)
  rw [← hv] at hkey
  have hsgn : (if ((a : Int) + -(b : Int)) = 0 then s && !t else decide (((a : Int) + -(b : Int)) < 0)) = false ∨ rungTo single (a - b) (min i j) = 0 := by
    by_cases h0 : ((a : Int) + -(b : Int)) = 0
    · right
      have : a - b = 0 := by omega
      rw [this]
      rfl
    · left
      rw [if_neg h0]
      exact decide_eq_false (by omega)
  have hkey2 : key single (fsub x y) = rungTo single (a - b) (min i j) := by
    rw [hkey]
    rcases hsgn with h | h
    · rw [h]; rfl
    · rw [h]; simp
  refine ⟨?_, by omega, by omega⟩
  rw [fin_iff single he, hv, nearest_eq, (rung_word single _ (rungTo_lt single _ _)).1]
  omega

/-- a product of a number not less than 0 with a part: not less than 0, not greater than the first -/
theorem mul_nn {x y : Nat} (hx : isFin single x = true) (hy : isFin single y = true) (hkx : 0 ≤ key single x) (hky : 0 ≤ key single y) (hy1 : key single y ≤ 1065353216) :
    isFin single (fmul x y) = true ∧ 0 ≤ key single (fmul x y) ∧ key single (fmul x y) ≤ key single x := by
  have he : 1 ≤ single.exponentBits := by decide
  have hrx := (fin_iff single he x).1 hx
  obtain ⟨s, m, i, hr, hs, hli, hm, hk⟩ := read_nn he hx hkx
  obtain ⟨t, n, j, hq, ht, hlj, hn, hk2⟩ := read_nn he hy hky
  have hmul : single.mul x y = some (single.nearest (s ^^ t) (m * n) (i + j)) := by
    unfold Format.mul
    rw [hr, hq]
    rfl
  have hv := congrArg (fun o => Option.getD o 0) hmul
  change fmul x y = _ at hv
  simp only [Option.getD_some] at hv
  have hmu1 : mu single (rungOf single y) ≤ 2 ^ 149 := by
    have h1 : mu single 1065353216 = 2 ^ 149 := by decide +kernel
    rw [← h1]
    exact (mu_le_iff _ _ _).2 (by omega)
  have hlp : single.leastPlace = -149 := by decide +kernel
  have hbound : rungTo single (m * n) (i + j) ≤ rungOf single x := by
    refine rungTo_mono single _ _ (-298) _ (by omega) (by omega) ?_
    have e1 : (i + j - -298).toNat = (i - single.leastPlace).toNat + (j - single.leastPlace).toNat := by omega
    have e2 : (single.leastPlace - -298).toNat = 149 := by omega
    rw [e1, e2, Nat.pow_add, Nat.mul_mul_mul_comm, hm, hn]
    exact Nat.mul_le_mul_left _ hmu1
  have hkey := key_nearest single (s ^^ t) (m * n) (i + j)
  rw [← hv] at hkey
  have hsgn : (s ^^ t) = false ∨ rungTo single (m * n) (i + j) = 0 := by
    rcases hs with rfl | rfl
    · rcases ht with rfl | rfl
      · exact .inl rfl
      · right; rw [Nat.mul_zero]; rfl
    · right; rw [Nat.zero_mul]; rfl
  have hkey2 : key single (fmul x y) = rungTo single (m * n) (i + j) := by
    rw [hkey]
    rcases hsgn with h | h
    · rw [h]; rfl
    · rw [h]; simp
  refine ⟨?_, by omega, by omega⟩
  rw [fin_iff single he, hv, nearest_eq, (rung_word single _ (rungTo_lt single _ _)).1]
  omega
end Go.Proofs.Ytfkjnaaplhcheaa

