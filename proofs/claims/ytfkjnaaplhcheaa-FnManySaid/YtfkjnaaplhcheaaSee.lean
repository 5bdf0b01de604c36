/-
  Sums, differences and products of numbers not less than 0: of which sign, how great. No program.
  Rounding from below, exact results; sums of numbers not less than 0; absolute values; the greater of two. No program.
  Shares of words: a product with 2^-24 and a quotient by 2^24 are one number; to which state one goes on with a share. No program.
  Seeds: the program's next and share, and the reference's l02Next and l02Share, give one and the same word and seed.
-/
import Derived.Test.YtfkjnaaplhcheaaMono
import Derived.RegionTactic
import Derived.BigRegion
import Derived.Deep.QuietTactic
import Derived.BigQuiet
import Derived.Maps.AppendAt
namespace Go.Proofs.Ytfkjnaaplhcheaa
open Go Ieee

theorem key_word (f : Format) (s : Bool) {r : Nat} (h : r ≤ f.infRung) : key f (f.word s r) = if s then -(r : Int) else r := by
  obtain ⟨h1, h2⟩ := rung_word f s (Nat.lt_of_le_of_lt h f.infRung_lt)
  unfold key
  rw [h1, h2]
theorem key_nearest (f : Format) (s : Bool) (mag : Nat) (place : Int) : key f (f.nearest s mag place) = if s then -(rungTo f mag place : Int) else rungTo f mag place := by
  rw [nearest_eq, key_word f s (rungTo_le f mag place)]
/-- a finite number not less than 0 -/
theorem read_nn {f : Format} (he : 1 ≤ f.exponentBits) {x : Nat} (hf : isFin f x = true) (hk : 0 ≤ key f x) : ∃ s m e, f.read x = .number s m e ∧ (s = false ∨ m = 0) ∧ f.leastPlace ≤ e ∧ m * 2 ^ (e - f.leastPlace).toNat = mu f (rungOf f x) ∧ key f x = rungOf f x := by
  obtain ⟨m, e, hr, hl, hm⟩ := read_fin ((fin_iff f he x).1 hf)
  unfold key at hk ⊢
  cases hs : negOf f x with
  | false => exact ⟨_, m, e, hs ▸ hr, .inl rfl, hl, hm, by simp⟩
  | true =>
    rw [hs] at hk hr
    simp only [if_true] at hk ⊢
    have h0 : rungOf f x = 0 := by omega
    rw [h0] at hm ⊢
    rw [mu_zero] at hm
    have hm0 : m = 0 := by
      rcases Nat.mul_eq_zero.1 hm with h | h
      · exact h
      · have := Nat.two_pow_pos (e - f.leastPlace).toNat; omega
    exact ⟨_, m, e, hr, .inr hm0, hl, by rw [hm, mu_zero], rfl⟩
theorem signed_nn {s : Bool} {m k : Nat} (h : s = false ∨ m = 0) : signed s m k = ((m * 2 ^ k : Nat) : Int) := by
  unfold signed
  rw [Nat.shiftLeft_eq]
  rcases h with rfl | rfl
  · rfl
  · cases s <;> simp
theorem signed_opp {s : Bool} {m k : Nat} (h : s = false ∨ m = 0) : signed (!s) m k = -((m * 2 ^ k : Nat) : Int) := by
  unfold signed
  rw [Nat.shiftLeft_eq]
  rcases h with rfl | rfl
  · rfl
  · cases s <;> simp

/-- a difference of numbers not less than 0, the greater one first: not less than 0, not greater than the first -/
theorem sub_nn {x y : Nat} (hx : isFin single x = true) (hy : isFin single y = true) (hkx : 0 ≤ key single x) (hky : 0 ≤ key single y) (hxy : key single y ≤ key single x) :
    isFin single (fsub x y) = true ∧ 0 ≤ key single (fsub x y) ∧ key single (fsub x y) ≤ key single x := by
  have he : 1 ≤ single.exponentBits := by decide
  have hrx := (fin_iff single he x).1 hx
  obtain ⟨s, m, i, hr, hs, hli, hm, hk⟩ := read_nn he hx hkx
  obtain ⟨t, n, j, hq, ht, hlj, hn, hk2⟩ := read_nn he hy hky
  have hle : mu single (rungOf single y) ≤ mu single (rungOf single x) := (mu_le_iff _ _ _).2 (by omega)
  have hsub : single.sub x y = some (single.nearest (if signed s m (i - min i j).toNat + signed (!t) n (j - min i j).toNat = 0 then s && !t else decide (signed s m (i - min i j).toNat + signed (!t) n (j - min i j).toNat < 0)) (signed s m (i - min i j).toNat + signed (!t) n (j - min i j).toNat).natAbs (min i j)) := by
    unfold Format.sub
    rw [hr, hq]
    rfl
  have hv := congrArg (fun o => Option.getD o 0) hsub
  change fsub x y = _ at hv
  simp only [Option.getD_some] at hv
  rw [signed_nn hs, signed_opp ht] at hv
  have hbase : single.leastPlace ≤ min i j := by omega
  have e1 : (i - single.leastPlace).toNat = (i - min i j).toNat + (min i j - single.leastPlace).toNat := by omega
  have e2 : (j - single.leastPlace).toNat = (j - min i j).toNat + (min i j - single.leastPlace).toNat := by omega
  rw [e1, mul_pow_add] at hm
  rw [e2, mul_pow_add] at hn
  generalize m * 2 ^ (i - min i j).toNat = a at *
  generalize n * 2 ^ (j - min i j).toNat = b at *
  rw [← hm, ← hn] at hle
  have hab : b ≤ a := Nat.le_of_mul_le_mul_right hle (Nat.two_pow_pos _)
  have hmag : ((a : Int) + -(b : Int)).natAbs = a - b := by omega
  have hbound : rungTo single (a - b) (min i j) ≤ rungOf single x := by
    refine rungTo_mono single _ _ single.leastPlace _ hbase (Int.le_refl _) ?_
    rw [Int.sub_self, Int.toNat_zero, Nat.pow_zero, Nat.mul_one, ← hm]
    exact Nat.mul_le_mul_right _ (Nat.sub_le _ _)
  rw [hmag] at hv
  have hkey := key_nearest single (if ((a : Int) + -(b : Int)) = 0 then s && !t else decide (((a : Int) + -(b : Int)) < 0)) (a - b) (min i j)
  rw [← hv] at hkey
  have hsgn : (if ((a : Int) + -(b : Int)) = 0 then s && !t else decide (((a : Int) + -(b : Int)) < 0)) = false ∨ rungTo single (a - b) (min i j) = 0 := by
    by_cases h0 : ((a : Int) + -(b : Int)) = 0
    · right
      have : a - b = 0 := by omega
      rw [this]
      rfl
    · left
      rw [if_neg h0]
      exact decide_eq_false (by omega)
  have hkey2 : key single (fsub x y) = rungTo single (a - b) (min i j) := by
    rw [hkey]
    rcases hsgn with h | h
    · rw [h]; rfl
    · rw [h]; simp
  refine ⟨?_, by omega, by omega⟩
  rw [fin_iff single he, hv, nearest_eq, (rung_word single _ (rungTo_lt single _ _)).1]
  omega

/-- a product of a number not less than 0 with a part: not less than 0, not greater than the first -/
theorem mul_nn {x y : Nat} (hx : isFin single x = true) (hy : isFin single y = true) (hkx : 0 ≤ key single x) (hky : 0 ≤ key single y) (hy1 : key single y ≤ 1065353216) :
    isFin single (fmul x y) = true ∧ 0 ≤ key single (fmul x y) ∧ key single (fmul x y) ≤ key single x := by
  have he : 1 ≤ single.exponentBits := by decide
  have hrx := (fin_iff single he x).1 hx
  obtain ⟨s, m, i, hr, hs, hli, hm, hk⟩ := read_nn he hx hkx
  obtain ⟨t, n, j, hq, ht, hlj, hn, hk2⟩ := read_nn he hy hky
  have hmul : single.mul x y = some (single.nearest (s ^^ t) (m * n) (i + j)) := by
    unfold Format.mul
    rw [hr, hq]
    rfl
  have hv := congrArg (fun o => Option.getD o 0) hmul
  change fmul x y = _ at hv
  simp only [Option.getD_some] at hv
  have hmu1 : mu single (rungOf single y) ≤ 2 ^ 149 := by
    have h1 : mu single 1065353216 = 2 ^ 149 := by decide +kernel
    rw [← h1]
    exact (mu_le_iff _ _ _).2 (by omega)
  have hlp : single.leastPlace = -149 := by decide +kernel
  have hbound : rungTo single (m * n) (i + j) ≤ rungOf single x := by
    refine rungTo_mono single _ _ (-298) _ (by omega) (by omega) ?_
    have e1 : (i + j - -298).toNat = (i - single.leastPlace).toNat + (j - single.leastPlace).toNat := by omega
    have e2 : (single.leastPlace - -298).toNat = 149 := by omega
    rw [e1, e2, Nat.pow_add, Nat.mul_mul_mul_comm, hm, hn]
    exact Nat.mul_le_mul_left _ hmu1
  have hkey := key_nearest single (s ^^ t) (m * n) (i + j)
  rw [← hv] at hkey
  have hsgn : (s ^^ t) = false ∨ rungTo single (m * n) (i + j) = 0 := by
    rcases hs with rfl | rfl
    · rcases ht with rfl | rfl
      · exact .inl rfl
      · right; rw [Nat.mul_zero]; rfl
    · right; rw [Nat.zero_mul]; rfl
  have hkey2 : key single (fmul x y) = rungTo single (m * n) (i + j) := by
    rw [hkey]
    rcases hsgn with h | h
    · rw [h]; rfl
    · rw [h]; simp
  refine ⟨?_, by omega, by omega⟩
  rw [fin_iff single he, hv, nearest_eq, (rung_word single _ (rungTo_lt single _ _)).1]
  omega
end Go.Proofs.Ytfkjnaaplhcheaa
namespace Go.Proofs.Ytfkjnaaplhcheaa
open Go Ieee

/-- what is not less than a number of the format rounds to nothing less -/
theorem rungTo_low (f : Format) (mag : Nat) (place B : Int) (r : Nat) (h1 : B ≤ place) (h2 : B ≤ f.leastPlace) (hr : r ≤ f.infRung) (hM : mu f r * 2 ^ (f.leastPlace - B).toNat ≤ mag * 2 ^ (place - B).toNat) : r ≤ rungTo f mag place := by
  unfold rungTo
  split
  · rename_i hm
    subst hm
    rw [Nat.zero_mul] at hM
    rcases Nat.mul_eq_zero.1 (Nat.le_zero.1 hM) with h | h
    · rcases Nat.eq_zero_or_pos r with h0 | h0
      · omega
      · have := mu_mono f h0
        omega
    · have := Nat.two_pow_pos (f.leastPlace - B).toNat; omega
  · rename_i hm
    refine Nat.le_min.2 ⟨?_, hr⟩
    obtain ⟨c1, c2⟩ := kept_err f mag place B h1 h2
    have hlog : mag < 2 ^ (mag.log2 + 1) := Nat.lt_log2_self
    have hlog2 : 2 ^ mag.log2 ≤ mag := Nat.log2_self_le hm
    have hlast : lastOf f mag place = max (place + mag.log2 - f.fractionBits) f.leastPlace := rfl
    have hbin : f.binade = 2 ^ f.fractionBits := rfl
    have hb := binade_pos f
    generalize keptOf f mag place = k at *
    have hl : f.leastPlace ≤ lastOf f mag place := by omega
    obtain ⟨e, he⟩ : ∃ e, (lastOf f mag place - f.leastPlace).toNat = e := ⟨_, rfl⟩
    obtain ⟨L, hL⟩ : ∃ L, (f.leastPlace - B).toNat = L := ⟨_, rfl⟩
    obtain ⟨P, hP⟩ : ∃ P, (place - B).toNat = P := ⟨_, rfl⟩
    rw [he, hL, hP] at c1 c2
    rw [hL, hP] at hM
    rw [he]
    have hpe : 0 < 2 ^ (e + L) := Nat.two_pow_pos _
    have up : mag * 2 ^ P < 2 * f.binade * 2 ^ (e + L) := by
      have a1 : mag * 2 ^ P < 2 ^ (mag.log2 + 1) * 2 ^ P := Nat.mul_lt_mul_of_pos_right hlog (Nat.two_pow_pos _)
      rw [← Nat.pow_add] at a1
      have a2 : 2 * f.binade * 2 ^ (e + L) = 2 ^ (1 + f.fractionBits + (e + L)) := by rw [hbin, Nat.pow_add 2 (1 + f.fractionBits), Nat.pow_add 2 1, Nat.pow_one]
      rw [a2]
      exact Nat.lt_of_lt_of_le a1 (Nat.pow_le_pow_right (by decide) (by omega))
    have hk2 : k ≤ 2 * f.binade := by
      rcases Nat.lt_or_ge (2 * f.binade) k with hlt | hge
      · exfalso
        have a1 := Nat.mul_le_mul_right (2 ^ (e + L)) (show 2 * f.binade + 1 ≤ k by omega)
        rw [Nat.add_mul, Nat.one_mul] at a1
        omega
      · exact hge
    have lo : 0 < e → f.binade * 2 ^ (e + L) ≤ mag * 2 ^ P := fun h0 => by
      have a1 : 2 ^ mag.log2 * 2 ^ P ≤ mag * 2 ^ P := Nat.mul_le_mul_right _ hlog2
      rw [← Nat.pow_add] at a1
      have a2 : f.binade * 2 ^ (e + L) = 2 ^ (mag.log2 + P) := by rw [hbin, ← Nat.pow_add]; congr 1; omega
      rw [a2]
      exact a1
    have hk1 : 0 < e → f.binade ≤ k := fun h0 => by
      rcases Nat.lt_or_ge k f.binade with hlt | hge
      · exfalso
        have a0 := lo h0
        have a1 := Nat.mul_le_mul_right (2 ^ (e + L)) (show k + 1 ≤ f.binade by omega)
        rw [Nat.add_mul, Nat.one_mul] at a1
        omega
      · exact hge
    rcases Nat.lt_or_ge (e * f.binade + k) r with hlt | hge
    · exfalso
      by_cases hk3 : k = 2 * f.binade
      · have hmu : mu f (e * f.binade + k) = k * 2 ^ e := mu_stair f e k (by omega) hk2
        have hlt2 : mu f (e * f.binade + k) < mu f r := mu_mono f hlt
        rw [hmu] at hlt2
        have a1 : k * 2 ^ e * 2 ^ L < mu f r * 2 ^ L := Nat.mul_lt_mul_of_pos_right hlt2 (Nat.two_pow_pos _)
        rw [Nat.mul_assoc, ← Nat.pow_add, hk3] at a1
        omega
      · have hmu : mu f (e * f.binade + (k + 1)) = (k + 1) * 2 ^ e := mu_stair f e (k + 1) (by omega) (by omega)
        have hle : mu f (e * f.binade + (k + 1)) ≤ mu f r := (mu_le_iff f _ _).2 (by omega)
        rw [hmu] at hle
        have a1 := Nat.mul_le_mul_right (2 ^ L) hle
        rw [Nat.mul_assoc, ← Nat.pow_add, Nat.add_mul, Nat.one_mul] at a1
        omega
    · exact hge
/-- a number of the format rounds to itself -/
theorem rungTo_exact (f : Format) (mag : Nat) (place B : Int) (r : Nat) (h1 : B ≤ place) (h2 : B ≤ f.leastPlace) (hr : r ≤ f.infRung) (hM : mag * 2 ^ (place - B).toNat = mu f r * 2 ^ (f.leastPlace - B).toNat) : rungTo f mag place = r :=
  Nat.le_antisymm (rungTo_mono f mag place B r h1 h2 (Nat.le_of_eq hM)) (rungTo_low f mag place B r h1 h2 hr (Nat.le_of_eq hM.symm))

theorem inf_nn {x : Nat} (hx : isNan single x = false) (hf : isFin single x = false) (hk : 0 ≤ key single x) : rungOf single x = single.infRung ∧ negOf single x = false := by
  have he : 1 ≤ single.exponentBits := by decide
  have hle := notNan_le he hx
  have hge : ¬ rungOf single x < single.infRung := fun h => by rw [(fin_iff single he x).2 h] at hf; cases hf
  have hr : rungOf single x = single.infRung := by omega
  refine ⟨hr, ?_⟩
  cases h : negOf single x with
  | false => rfl
  | true =>
    exfalso
    unfold key at hk
    rw [h, if_pos rfl, hr] at hk
    have := inf_pos (f := single) he
    omega

/-- a sum of numbers not less than 0: not less than 0; of zeros a zero -/
theorem add_nn {x y : Nat} (hx : isNan single x = false) (hkx : 0 ≤ key single x) (hy : isFin single y = true) (hky : 0 ≤ key single y) :
    0 ≤ key single (fadd x y) ∧ (key single x = 0 → key single y = 0 → key single (fadd x y) = 0) := by
  have he : 1 ≤ single.exponentBits := by decide
  obtain ⟨t, n, j, hq, ht, hlj, hn, hk2⟩ := read_nn he hy hky
  cases hf : isFin single x with
  | false =>
    obtain ⟨hr, hneg⟩ := inf_nn hx hf hkx
    have hri := read_inf he hr
    have hadd : single.add x y = some (single.word false single.infRung) := by
      unfold Format.add
      rw [hri, hq, hneg]
      rfl
    have hv := congrArg (fun o => Option.getD o 0) hadd
    change fadd x y = _ at hv
    simp only [Option.getD_some] at hv
    have := inf_pos (f := single) he
    refine ⟨by rw [hv, key_word single false (Nat.le_refl _)]; simp, fun h _ => ?_⟩
    unfold key at h
    rw [hneg, hr] at h
    simp at h
    omega
  | true =>
    obtain ⟨s, m, i, hr, hs, hli, hm, hk⟩ := read_nn he hf hkx
    have hadd : single.add x y = some (single.nearest (if signed s m (i - min i j).toNat + signed t n (j - min i j).toNat = 0 then s && t else decide (signed s m (i - min i j).toNat + signed t n (j - min i j).toNat < 0)) (signed s m (i - min i j).toNat + signed t n (j - min i j).toNat).natAbs (min i j)) := by
      unfold Format.add
      rw [hr, hq]
      rfl
    have hv := congrArg (fun o => Option.getD o 0) hadd
    change fadd x y = _ at hv
    simp only [Option.getD_some] at hv
    rw [signed_nn hs, signed_nn ht] at hv
    have hz1 : key single x = 0 → m * 2 ^ (i - min i j).toNat = 0 := fun h => by
      have h0 : rungOf single x = 0 := by omega
      rw [h0, mu_zero] at hm
      rcases Nat.mul_eq_zero.1 hm with h | h
      · rw [h, Nat.zero_mul]
      · have := Nat.two_pow_pos (i - single.leastPlace).toNat; omega
    have hz2 : key single y = 0 → n * 2 ^ (j - min i j).toNat = 0 := fun h => by
      have h0 : rungOf single y = 0 := by omega
      rw [h0, mu_zero] at hn
      rcases Nat.mul_eq_zero.1 hn with h | h
      · rw [h, Nat.zero_mul]
      · have := Nat.two_pow_pos (j - single.leastPlace).toNat; omega
    generalize m * 2 ^ (i - min i j).toNat = a at *
    generalize n * 2 ^ (j - min i j).toNat = b at *
    have hmag : ((a : Int) + (b : Int)).natAbs = a + b := by omega
    rw [hmag] at hv
    have hkey := key_nearest single (if ((a : Int) + (b : Int)) = 0 then s && t else decide (((a : Int) + (b : Int)) < 0)) (a + b) (min i j)
    rw [← hv] at hkey
    have hsgn : (if ((a : Int) + (b : Int)) = 0 then s && t else decide (((a : Int) + (b : Int)) < 0)) = false ∨ rungTo single (a + b) (min i j) = 0 := by
      by_cases h0 : ((a : Int) + (b : Int)) = 0
      · right
        have : a + b = 0 := by omega
        rw [this]
        rfl
      · left
        rw [if_neg h0]
        exact decide_eq_false (by omega)
    have hkey2 : key single (fadd x y) = rungTo single (a + b) (min i j) := by
      rw [hkey]
      rcases hsgn with h | h
      · rw [h]; rfl
      · rw [h]; simp
    refine ⟨by omega, fun h1 h2 => ?_⟩
    rw [hkey2, hz1 h1, hz2 h2]
    rfl

/-- a difference of finite numbers not less than 0 is finite -/
theorem sub_fin {x y : Nat} (hx : isFin single x = true) (hy : isFin single y = true) (hkx : 0 ≤ key single x) (hky : 0 ≤ key single y) : isFin single (fsub x y) = true := by
  have he : 1 ≤ single.exponentBits := by decide
  have hrx := (fin_iff single he x).1 hx
  have hry := (fin_iff single he y).1 hy
  obtain ⟨s, m, i, hr, hs, hli, hm, hk⟩ := read_nn he hx hkx
  obtain ⟨t, n, j, hq, ht, hlj, hn, hk2⟩ := read_nn he hy hky
  have hsub : single.sub x y = some (single.nearest (if signed s m (i - min i j).toNat + signed (!t) n (j - min i j).toNat = 0 then s && !t else decide (signed s m (i - min i j).toNat + signed (!t) n (j - min i j).toNat < 0)) (signed s m (i - min i j).toNat + signed (!t) n (j - min i j).toNat).natAbs (min i j)) := by
    unfold Format.sub
    rw [hr, hq]
    rfl
  have hv := congrArg (fun o => Option.getD o 0) hsub
  change fsub x y = _ at hv
  simp only [Option.getD_some] at hv
  rw [signed_nn hs, signed_opp ht] at hv
  have hbase : single.leastPlace ≤ min i j := by omega
  have e1 : (i - single.leastPlace).toNat = (i - min i j).toNat + (min i j - single.leastPlace).toNat := by omega
  have e2 : (j - single.leastPlace).toNat = (j - min i j).toNat + (min i j - single.leastPlace).toNat := by omega
  rw [e1, mul_pow_add] at hm
  rw [e2, mul_pow_add] at hn
  generalize m * 2 ^ (i - min i j).toNat = a at *
  generalize n * 2 ^ (j - min i j).toNat = b at *
  have hbound : rungTo single ((a : Int) + -(b : Int)).natAbs (min i j) ≤ max (rungOf single x) (rungOf single y) := by
    refine rungTo_mono single _ _ single.leastPlace _ hbase (Int.le_refl _) ?_
    rw [Int.sub_self, Int.toNat_zero, Nat.pow_zero, Nat.mul_one]
    rcases Nat.le_total a b with h | h
    · refine Nat.le_trans ?_ ((mu_le_iff single _ _).2 (Nat.le_max_right _ _))
      rw [← hn]
      exact Nat.mul_le_mul_right _ (by omega)
    · refine Nat.le_trans ?_ ((mu_le_iff single _ _).2 (Nat.le_max_left _ _))
      rw [← hm]
      exact Nat.mul_le_mul_right _ (by omega)
  rw [fin_iff single he, hv, nearest_eq, (rung_word single _ (rungTo_lt single _ _)).1]
  omega

/-- what is taken from 0 -/
theorem zero_sub {x : Nat} (hx : isFin single x = true) (hk : key single x ≤ 0) : fsub 0 x = rungOf single x := by
  have he : 1 ≤ single.exponentBits := by decide
  have hrx := (fin_iff single he x).1 hx
  obtain ⟨m, i, hr, hl, hm⟩ := read_fin hrx
  have hs : (!negOf single x) = false ∨ m = 0 := by
    cases h : negOf single x with
    | true => exact .inl rfl
    | false =>
      right
      unfold key at hk
      rw [h] at hk
      simp at hk
      rw [hk, mu_zero] at hm
      rcases Nat.mul_eq_zero.1 hm with h | h
      · exact h
      · have := Nat.two_pow_pos (i - single.leastPlace).toNat; omega
  have h0 : single.read 0 = .number false 0 single.leastPlace := by decide +kernel
  have hsub : single.sub 0 x = some (single.nearest (if signed false 0 (single.leastPlace - min single.leastPlace i).toNat + signed (!negOf single x) m (i - min single.leastPlace i).toNat = 0 then false && !negOf single x else decide (signed false 0 (single.leastPlace - min single.leastPlace i).toNat + signed (!negOf single x) m (i - min single.leastPlace i).toNat < 0)) (signed false 0 (single.leastPlace - min single.leastPlace i).toNat + signed (!negOf single x) m (i - min single.leastPlace i).toNat).natAbs (min single.leastPlace i)) := by
    unfold Format.sub
    rw [hr, h0]
    rfl
  have hv := congrArg (fun o => Option.getD o 0) hsub
  change fsub 0 x = _ at hv
  simp only [Option.getD_some] at hv
  rw [signed_nn (.inl rfl), signed_nn hs, Nat.zero_mul] at hv
  have hmin : min single.leastPlace i = single.leastPlace := by omega
  rw [hmin, hm] at hv
  have hs : (if ((0 : Nat) : Int) + ((mu single (rungOf single x) : Nat) : Int) = 0 then false && !negOf single x else decide (((0 : Nat) : Int) + ((mu single (rungOf single x) : Nat) : Int) < 0)) = false := by
    split
    · rfl
    · exact decide_eq_false (by omega)
  have hmag : (((0 : Nat) : Int) + ((mu single (rungOf single x) : Nat) : Int)).natAbs = mu single (rungOf single x) := by omega
  rw [hs, hmag, nearest_eq] at hv
  rw [hv, rungTo_exact single _ _ single.leastPlace (rungOf single x) (Int.le_refl _) (Int.le_refl _) (by omega) (by rw [Int.sub_self, Int.toNat_zero])]
  rfl

/-- words that are written are words -/
theorem write_lt (d : Datum) : single.write d < 4294967296 := by
  have h1 : single.signWeight = 2147483648 := rfl
  have h2 : single.infRung = 2139095040 := rfl
  have h3 : single.binade = 8388608 := rfl
  have hw : ∀ s r, r < 2147483648 → single.word s r < 4294967296 := fun s r hr => by
    unfold Format.word
    rw [h1]
    split <;> omega
  cases d with
  | number s m e =>
    show single.nearest s m e < _
    rw [nearest_eq]
    exact hw _ _ (by have := rungTo_le single m e; omega)
  | infinity s => exact hw _ _ (by omega)
  | nan s t => exact hw _ _ (by rw [h2, h3]; omega)
theorem fsub_lt (x y : Nat) : fsub x y < 4294967296 := by
  unfold fsub Format.sub
  cases (single.read x).sum (single.read y).opposite with
  | none => decide
  | some d => exact write_lt d
theorem fadd_lt (x y : Nat) : fadd x y < 4294967296 := by
  unfold fadd Format.add
  cases (single.read x).sum (single.read y) with
  | none => decide
  | some d => exact write_lt d
theorem fmul_lt (x y : Nat) : fmul x y < 4294967296 := by
  unfold fmul Format.mul
  cases (single.read x).product (single.read y) with
  | none => decide
  | some d => exact write_lt d
/-- a word without its sign -/
theorem word_nn {x : Nat} (hx : x < 4294967296) (h : negOf single x = false) : x = rungOf single x := by
  have h1 : single.signWeight = 2147483648 := rfl
  unfold negOf at h
  unfold rungOf
  rw [h1] at h ⊢
  simp at h
  omega
theorem neg_word {x : Nat} (hx : x < 4294967296) (h : negOf single x = true) : Op.negFloat .f32 x = rungOf single x := by
  have h2 : Op.negFloat .f32 x = x ^^^ 2 ^ 31 := rfl
  have h3 : Op.negFloat .f32 x < 4294967296 := by
    rw [h2]
    exact Nat.xor_lt_two_pow (n := 32) hx (by decide)
  have h4 := word_nn h3 (by rw [(neg_parts x).2, h]; rfl)
  rw [(neg_parts x).1] at h4
  exact h4
theorem key_rung {x : Nat} : key single (rungOf single x) = rungOf single x := by
  have h1 : single.signWeight = 2147483648 := rfl
  have hl : rungOf single x < 2147483648 := by unfold rungOf; rw [h1]; omega
  unfold key negOf
  rw [h1]
  have e1 : rungOf single (rungOf single x) = rungOf single x := by unfold rungOf; rw [h1]; omega
  have e2 : rungOf single x / 2147483648 = 0 := by omega
  rw [e1, e2]
  rfl

/-- the reference's absolute value -/
def sizeF (x : Nat) : Nat := if key single x ≤ 0 then fsub 0 x else x
theorem key_size {x : Nat} (hx : isFin single x = true) : key single (sizeF x) = (key single x).natAbs := by
  unfold sizeF
  split
  · rename_i h
    rw [zero_sub hx h, key_rung]
    unfold key at h ⊢
    split at h
    · rename_i hn; rw [if_pos hn]; omega
    · rename_i hn; rw [if_neg hn] <;> omega
  · omega
theorem size_fin {x : Nat} (hx : isFin single x = true) : isFin single (sizeF x) = true ∧ negOf single (sizeF x) = false := by
  have he : 1 ≤ single.exponentBits := by decide
  have h1 : single.signWeight = 2147483648 := rfl
  unfold sizeF
  split
  · rename_i h
    have hrx := (fin_iff single he x).1 hx
    rw [zero_sub hx h, fin_iff single he]
    have e1 : rungOf single (rungOf single x) = rungOf single x := by unfold rungOf; rw [h1]; omega
    have e2 : rungOf single x / 2147483648 = 0 := by have : rungOf single x < 2147483648 := (by unfold rungOf; rw [h1]; omega); omega
    refine ⟨by rw [e1]; exact hrx, ?_⟩
    unfold negOf
    rw [h1, e2]
    rfl
  · rename_i h
    refine ⟨hx, ?_⟩
    cases hn : negOf single x with
    | false => rfl
    | true => unfold key at h; rw [hn] at h; simp at h
theorem size_abs {x : Nat} (hx : isFin single x = true) (hl : x < 4294967296) (h : key single x ≠ 0) : sizeF x = fabs x := by
  unfold sizeF fabs
  by_cases h0 : key single x < 0
  · have hn : negOf single x = true := by
      cases hn : negOf single x with
      | true => rfl
      | false => unfold key at h0; rw [hn] at h0; simp at h0; omega
    rw [if_pos (by omega), if_pos h0, zero_sub hx (by omega), neg_word hl hn]
  · rw [if_neg (by omega), if_neg h0]

/-- the greater one of two numbers -/
def maxF (x y : Nat) : Nat := if key single x < key single y then y else if key single y < key single x then x else if negOf single x then y else x
theorem run_max_f {P : Program} (w : World) (ts : Array TypeId) (t : TypeId) {x y : Nat} (hx : isNan single x = false) (hy : isNan single y = false) :
    (Builtin.max_ ts t #[.float .f32 x, .float .f32 y]).run P w = .ok (.float .f32 (maxF x y)) w := by
  have ho := order_key (f := single) (by decide) hx hy
  have ho' : FloatKind.f32.format.order x y = some (compare (key single x) (key single y)) := ho
  have hn : (FloatKind.f32.decode x).neg = negOf single x := by
    show (single.read x).neg = _
    rcases read_notNan hx with ⟨m, e, h⟩ | h <;> rw [h] <;> rfl
  unfold maxF
  by_cases h1 : key single x < key single y
  · rw [if_pos h1]
    have : compare (key single x) (key single y) = .lt := by rw [Int.compare_eq_lt]; exact h1
    rw [this] at ho'
    simp [Builtin.max_, Builtin.max2, ho']
  · rw [if_neg h1]
    by_cases h2 : key single y < key single x
    · rw [if_pos h2]
      have : compare (key single x) (key single y) = .gt := by rw [Int.compare_eq_gt]; exact h2
      rw [this] at ho'
      simp [Builtin.max_, Builtin.max2, ho']
    · rw [if_neg h2]
      have : compare (key single x) (key single y) = .eq := by rw [Int.compare_eq_eq]; omega
      rw [this] at ho'
      simp [Builtin.max_, Builtin.max2, ho', hn]
theorem max_notNan {x y : Nat} (hx : isNan single x = false) (hy : isNan single y = false) : isNan single (maxF x y) = false := by
  unfold maxF
  split
  · exact hy
  · split
    · exact hx
    · split
      · exact hy
      · exact hx
/-- the greatest absolute value so far, the program's way and the reference's -/
theorem max_size {m d : Nat} (hm : negOf single m = false) (hd : isFin single d = true) (hl : d < 4294967296) : maxF m (fabs d) = if key single m < key single (sizeF d) then sizeF d else m := by
  have hm0 : 0 ≤ key single m := by unfold key; rw [hm]; simp
  rw [key_size hd]
  unfold maxF
  rw [key_fabs]
  by_cases h : key single m < ((key single d).natAbs : Int)
  · rw [if_pos h, if_pos h, size_abs hd hl (by omega)]
  · rw [if_neg h, if_neg h, hm]
    simp
end Go.Proofs.Ytfkjnaaplhcheaa
namespace Go.Proofs.Ytfkjnaaplhcheaa
open Go Ieee

theorem pw {n a b c d : Nat} (h : a + b = c + d) : n * 2 ^ a * 2 ^ b = n * 2 ^ c * 2 ^ d := by rw [Nat.mul_assoc, ← Nat.pow_add, h, Nat.pow_add, ← Nat.mul_assoc]
/-- the word of n * 2^(t - 126) -/
def rungN (n t : Nat) : Nat := if n = 0 then 0 else (n.log2 + t) * 8388608 + n * 2 ^ (23 - n.log2)
theorem rungN_bd {n : Nat} (h : n < 16777216) (h0 : n ≠ 0) : n.log2 ≤ 23 ∧ 8388608 ≤ n * 2 ^ (23 - n.log2) ∧ n * 2 ^ (23 - n.log2) < 16777216 := by
  have h1 : n.log2 < 24 := (Nat.log2_lt h0).2 h
  have h2 : 2 ^ n.log2 ≤ n := Nat.log2_self_le h0
  have h3 : n < 2 ^ (n.log2 + 1) := Nat.lt_log2_self
  have h4 : 0 < 2 ^ (23 - n.log2) := Nat.two_pow_pos _
  have h5 : 2 ^ n.log2 * 2 ^ (23 - n.log2) = 8388608 := by rw [← Nat.pow_add, show n.log2 + (23 - n.log2) = 23 by omega]
  have h6 : 2 ^ (n.log2 + 1) * 2 ^ (23 - n.log2) = 16777216 := by rw [← Nat.pow_add, show n.log2 + 1 + (23 - n.log2) = 24 by omega]
  refine ⟨by omega, ?_, ?_⟩
  · rw [← h5]; exact Nat.mul_le_mul_right _ h2
  · rw [← h6]; exact Nat.mul_lt_mul_of_pos_right h3 h4
theorem mu_rungN {n : Nat} (t : Nat) (h : n < 16777216) : mu single (rungN n t) = n * 2 ^ (23 + t) := by
  by_cases h0 : n = 0
  · unfold rungN
    rw [if_pos h0, h0, mu_zero, Nat.zero_mul]
  · obtain ⟨h1, h2, h3⟩ := rungN_bd h h0
    have hb : single.binade = 8388608 := rfl
    have := mu_stair single (n.log2 + t) (n * 2 ^ (23 - n.log2)) (.inr (by rw [hb]; exact h2)) (by rw [hb]; omega)
    rw [hb] at this
    unfold rungN
    rw [if_neg h0, this, Nat.mul_assoc, ← Nat.pow_add, show 23 - n.log2 + (n.log2 + t) = 23 + t by omega]
theorem rungN_lt {n : Nat} (t : Nat) (h : n < 16777216) : rungN n t < (t + 25) * 8388608 := by
  by_cases h0 : n = 0
  · unfold rungN
    rw [if_pos h0]
    omega
  · obtain ⟨h1, h2, h3⟩ := rungN_bd h h0
    unfold rungN
    rw [if_neg h0]
    have := Nat.mul_le_mul_right 8388608 (show n.log2 + t ≤ 23 + t by omega)
    omega
theorem low_word {r : Nat} (h : r < 2147483648) : rungOf single r = r ∧ negOf single r = false := by
  have hs : single.signWeight = 2147483648 := rfl
  unfold rungOf negOf
  rw [hs, Nat.mod_eq_of_lt h, Nat.div_eq_of_lt h]
  exact ⟨rfl, rfl⟩
theorem key_low {r : Nat} (h : r < 2147483648) : key single r = r := by
  unfold key
  rw [(low_word h).1, (low_word h).2]
  rfl
/-- an integer below 2^24 as a single number -/
theorem ofInt_rung {n : Nat} (h : n < 16777216) : floatOfInt .f32 (n : Int) = rungN n 126 := by
  have h1 : floatOfInt .f32 (n : Int) = single.nearest (decide ((n : Int) < 0)) (n : Int).natAbs 0 := rfl
  rw [h1, nearest_eq, decide_eq_false (by omega), Int.natAbs_natCast]
  have hl : single.leastPlace = -149 := rfl
  have hi : single.infRung = 2139095040 := rfl
  have := rungTo_exact single n 0 (-149) (rungN n 126) (by decide) (by rw [hl]; decide) (by have := rungN_lt 126 h; rw [hi]; omega) (by
    rw [hl, mu_rungN 126 h]
    show n * 2 ^ 149 = n * 2 ^ (23 + 126) * 2 ^ 0
    rw [Nat.pow_zero, Nat.mul_one])
  rw [this]
  rfl
theorem read_rungN {n : Nat} (h : n < 16777216) : ∃ m e : Nat, single.read (rungN n 126) = .number false m ((e : Int) - 149) ∧ m * 2 ^ e = n * 2 ^ 149 ∧ m < 16777216 := by
  have hlt := rungN_lt 126 h
  have hw := low_word (r := rungN n 126) (by omega)
  have hi : single.infRung = 2139095040 := rfl
  have hl : single.leastPlace = -149 := rfl
  obtain ⟨m, e, h1, h2, h3⟩ := read_fin (f := single) (x := rungN n 126) (by rw [hw.1, hi]; omega)
  rw [hw.2] at h1
  rw [hw.1, mu_rungN 126 h, hl] at h3
  rw [hl] at h2
  refine ⟨m, (e + 149).toNat, ?_, ?_, ?_⟩
  · rw [h1]; congr 1; omega
  · rw [show (e + 149).toNat = (e - -149).toNat by omega, h3]
  · have h4 := read_eq single (rungN n 126)
    have hb : single.binade = 8388608 := rfl
    rw [h1, hb] at h4
    split at h4
    · injection h4 with _ h5 _
      rw [hw.1] at h5
      omega
    · split at h4
      · injection h4 with _ h5 _
        have := Nat.mod_lt (rungOf single (rungN n 126)) (show 0 < 8388608 by decide)
        omega
      · split at h4 <;> cases h4
/-- a word's share -/
def shareN (n : Nat) : Nat := rungN n 102
theorem share_fin {n : Nat} (h : n < 16777216) : isFin single (shareN n) = true ∧ 0 ≤ key single (shareN n) ∧ key single (shareN n) < 1065353216 := by
  have hlt := rungN_lt 102 h
  have hw := low_word (r := rungN n 102) (by omega)
  have hi : single.infRung = 2139095040 := rfl
  unfold shareN
  refine ⟨(fin_iff single (by decide) _).2 (by rw [hw.1, hi]; omega), ?_, ?_⟩
  · rw [key_low (by omega)]; omega
  · rw [key_low (by omega)]; omega
theorem mul_share {n : Nat} (h : n < 16777216) : floatBits .mul .f32 (rungN n 126) 864026624 = some (shareN n) := by
  obtain ⟨m, e, h1, h2, h3⟩ := read_rungN h
  have hc : single.read 864026624 = .number false 8388608 (-47) := by decide +kernel
  have hl : single.leastPlace = -149 := rfl
  have hi : single.infRung = 2139095040 := rfl
  have hm : single.mul (rungN n 126) 864026624 = some (single.word false (rungTo single (m * 8388608) ((e : Int) - 149 + -47))) := by
    unfold Format.mul
    rw [h1, hc]
    show some (single.nearest (false ^^ false) (m * 8388608) ((e : Int) - 149 + -47)) = _
    rw [nearest_eq]
    rfl
  have hr := rungTo_exact single (m * 8388608) ((e : Int) - 149 + -47) (-300) (shareN n) (by omega) (by rw [hl]; decide) (by have := rungN_lt 102 h; unfold shareN; rw [hi]; omega) (by
    unfold shareN
    rw [hl, mu_rungN 102 h, show ((e : Int) - 149 + -47 - -300).toNat = e + 104 by omega, show (-149 - -300 : Int).toNat = 151 by decide]
    rw [show (8388608 : Nat) = 2 ^ 23 by decide, Nat.mul_assoc, ← Nat.pow_add, show 23 + (e + 104) = e + 127 by omega, Nat.pow_add, ← Nat.mul_assoc, h2]
    exact pw rfl)
  show single.mul (rungN n 126) 864026624 = _
  rw [hm, hr]
  rfl
theorem div_share {n : Nat} (h : n < 16777216) : floatBits .quo .f32 (rungN n 126) 1266679808 = some (shareN n) := by
  obtain ⟨m, e, h1, h2, h3⟩ := read_rungN h
  have hc : single.read 1266679808 = .number false 8388608 1 := by decide +kernel
  have hl : single.leastPlace = -149 := rfl
  have hi : single.infRung = 2139095040 := rfl
  have hlg : m.log2 ≤ 23 := by
    by_cases h0 : m = 0
    · rw [h0]; decide
    · have := (Nat.log2_lt h0).2 (show m < 2 ^ 24 by omega)
      omega
  obtain ⟨q, hq⟩ : ∃ q, 25 + 23 - m.log2 = q + 23 := ⟨25 - m.log2, by omega⟩
  have hqb : q ≤ 25 := by omega
  have hm : single.div (rungN n 126) 1266679808 = some (single.word false (rungTo single (2 * (m * 2 ^ q)) ((e : Int) - 149 - 1 - ((q + 23 : Nat) : Int) - 1))) := by
    unfold Format.div
    rw [h1, hc]
    have hlog : (8388608 : Nat).log2 = 23 := by decide +kernel
    have hfd : single.fractionBits + 2 = 25 := rfl
    have hdd : m <<< (q + 23) = m * 2 ^ q * 8388608 := by
      rw [Nat.shiftLeft_eq, Nat.pow_add, ← Nat.mul_assoc]
    rw [hfd]
    show Option.map single.write (if 8388608 = 0 then if m = 0 then none else some (.infinity (false ^^ false)) else some (.number (false ^^ false) (2 * (m <<< (25 + (8388608 : Nat).log2 - m.log2) / 8388608) + (m <<< (25 + (8388608 : Nat).log2 - m.log2) % 8388608 != 0).toNat) ((e : Int) - 149 - 1 - (25 + (8388608 : Nat).log2 - m.log2 : Nat) - 1))) = _
    rw [if_neg (by decide), hlog, hq, hdd, Nat.mul_div_cancel _ (by decide), Nat.mul_mod_left]
    show some (single.nearest false (2 * (m * 2 ^ q) + 0) _) = _
    rw [nearest_eq, Nat.add_zero]
  have hr := rungTo_exact single (2 * (m * 2 ^ q)) ((e : Int) - 149 - 1 - ((q + 23 : Nat) : Int) - 1) (-300) (shareN n) (by omega) (by rw [hl]; decide) (by have := rungN_lt 102 h; unfold shareN; rw [hi]; omega) (by
    unfold shareN
    rw [hl, mu_rungN 102 h, show (-149 - -300 : Int).toNat = 151 by decide]
    obtain ⟨s, hs⟩ : ∃ s, ((e : Int) - 149 - 1 - ((q + 23 : Nat) : Int) - 1 - -300).toNat = s := ⟨_, rfl⟩
    rw [hs, show 2 * (m * 2 ^ q) = m * 2 ^ (q + 1) by rw [Nat.pow_succ, Nat.mul_comm 2, Nat.mul_assoc], Nat.mul_assoc, ← Nat.pow_add, show q + 1 + s = e + 127 by omega, Nat.pow_add, ← Nat.mul_assoc, h2]
    exact pw rfl)
  show single.div (rungN n 126) 1266679808 = _
  rw [hm, hr]
  rfl

/-! ### going on -/
/-- the sum of the first numbers of a row is greater than u -/
def hitB (row : List Nat) (u k : Nat) : Bool := decide (key single u < key single (fsum (row.take (k + 1))))
def lastTo (row : List Nat) (start : Nat) : Nat → Nat
  | 0 => start
  | k + 1 => if 0 < key single (row.getD k 0) then k else lastTo row start k
def goF (row : List Nat) (u start : Nat) : Nat := match (List.range row.length).find? (hitB row u) with | some k => k | none => lastTo row start row.length
theorem goF_hit {row : List Nat} {u start k : Nat} (hk : k < row.length) (h0 : ∀ j, j < k → hitB row u j = false) (h1 : hitB row u k = true) : goF row u start = k := by
  have : (List.range row.length).find? (hitB row u) = some k := by
    rw [List.find?_range_eq_some]
    exact ⟨h1, List.mem_range.2 hk, fun j hj => by rw [h0 j hj]; rfl⟩
  unfold goF
  rw [this]
theorem goF_none {row : List Nat} {u start : Nat} (h0 : ∀ j, j < row.length → hitB row u j = false) : goF row u start = lastTo row start row.length := by
  have : (List.range row.length).find? (hitB row u) = none := by
    rw [List.find?_eq_none]
    intro j hj
    rw [h0 j (List.mem_range.1 hj)]
    exact Bool.false_ne_true
  unfold goF
  rw [this]
theorem lastTo_lt {row : List Nat} {start n : Nat} (hs : start < n) : ∀ k, k ≤ n → lastTo row start k < n := by
  intro k
  induction k with
  | zero => exact fun _ => hs
  | succ k ih =>
    intro hk
    unfold lastTo
    split
    · omega
    · exact ih (by omega)
theorem goF_lt {row : List Nat} {u start : Nat} (hs : start < row.length) : goF row u start < row.length := by
  cases h : (List.range row.length).find? (hitB row u) with
  | some k =>
    unfold goF
    rw [h]
    exact List.mem_range.1 (List.mem_of_find?_eq_some h)
  | none =>
    unfold goF
    rw [h]
    exact lastTo_lt hs _ (Nat.le_refl _)
theorem fadd_zeros {x : Nat} (hx : isFin single x = true) (hk : key single x = 0) : fadd 0 x = 0 := by
  have he : 1 ≤ single.exponentBits := by decide
  obtain ⟨t, n, j, hq, ht, hlj, hn, hk2⟩ := read_nn he hx (by omega)
  have h0 : rungOf single x = 0 := by omega
  rw [h0, mu_zero] at hn
  have hn0 : n = 0 := by
    rcases Nat.mul_eq_zero.1 hn with h | h
    · exact h
    · have := Nat.two_pow_pos (j - single.leastPlace).toNat; omega
  have hr : single.read 0 = .number false 0 (-149) := by decide +kernel
  have hadd : single.add 0 x = some (single.nearest (if signed false 0 (-149 - min (-149) j).toNat + signed t n (j - min (-149) j).toNat = 0 then false && t else decide (signed false 0 (-149 - min (-149) j).toNat + signed t n (j - min (-149) j).toNat < 0)) (signed false 0 (-149 - min (-149) j).toNat + signed t n (j - min (-149) j).toNat).natAbs (min (-149) j)) := by
    unfold Format.add
    rw [hr, hq]
    rfl
  have hv := congrArg (fun o => Option.getD o 0) hadd
  change fadd 0 x = _ at hv
  simp only [Option.getD_some] at hv
  rw [signed_nn (.inl rfl), signed_nn ht, hn0] at hv
  rw [hv]
  simp only [Nat.zero_mul]
  rfl
theorem fsum_zeros : ∀ (xs : List Nat), (∀ x ∈ xs, isFin single x = true ∧ key single x = 0) → fsum xs = 0 := by
  intro xs
  unfold fsum
  induction xs with
  | nil => exact fun _ => rfl
  | cons x xs ih =>
    intro h
    rw [List.foldl_cons, fadd_zeros (h x (List.mem_cons_self ..)).1 (h x (List.mem_cons_self ..)).2]
    exact ih fun y hy => h y (List.mem_cons_of_mem _ hy)
theorem ok_zero : okSum 0 = false := by decide +kernel
theorem rowAt_part {xs : List Nat} {n i : Nat} (hp : xs.all partB = true) : (rowAt xs n i).all partB = true := by
  rw [List.all_eq_true] at hp ⊢
  intro x hx
  unfold rowAt at hx
  exact hp x (List.mem_of_mem_drop (List.mem_of_mem_take hx))
theorem lastTo_same {row : List Nat} {s t : Nat} : ∀ k, (∃ j, j < k ∧ 0 < key single (row.getD j 0)) → lastTo row s k = lastTo row t k := by
  intro k
  induction k with
  | zero => rintro ⟨j, hj, -⟩; omega
  | succ k ih =>
    rintro ⟨j, hj, hp⟩
    unfold lastTo
    by_cases h : 0 < key single (row.getD k 0)
    · rw [if_pos h, if_pos h]
    · rw [if_neg h, if_neg h]
      refine ih ⟨j, ?_, hp⟩
      rcases Nat.lt_or_ge j k with hlt | hge
      · exact hlt
      · have : j = k := by omega
        subst this
        exact absurd hp h
/-- in a valid chain it is one where the last one begins -/
theorem goF_same {xs : List Nat} {n i u s t : Nat} (hp : xs.all partB = true) (_hl : xs.length = n * n) (hr : rowsOk xs n n = true) (hi : i < n) : goF (rowAt xs n i) u s = goF (rowAt xs n i) u t := by
  have hpos : ∃ j, j < (rowAt xs n i).length ∧ 0 < key single ((rowAt xs n i).getD j 0) := by
    apply Classical.byContradiction
    intro hno
    have hz : fsum (rowAt xs n i) = 0 := fsum_zeros _ fun x hx => by
      have h1 := part_key (List.all_eq_true.1 (rowAt_part hp) x hx)
      refine ⟨h1.2.2.2, ?_⟩
      obtain ⟨j, hj, hjx⟩ := List.getElem_of_mem hx
      have h2 : ¬ 0 < key single x := fun h => hno ⟨j, hj, by rw [List.getD_eq_getElem?_getD, List.getElem?_eq_getElem hj, hjx]; exact h⟩
      have := h1.2.1
      omega
    unfold rowsOk at hr
    have := List.all_eq_true.1 hr i (List.mem_range.2 hi)
    simp only [hz, ok_zero] at this
    cases this
  unfold goF
  split
  · rfl
  · exact lastTo_same _ hpos
/-- the state behind a step with a share -/
def onC (xs : List Nat) (n i u : Nat) : Nat := goF (rowAt xs n i) u 0
theorem onC_lt {xs : List Nat} {n i u : Nat} (hl : xs.length = n * n) (hi : i < n) : onC xs n i u < n := by
  have h := rowAt_len hl hi
  have := goF_lt (row := rowAt xs n i) (u := u) (start := 0) (by omega)
  unfold onC
  omega
end Go.Proofs.Ytfkjnaaplhcheaa
namespace Go.Proofs.Ytfkjnaaplhcheaa
open Go Go.RowKit Ieee

def mixY (x : Int) : Int := IntKind.u64.wrap (bits .xor .u64 x (x / 1073741824) * 13787848793156543929)
def mixZ (x : Int) : Int := IntKind.u64.wrap (bits .xor .u64 x (x / 134217728) * 10723151780598845931)
def mixF (x : Int) : Int := bits .xor .u64 (mixZ (mixY x)) (mixZ (mixY x) / 2147483648)
theorem MixWord_any (x : Int) (w : World) : Calls Try.prog 130 #[.int .u64 x] w (fun e w' => e = .returned (.int .u64 (mixF x)) ∧ w = w') := by
  go_enter Try.func130, Try.ntmps130
  go_wp2
  go_ret
  exact ⟨rfl, rfl⟩
theorem l02Mix_any (x : Int) (w : World) : Calls Try.prog 95 #[.int .u64 x] w (fun e w' => e = .returned (.int .u64 (mixF x)) ∧ w' = w) := by
  go_enter Try.func95, Try.ntmps95
  go_wp2
  go_ret
  exact ⟨rfl, rfl⟩
def turnA (x : Int) : Int := bits .or .u64 (IntKind.u64.wrap (x * 16777216)) (x / 1099511627776)
def turnB (x : Int) : Int := bits .or .u64 (IntKind.u64.wrap (x * 137438953472)) (x / 134217728)
theorem Rot_24 (x : Int) (w : World) : Calls Try.prog 131 #[.int .u64 x, .int .i64 24] w (fun e w' => e = .returned (.int .u64 (turnA x)) ∧ w = w') := by
  have h : bits .and .u64 24 63 = 24 := by decide +kernel
  go_enter Try.func131, Try.ntmps131
  go_wp2
  go_ret
  exact ⟨rfl, rfl⟩
theorem Rot_37 (x : Int) (w : World) : Calls Try.prog 131 #[.int .u64 x, .int .i64 37] w (fun e w' => e = .returned (.int .u64 (turnB x)) ∧ w = w') := by
  have h : bits .and .u64 37 63 = 37 := by decide +kernel
  go_enter Try.func131, Try.ntmps131
  go_wp2
  go_ret
  exact ⟨rfl, rfl⟩
theorem l02Turn_24 (x : Int) (w : World) : Calls Try.prog 138 #[.int .u64 x, .int .u64 24] w (fun e w' => e = .returned (.int .u64 (turnA x)) ∧ w = w') := by
  go_enter Try.func138, Try.ntmps138
  go_wp2
  go_ret
  exact ⟨rfl, rfl⟩
theorem l02Turn_37 (x : Int) (w : World) : Calls Try.prog 138 #[.int .u64 x, .int .u64 37] w (fun e w' => e = .returned (.int .u64 (turnB x)) ∧ w = w') := by
  go_enter Try.func138, Try.ntmps138
  go_wp2
  go_ret
  exact ⟨rfl, rfl⟩

def lineA (a b : Int) : Int := IntKind.u64.wrap (IntKind.u64.wrap (6364136223846793005 * a) + b)
def shiftX (a : Int) : Int := bits .xor .u64 a (IntKind.u64.wrap (a * 8192))
def shiftY (a : Int) : Int := bits .xor .u64 a (a / 128)
def shiftZ (a : Int) : Int := bits .xor .u64 a (IntKind.u64.wrap (a * 131072))
def shiftA (a : Int) : Int := shiftZ (shiftY (shiftX a))
def shiftR (a : Int) : Int := IntKind.u64.wrap (shiftA a * 2685821657736338717)
def countA (a : Int) : Int := IntKind.u64.wrap (a + 11400714819323198485)
def countR (a b : Int) : Int := mixF (IntKind.u64.wrap (countA a + b))
def pairX (a b : Int) : Int := bits .xor .u64 b a
def pairA (a b : Int) : Int := bits .xor .u64 (bits .xor .u64 (turnA a) (pairX a b)) (IntKind.u64.wrap (pairX a b * 65536))
def pairB (a b : Int) : Int := turnB (pairX a b)
def pairR (a b : Int) : Int := IntKind.u64.wrap (a + b)
theorem u64_range (n : Int) : 0 ≤ IntKind.u64.wrap n ∧ IntKind.u64.wrap n < 18446744073709551616 := by rw [IntKind.wrap_u64]; omega
theorem xor_range (x y : Int) : 0 ≤ bits .xor .u64 x y ∧ bits .xor .u64 x y < 18446744073709551616 := u64_range _
theorem or_range (x y : Int) : 0 ≤ bits .or .u64 x y ∧ bits .or .u64 x y < 18446744073709551616 := u64_range _
theorem high_i64 {r : Int} (h : 0 ≤ r ∧ r < 18446744073709551616) : wrap64 (r / 4294967296) = r / 4294967296 := by
  have : 0 ≤ r / 4294967296 ∧ r / 4294967296 < 4294967296 := by omega
  have h2 : IntKind.i64.wrap (r / 4294967296) = r / 4294967296 := IntWalk.i64_in _ (by omega)
  rw [IntWalk.i64_left] at h2
  exact h2
theorem high_u32 {r : Int} (h : 0 ≤ r ∧ r < 18446744073709551616) : IntKind.u32.wrap (r / 4294967296) = r / 4294967296 := by
  have : 0 ≤ r / 4294967296 ∧ r / 4294967296 < 4294967296 := by omega
  rw [IntKind.wrap_u32]
  omega

/-- a seed behind a word; its word -/
def nA (k a b : Int) : Int := if k = 0 then lineA a b else if k = 1 then shiftA a else if k = 2 then countA a else pairA a b
def nB (k a b : Int) : Int := if k = 3 then pairB a b else b
def nR (k a b : Int) : Int := if k = 0 then lineA a b else if k = 1 then shiftR a else if k = 2 then countR a b else pairR a b
theorem nA_range (k a b : Int) : 0 ≤ nA k a b ∧ nA k a b < 18446744073709551616 := by
  unfold nA
  split
  · exact u64_range _
  · split
    · exact xor_range _ _
    · split
      · exact u64_range _
      · exact xor_range _ _
theorem nB_range {k a b : Int} (h : 0 ≤ b ∧ b < 18446744073709551616) : 0 ≤ nB k a b ∧ nB k a b < 18446744073709551616 := by
  unfold nB
  split
  · exact or_range _ _
  · exact h
theorem nR_range (k a b : Int) : 0 ≤ nR k a b ∧ nR k a b < 18446744073709551616 := by
  unfold nR
  split
  · exact u64_range _
  · split
    · exact u64_range _
    · split
      · exact xor_range _ _
      · exact u64_range _
def nW (k a b : Int) : Int := nR k a b / 4294967296
theorem nW_range (k a b : Int) : 0 ≤ nW k a b ∧ nW k a b < 4294967296 := by
  have := nR_range k a b
  unfold nW
  omega
def kindB (k : Int) : Prop := k = 0 ∨ k = 1 ∨ k = 2 ∨ k = 3
def NextOut (k a b : Int) (w : World) (e : Ending) (w' : World) : Prop := e = .returned (.tuple #[.agg #[.int .i64 k, .int .u64 (nA k a b), .int .u64 (nB k a b)], .int .i64 (nW k a b)]) ∧ Below w.heap.size w w'
theorem next_out {k a b A B W : Int} {w w' : World} (h1 : A = nA k a b) (h2 : B = nB k a b) (h3 : W = nW k a b) (hb : Below w.heap.size w w') : NextOut k a b w (.returned (.tuple #[.agg #[.int .i64 k, .int .u64 A, .int .u64 B], .int .i64 W])) w' := by
  subst h1 h2 h3
  exact ⟨rfl, hb⟩
theorem nA_0 (a b : Int) : lineA a b = nA 0 a b := by unfold nA; rw [if_pos rfl]
theorem nA_1 (a b : Int) : shiftA a = nA 1 a b := by unfold nA; rw [if_neg (by decide), if_pos rfl]
theorem nA_2 (a b : Int) : countA a = nA 2 a b := by unfold nA; rw [if_neg (by decide), if_neg (by decide), if_pos rfl]
theorem nA_3 (a b : Int) : pairA a b = nA 3 a b := by unfold nA; rw [if_neg (by decide), if_neg (by decide), if_neg (by decide)]
theorem nB_0 (a b : Int) : b = nB 0 a b := by unfold nB; rw [if_neg (by decide)]
theorem nB_1 (a b : Int) : b = nB 1 a b := by unfold nB; rw [if_neg (by decide)]
theorem nB_2 (a b : Int) : b = nB 2 a b := by unfold nB; rw [if_neg (by decide)]
theorem nB_3 (a b : Int) : pairB a b = nB 3 a b := by unfold nB; rw [if_pos rfl]
theorem nW_0 (a b : Int) : lineA a b / 4294967296 = nW 0 a b := by unfold nW nR; rw [if_pos rfl]
theorem nW_1 (a b : Int) : shiftR a / 4294967296 = nW 1 a b := by unfold nW nR; rw [if_neg (by decide), if_pos rfl]
theorem nW_2 (a b : Int) : countR a b / 4294967296 = nW 2 a b := by unfold nW nR; rw [if_neg (by decide), if_neg (by decide), if_pos rfl]
theorem nW_3 (a b : Int) : pairR a b / 4294967296 = nW 3 a b := by unfold nW nR; rw [if_neg (by decide), if_neg (by decide), if_neg (by decide)]
theorem lineA_range (a b : Int) : 0 ≤ lineA a b ∧ lineA a b < 18446744073709551616 := by unfold lineA; exact u64_range _
theorem shiftR_range (a : Int) : 0 ≤ shiftR a ∧ shiftR a < 18446744073709551616 := by unfold shiftR; exact u64_range _
theorem countR_range (a b : Int) : 0 ≤ countR a b ∧ countR a b < 18446744073709551616 := by unfold countR mixF; exact xor_range _ _
theorem pairR_range (a b : Int) : 0 ≤ pairR a b ∧ pairR a b < 18446744073709551616 := by unfold pairR; exact u64_range _
set_option maxHeartbeats 800000 in
theorem next_0 (a b : Int) (w : World) : Calls Try.prog 118 #[.agg #[.int .i64 0, .int .u64 a, .int .u64 b]] w (NextOut 0 a b w) := by
  go_enter Try.func118, Try.ntmps118
  go_wp2
  refine bodyPost_ret (v := .tuple #[.agg #[.int .i64 0, .int .u64 (lineA a b), .int .u64 b], .int .i64 (wrap64 (lineA a b / 4294967296))]) (by simp [results, Try.results118, go_sem, lineA]) rfl (next_out (nA_0 a b) (nB_0 a b) ((high_i64 (lineA_range a b)).trans (nW_0 a b)) ?_)
  exact below_al (below_al (Below.refl _ _) _) _
set_option maxHeartbeats 800000 in
theorem next_1 (a b : Int) (w : World) : Calls Try.prog 118 #[.agg #[.int .i64 1, .int .u64 a, .int .u64 b]] w (NextOut 1 a b w) := by
  go_enter Try.func118, Try.ntmps118
  go_wp2
  refine bodyPost_ret (v := .tuple #[.agg #[.int .i64 1, .int .u64 (shiftA a), .int .u64 b], .int .i64 (wrap64 (shiftR a / 4294967296))]) (by simp [results, Try.results118, go_sem, shiftA, shiftR, shiftX, shiftY, shiftZ]) rfl (next_out (nA_1 a b) (nB_1 a b) ((high_i64 (shiftR_range a)).trans (nW_1 a b)) ?_)
  exact below_al (below_al (Below.refl _ _) _) _
set_option maxHeartbeats 800000 in
theorem next_2 (a b : Int) (w : World) : Calls Try.prog 118 #[.agg #[.int .i64 2, .int .u64 a, .int .u64 b]] w (NextOut 2 a b w) := by
  go_enter Try.func118, Try.ntmps118
  go_wp2_with (go_at_call 130; refine (MixWord_any _ _).mono ?_; rintro e w' ⟨rfl, rfl⟩)
  refine bodyPost_ret (v := .tuple #[.agg #[.int .i64 2, .int .u64 (countA a), .int .u64 b], .int .i64 (wrap64 (countR a b / 4294967296))]) (by simp [results, Try.results118, go_sem, countA, countR]) rfl (next_out (nA_2 a b) (nB_2 a b) ((high_i64 (countR_range a b)).trans (nW_2 a b)) ?_)
  exact below_al (below_al (Below.refl _ _) _) _
set_option maxRecDepth 100000 in
set_option maxHeartbeats 800000 in
theorem next_3 (a b : Int) (w : World) : Calls Try.prog 118 #[.agg #[.int .i64 3, .int .u64 a, .int .u64 b]] w (NextOut 3 a b w) := by
  go_enter Try.func118, Try.ntmps118
  go_wp2_with (first
    | (go_at_call 131; (with_reducible refine (Rot_24 _ _).mono ?_); rintro e w' ⟨rfl, rfl⟩)
    | (go_at_call 131; (with_reducible refine (Rot_37 _ _).mono ?_); rintro e w' ⟨rfl, rfl⟩))
  refine bodyPost_ret (v := .tuple #[.agg #[.int .i64 3, .int .u64 (pairA a b), .int .u64 (pairB a b)], .int .i64 (wrap64 (pairR a b / 4294967296))]) (by simp [results, Try.results118, go_sem, pairA, pairB, pairR, pairX]) rfl (next_out (nA_3 a b) (nB_3 a b) ((high_i64 (pairR_range a b)).trans (nW_3 a b)) ?_)
  exact below_al (below_al (Below.refl _ _) _) _
theorem next_any (k a b : Int) (hk : kindB k) (w : World) : Calls Try.prog 118 #[.agg #[.int .i64 k, .int .u64 a, .int .u64 b]] w (NextOut k a b w) := by
  rcases hk with rfl | rfl | rfl | rfl
  · exact next_0 a b w
  · exact next_1 a b w
  · exact next_2 a b w
  · exact next_3 a b w

/-- the share of a seed's next word -/
def nU (k a b : Int) : Nat := shareN (nW k a b / 256).toNat
theorem word_low (k a b : Int) : (nW k a b / 256).toNat < 16777216 ∧ ((nW k a b / 256).toNat : Int) = nW k a b / 256 := by
  have := nW_range k a b
  omega
/-- a seed lies in a block -/
def SdAt (w : World) (b : Nat) (k a c : Int) : Prop := w.cell? ⟨b, 0, none⟩ = some (.int .i64 k) ∧ w.cell? ⟨b, 1, none⟩ = some (.int .u64 a) ∧ w.cell? ⟨b, 2, none⟩ = some (.int .u64 c) ∧ ∀ o, w.frozen? ⟨b, o, none⟩ = false
theorem SdAt.keep {w w' : World} {b : Nat} {k a c : Int} (h : SdAt w b k a c) (hb : Below w.heap.size w w') : SdAt w' b k a c := by
  obtain ⟨h0, h1, h2, h3⟩ := h
  have hl : b < w.heap.size := lt_of_cell (a := ⟨b, 0, none⟩) h0
  exact ⟨keepC hb h0, keepC hb h1, keepC hb h2, fun o => (hb.frozen (p := ⟨b, o, none⟩) hl).trans (h3 o)⟩
theorem SdAt.far {w w' : World} {b g : Nat} {k a c : Int} (h : SdAt w b k a c) (hg : w.grownBy w' (some g)) (hne : b ≠ g) : SdAt w' b k a c := by
  obtain ⟨h0, h1, h2, h3⟩ := h
  have hl : b < w.heap.size := lt_of_cell (a := ⟨b, 0, none⟩) h0
  have hn : some b ≠ some g := fun e => hne (Option.some.inj e)
  exact ⟨(hg.cell_far ⟨b, 0, none⟩ hl hn).trans h0, (hg.cell_far ⟨b, 1, none⟩ hl hn).trans h1, (hg.cell_far ⟨b, 2, none⟩ hl hn).trans h2, fun o => (hg.frozen_far ⟨b, o, none⟩ hl hn).trans (h3 o)⟩
theorem SdAt.set {w : World} {b : Nat} {k a c : Int} (h : SdAt w b k a c) (k' a' c' : Int) : SdAt (((w.setCell ⟨b, 0, none⟩ (.int .i64 k')).setCell ⟨b, 1, none⟩ (.int .u64 a')).setCell ⟨b, 2, none⟩ (.int .u64 c')) b k' a' c' := by
  obtain ⟨h0, h1, h2, h3⟩ := h
  have e1 : (w.setCell ⟨b, 0, none⟩ (.int .i64 k')).cell? ⟨b, 1, none⟩ = some (.int .u64 a) := (World.cell?_setCell_other _ _ _ _ (by simp)).trans h1
  have e2 : ((w.setCell ⟨b, 0, none⟩ (.int .i64 k')).setCell ⟨b, 1, none⟩ (.int .u64 a')).cell? ⟨b, 2, none⟩ = some (.int .u64 c) := (World.cell?_setCell_other _ _ _ _ (by simp)).trans ((World.cell?_setCell_other _ _ _ _ (by simp)).trans h2)
  refine ⟨?_, ?_, World.cell?_setCell_same _ _ _ e2, fun o => by rw [World.frozen?_setCell, World.frozen?_setCell, World.frozen?_setCell]; exact h3 o⟩
  · exact (World.cell?_setCell_other _ _ _ _ (by simp)).trans ((World.cell?_setCell_other _ _ _ _ (by simp)).trans (World.cell?_setCell_same _ _ _ h0))
  · exact (World.cell?_setCell_other _ _ _ _ (by simp)).trans (World.cell?_setCell_same _ _ _ e1)
theorem SdAt.al {w : World} {b : Nat} {k a c : Int} (h : SdAt w b k a c) (o : Obj) : SdAt (w.alloc o) b k a c := h.keep (below_al (Below.refl _ _) _)
def ShareOut (k a b : Int) (w : World) (e : Ending) (w' : World) : Prop := e = .returned (.tuple #[.agg #[.int .i64 k, .int .u64 (nA k a b), .int .u64 (nB k a b)], .float .f32 (nU k a b)]) ∧ Below w.heap.size w w'
end Go.Proofs.Ytfkjnaaplhcheaa
