/-
  Rounding from below, exact results; sums of numbers not less than 0; absolute values; the greater of two. No program.
-/
import Derived.Test.YtfkjnaaplhcheaaMon2
import Derived.Test.YtfkjnaaplhcheaaVa2
namespace Go.Proofs.Ytfkjnaaplhcheaa
open Go Ieee

/-- what is not less than a number of the format rounds to nothing less -/
theorem rungTo_low (f : Format) (mag : Nat) (place B : Int) (r : Nat) (h1 : B ≤ place) (h2 : B ≤ f.leastPlace) (hr : r ≤ f.infRung) (hM : mu f r * 2 ^ (f.leastPlace - B).toNat ≤ mag * 2 ^ (place - B).toNat) : r ≤ rungTo f mag place := by
  unfold rungTo
  split
  · rename_i hm
    subst hm
    rw [Nat.zero_mul] at hM
    rcases Nat.mul_eq_zero.1 (Nat.le_zero.1 hM) with h | h
    · rcases Nat.eq_zero_or_pos r with h0 | h0
      · omega
      · have := mu_mono f h0
        omega
    · have := Nat.two_pow_pos (f.leastPlace - B).toNat; omega
  · rename_i hm
    refine Nat.le_min.2 ⟨?_, hr⟩
    obtain ⟨c1, c2⟩ := kept_err f mag place B h1 h2
    have hlog : mag < 2 ^ (mag.log2 + 1) := Nat.lt_log2_self
    have hlog2 : 2 ^ mag.log2 ≤ mag := Nat.log2_self_le hm
    have hlast : lastOf f mag place = max (place + mag.log2 - f.fractionBits) f.leastPlace := rfl
    have hbin : f.binade = 2 ^ f.fractionBits := rfl
    have hb := binade_pos f
    generalize keptOf f mag place = k at *
    have hl : f.leastPlace ≤ lastOf f mag place := by omega
    obtain ⟨e, he⟩ : ∃ e, (lastOf f mag place - f.leastPlace).toNat = e := ⟨_, rfl⟩
    obtain ⟨L, hL⟩ : ∃ L, (f.leastPlace - B).toNat = L := ⟨_, rfl⟩
    obtain ⟨P, hP⟩ : ∃ P, (place - B).toNat = P := ⟨_, rfl⟩
    rw [he, hL, hP] at c1 c2
    rw [hL, hP] at hM
    rw [he]
    have hpe : 0 < 2 ^ (e + L) := Nat.two_pow_pos _
    have up : mag * 2 ^ P < 2 * f.binade * 2 ^ (e + L) := by
      have a1 : mag * 2 ^ P < 2 ^ (mag.log2 + 1) * 2 ^ P := Nat.mul_lt_mul_of_pos_right hlog (Nat.two_pow_pos _)
      rw [← Nat.pow_add] at a1
      have a2 : 2 * f.binade * 2 ^ (e + L) = 2 ^ (1 + f.fractionBits + (e + L)) := by rw [hbin, Nat.pow_add 2 (1 + f.fractionBits), Nat.pow_add 2 1, Nat.pow_one]
      rw [a2]
      exact Nat.lt_of_lt_of_le a1 (Nat.pow_le_pow_right (by decide) (by omega))
    have hk2 : k ≤ 2 * f.binade := by
      rcases Nat.lt_or_ge (2 * f.binade) k with hlt | hge
      · exfalso
        have a1 := Nat.mul_le_mul_right (2 ^ (e + L)) (show 2 * f.binade + 1 ≤ k by omega)
        rw [Nat.add_mul, Nat.one_mul] at a1
        omega
      · exact hge
    have lo : 0 < e → f.binade * 2 ^ (e + L) ≤ mag * 2 ^ P := fun h0 => by
      have a1 : 2 ^ mag.log2 * 2 ^ P ≤ mag * 2 ^ P := Nat.mul_le_mul_right _ hlog2
      rw [← Nat.pow_add] at a1
      have a2 : f.binade * 2 ^ (e + L) = 2 ^ (mag.log2 + P) := by rw [hbin, ← Nat.pow_add]; congr 1; omega
      rw [a2]
      exact a1
    have hk1 : 0 < e → f.binade ≤ k := fun h0 => by
      rcases Nat.lt_or_ge k f.binade with hlt | hge
      · exfalso
        have a0 := lo h0
        have a1 := Nat.mul_le_mul_right (2 ^ (e + L)) (show k + 1 ≤ f.binade by omega)
        rw [Nat.add_mul, Nat.one_mul] at a1
        omega
      · exact hge
    rcases Nat.lt_or_ge (e * f.binade + k) r with hlt | hge
    · exfalso
      by_cases hk3 : k = 2 * f.binade
      · have hmu : mu f (e * f.binade + k) = k * 2 ^ e := mu_stair f e k (by omega) hk2
        have hlt2 : mu f (e * f.binade + k) < mu f r := mu_mono f hlt
        rw [hmu] at hlt2
        have a1 : k * 2 ^ e * 2 ^ L < mu f r * 2 ^ L := Nat.mul_lt_mul_of_pos_right hlt2 (Nat.two_pow_pos _)
        rw [Nat.mul_assoc, ← Nat.pow_add, hk3] at a1
        omega
      · have hmu : mu f (e * f.binade + (k + 1)) = (k + 1) * 2 ^ e := mu_stair f e (k + 1) (by omega) (by omega)
        have hle : mu f (e * f.binade + (k + 1)) ≤ mu f r := (mu_le_iff f _ _).2 (by omega)
        rw [hmu] at hle
        have a1 := Nat.mul_le_mul_right (2 ^ L) hle
        rw [Nat.mul_assoc, ← Nat.pow_add, Nat.add_mul, Nat.one_mul] at a1
        omega
    · exact hge
/-- a number of the format rounds to itself -/
theorem rungTo_exact (f : Format) (mag : Nat) (place B : Int) (r : Nat) (h1 : B ≤ place) (h2 : B ≤ f.leastPlace) (hr : r ≤ f.infRung) (hM : mag * 2 ^ (place - B).toNat = mu f r * 2 ^ (f.leastPlace - B).toNat) : rungTo f mag place = r :=
  Nat.le_antisymm (rungTo_mono f mag place B r h1 h2 (Nat.le_of_eq hM)) (rungTo_low f mag place B r h1 h2 hr (Nat.le_of_eq hM.symm))

theorem inf_nn {x : Nat} (hx : isNan single x = false) (hf : isFin single x = false) (hk : 0 ≤ key single x) : rungOf single x = single.infRung ∧ negOf single x = false := by
  have he : 1 ≤ single.exponentBits := by decide
  have hle := notNan_le he hx
  have hge : ¬ rungOf single x < single.infRung := fun h => by rw [(fin_iff single he x).2 h] at hf; cases hf
  have hr : rungOf single x = single.infRung := by omega
  refine ⟨hr, ?_⟩
  cases h : negOf single x with
  | false => rfl
  | true =>
    exfalso
    unfold key at hk
    rw [h, if_pos rfl, hr] at hk
    have := inf_pos (f := single) he
    omega

/-- a sum of numbers not less than 0: not less than 0; of zeros a zero -/
theorem add_nn {x y : Nat} (hx : isNan single x = false) (hkx : 0 ≤ key single x) (hy : isFin single y = true) (hky : 0 ≤ key single y) :
    0 ≤ key single (fadd x y) ∧ (key single x = 0 → key single y = 0 → key single (fadd x y) = 0) := by
  have he : 1 ≤ single.exponentBits := by decide
  obtain ⟨t, n, j, hq, ht, hlj, hn, hk2⟩ := read_nn he hy hky
  cases hf : isFin single x with
  | false =>
    obtain ⟨hr, hneg⟩ := inf_nn hx hf hkx
    have hri := read_inf he hr
    have hadd : single.add x y = some (single.word false single.infRung) := by
      unfold Format.add
      rw [hri, hq, hneg]
      rfl
    have hv := congrArg (fun o => Option.getD o 0) hadd
    change fadd x y = _ at hv
    simp only [Option.getD_some] at hv
    have := inf_pos (f := single) he
    refine ⟨by rw [hv, key_word single false (Nat.le_refl _)]; simp, fun h _ => ?_⟩
    unfold key at h
    rw [hneg, hr] at h
    simp at h
    omega
  | true =>
    obtain ⟨s, m, i, hr, hs, hli, hm, hk⟩ := read_nn he hf hkx
    have hadd : single.add x y = some (single.nearest (if signed s m (i - min i j).toNat + signed t n (j - min i j).toNat = 0 then s && t else decide (signed s m (i - min i j).toNat + signed t n (j - min i j).toNat < 0)) (signed s m (i - min i j).toNat + signed t n (j - min i j).toNat).natAbs (min i j)) := by
      unfold Format.add
      rw [hr, hq]
      rfl
    have hv := congrArg (fun o => Option.getD o 0) hadd
    change fadd x y = _ at hv
    simp only [Option.getD_some] at hv
    rw [signed_nn hs, signed_nn ht] at hv
    have hz1 : key single x = 0 → m * 2 ^ (i - min i j).toNat = 0 := fun h => by
      have h0 : rungOf single x = 0 := by omega
      rw [h0, mu_zero] at hm
      rcases Nat.mul_eq_zero.1 hm with h | h
      · rw [h, Nat.zero_mul]
      · have := Nat.two_pow_pos (i - single.leastPlace).toNat; omega
    have hz2 : key single y = 0 → n * 2 ^ (j - min i j).toNat = 0 := fun h => by
      have h0 : rungOf single y = 0 := by omega
      rw [h0, mu_zero] at hn
      rcases Nat.mul_eq_zero.1 hn with h | h
      · rw [h, Nat.zero_mul]
      · have := Nat.two_pow_pos (j - single.leastPlace).toNat; omega
    generalize m * 2 ^ (i - min i j).toNat = a at *
    generalize n * 2 ^ (j - min i j).toNat = b at *
    have hmag : ((a : Int) + (b : Int)).natAbs = a + b := by omega
    rw [hmag] at hv
    have hkey := key_nearest single (if ((a : Int) + (b : Int)) = 0 then s && t else decide (((a : Int) + (b : Int)) < 0)) (a + b) (min i j)
    rw [← hv] at hkey
    have hsgn : (if ((a : Int) + (b : Int)) = 0 then s && t else decide (((a : Int) + (b : Int)) < 0)) = false ∨ rungTo single (a + b) (min i j) = 0 := by
      by_cases h0 : ((a : Int) + (b : Int)) = 0
      · right
        have : a + b = 0 := by omega
        rw [this]
        rfl
      · left
        rw [if_neg h0]
        exact decide_eq_false (by omega)
    have hkey2 : key single (fadd x y) = rungTo single (a + b) (min i j) := by
      rw [hkey]
      rcases hsgn with h | h
      · rw [h]; rfl
      · rw [h]; simp
    refine ⟨by omega, fun h1 h2 => ?_⟩
    rw [hkey2, hz1 h1, hz2 h2]
    rfl

/-- a difference of finite numbers not less than 0 is finite -/
theorem sub_fin {x y : Nat} (hx : isFin single x = true) (hy : isFin single y = true) (hkx : 0 ≤ key single x) (hky : 0 ≤ key single y) : isFin single (fsub x y) = true := by
  have he : 1 ≤ single.exponentBits := by decide
  have hrx := (fin_iff single he x).1 hx
  have hry := (fin_iff single he y).1 hy
  obtain ⟨s, m, i, hr, hs, hli, hm, hk⟩ := read_nn he hx hkx
  obtain ⟨t, n, j, hq, ht, hlj, hn, hk2⟩ := read_nn he hy hky
  have hsub : single.sub x y = some (single.nearest (if signed s m (i - min i j).toNat + signed (!t) n (j - min i j).toNat = 0 then s && !t else decide (signed s m (i - min i j).toNat + signed (!t) n (j - min i j).toNat < 0)) (signed s m (i - min i j).toNat + signed (!t) n (j - min i j).toNat).natAbs (min i j)) := by
    unfold Format.sub
    rw [hr, hq]
    rfl
  have hv := congrArg (fun o => Option.getD o 0) hsub
  change fsub x y = _ at hv
  simp only [Option.getD_some] at hv
  rw [signed_nn hs, signed_opp ht] at hv
  have hbase : single.leastPlace ≤ min i j := by omega
  have e1 : (i - single.leastPlace).toNat = (i - min i j).toNat + (min i j - single.leastPlace).toNat := by omega
  have e2 : (j - single.leastPlace).toNat = (j - min i j).toNat + (min i j - single.leastPlace).toNat := by omega
  rw [e1, mul_pow_add] at hm
  rw [e2, mul_pow_add] at hn
  generalize m * 2 ^ (i - min i j).toNat = a at *
  generalize n * 2 ^ (j - min i j).toNat = b at *
  have hbound : rungTo single ((a : Int) + -(b : Int)).natAbs (min i j) ≤ max (rungOf single x) (rungOf single y) := by
    refine rungTo_mono single _ _ single.leastPlace _ hbase (Int.le_refl _) ?_
    rw [Int.sub_self, Int.toNat_zero, Nat.pow_zero, Nat.mul_one]
    rcases Nat.le_total a b with h | h
    · refine Nat.le_trans ?_ ((mu_le_iff single _ _).2 (Nat.le_max_right _ _))
      rw [← hn]
      exact Nat.mul_le_mul_right _ (by omega)
    · refine Nat.le_trans ?_ ((mu_le_iff single _ _).2 (Nat.le_max_left _ _))
      rw [← hm]
      exact Nat.mul_le_mul_right _ (by omega)
  rw [fin_iff single he, hv, nearest_eq, (rung_word single _ (rungTo_lt single _ _)).1]
  omega

/-- what is taken from 0 -/
theorem zero_sub {x : Nat} (hx : isFin single x = true) (hk : key single x ≤ 0) : fsub 0 x = rungOf single x := by
  have he : 1 ≤ single.exponentBits := by decide
  have hrx := (fin_iff single he x).1 hx
  obtain ⟨m, i, hr, hl, hm⟩ := read_fin hrx
  have hs : (!negOf single x) = false ∨ m = 0 := by
    cases h : negOf single x with
    | true => exact .inl rfl
    | false =>
      right
      unfold key at hk
      rw [h] at hk
      simp at hk
      rw [hk, mu_zero] at hm
      rcases Nat.mul_eq_zero.1 hm with h | h
      · exact h
      · have := Nat.two_pow_pos (i - single.leastPlace).toNat; omega
  have h0 : single.read 0 = .number false 0 single.leastPlace := by decide +kernel
  have hsub : single.sub 0 x = some (single.nearest (if signed false 0 (single.leastPlace - min single.leastPlace i).toNat + signed (!negOf single x) m (i - min single.leastPlace i).toNat = 0 then false && !negOf single x else decide (signed false 0 (single.leastPlace - min single.leastPlace i).toNat + signed (!negOf single x) m (i - min single.leastPlace i).toNat < 0)) (signed false 0 (single.leastPlace - min single.leastPlace i).toNat + signed (!negOf single x) m (i - min single.leastPlace i).toNat).natAbs (min single.leastPlace i)) := by
    unfold Format.sub
    rw [hr, h0]
    rfl
  have hv := congrArg (fun o => Option.getD o 0) hsub
  change fsub 0 x = _ at hv
  simp only [Option.getD_some] at hv
  rw [signed_nn (.inl rfl), signed_nn hs, Nat.zero_mul] at hv
  have hmin : min single.leastPlace i = single.leastPlace := by omega
  rw [hmin, hm] at hv
  have hs : (if ((0 : Nat) : Int) + ((mu single (rungOf single x) : Nat) : Int) = 0 then false && !negOf single x else decide (((0 : Nat) : Int) + ((mu single (rungOf single x) : Nat) : Int) < 0)) = false := by
    split
    · rfl
    · exact decide_eq_false (by omega)
  have hmag : (((0 : Nat) : Int) + ((mu single (rungOf single x) : Nat) : Int)).natAbs = mu single (rungOf single x) := by omega
  rw [hs, hmag, nearest_eq] at hv
  rw [hv, rungTo_exact single _ _ single.leastPlace (rungOf single x) (Int.le_refl _) (Int.le_refl _) (by omega) (by rw [Int.sub_self, Int.toNat_zero])]
  rfl

/-- words that are written are words -/
theorem write_lt (d : Datum) : single.write d < 4294967296 := by
  have h1 : single.signWeight = 2147483648 := rfl
  have h2 : single.infRung = 2139095040 := rfl
  have h3 : single.binade = 8388608 := rfl
  have hw : ∀ s r, r < 2147483648 → single.word s r < 4294967296 := fun s r hr => by
    unfold Format.word
    rw [h1]
    split <;> omega
  cases d with
  | number s m e =>
    show single.nearest s m e < _
    rw [nearest_eq]
    exact hw _ _ (by have := rungTo_le single m e; omega)
  | infinity s => exact hw _ _ (by omega)
  | nan s t => exact hw _ _ (by rw [h2, h3]; omega)
theorem fsub_lt (x y : Nat) : fsub x y < 4294967296 := by
  unfold fsub Format.sub
  cases (single.read x).sum (single.read y).opposite with
  | none => decide
  | some d => exact write_lt d
theorem fadd_lt (x y : Nat) : fadd x y < 4294967296 := by
  unfold fadd Format.add
  cases (single.read x).sum (single.read y) with
  | none => decide
  | some d => exact write_lt d
theorem fmul_lt (x y : Nat) : fmul x y < 4294967296 := by
  unfold fmul Format.mul
  cases (single.read x).product (single.read y) with
  | none => decide
  | some d => exact write_lt d
/-- a word without its sign -/
theorem word_nn {x : Nat} (hx : x < 4294967296) (h : negOf single x = false) : x = rungOf single x := by
  have h1 : single.signWeight = 2147483648 := rfl
  unfold negOf at h
  unfold rungOf
  rw [h1] at h ⊢
  simp at h
  omega
theorem neg_word {x : Nat} (hx : x < 4294967296) (h : negOf single x = true) : Op.negFloat .f32 x = rungOf single x := by
  have h2 : Op.negFloat .f32 x = x ^^^ 2 ^ 31 := rfl
  have h3 : Op.negFloat .f32 x < 4294967296 := by
    rw [h2]
    exact Nat.xor_lt_two_pow (n := 32) hx (by decide)
  have h4 := word_nn h3 (by rw [(neg_parts x).2, h]; rfl)
  rw [(neg_parts x).1] at h4
  exact h4
theorem key_rung {x : Nat} : key single (rungOf single x) = rungOf single x := by
  have h1 : single.signWeight = 2147483648 := rfl
  have hl : rungOf single x < 2147483648 := by unfold rungOf; rw [h1]; omega
  unfold key negOf
  rw [h1]
  have e1 : rungOf single (rungOf single x) = rungOf single x := by unfold rungOf; rw [h1]; omega
  have e2 : rungOf single x / 2147483648 = 0 := by omega
  rw [e1, e2]
  rfl

/-- the reference's absolute value -/
def sizeF (x : Nat) : Nat := if key single x ≤ 0 then fsub 0 x else x
theorem key_size {x : Nat} (hx : isFin single x = true) : key single (sizeF x) = (key single x).natAbs := by
  unfold sizeF
  split
  · rename_i h
    rw [zero_sub hx h, key_rung]
    unfold key at h ⊢
    split at h
    · rename_i hn; rw [if_pos hn]; omega
    · rename_i hn; rw [if_neg hn] <;> omega
  · omega
theorem size_fin {x : Nat} (hx : isFin single x = true) : isFin single (sizeF x) = true ∧ negOf single (sizeF x) = false := by
  have he : 1 ≤ single.exponentBits := by decide
  have h1 : single.signWeight = 2147483648 := rfl
  unfold sizeF
  split
  · rename_i h
    have hrx := (fin_iff single he x).1 hx
    rw [zero_sub hx h, fin_iff single he]
    have e1 : rungOf single (rungOf single x) = rungOf single x := by unfold rungOf; rw [h1]; omega
    have e2 : rungOf single x / 2147483648 = 0 := by have : rungOf single x < 2147483648 := (by unfold rungOf; rw [h1]; omega); omega
    refine ⟨by rw [e1]; exact hrx, ?_⟩
    unfold negOf
    rw [h1, e2]
    rfl
  · rename_i h
    refine ⟨hx, ?_⟩
    cases hn : negOf single x with
    | false => rfl
    | true => unfold key at h; rw [hn] at h; simp at h
theorem size_abs {x : Nat} (hx : isFin single x = true) (hl : x < 4294967296) (h : key single x ≠ 0) : sizeF x = fabs x := by
  unfold sizeF fabs
  by_cases h0 : key single x < 0
  · have hn : negOf single x = true := by
      cases hn : negOf single x with
      | true => rfl
      | false => unfold key at h0; rw [hn] at h0; simp at h0; omega
    rw [if_pos (by omega), if_pos h0, zero_sub hx (by omega), neg_word hl hn]
  · rw [if_neg (by omega), if_neg h0]

/-- the greater one of two numbers -/
def maxF (x y : Nat) : Nat := if key single x < key single y then y else if key single y < key single x then x else if negOf single x then y else x
theorem run_max_f {P : Program} (w : World) (ts : Array TypeId) (t : TypeId) {x y : Nat} (hx : isNan single x = false) (hy : isNan single y = false) :
    (Builtin.max_ ts t #[.float .f32 x, .float .f32 y]).run P w = .ok (.float .f32 (maxF x y)) w := by
  have ho := order_key (f := single) (by decide) hx hy
  have ho' : FloatKind.f32.format.order x y = some (compare (key single x) (key single y)) := ho
  have hn : (FloatKind.f32.decode x).neg = negOf single x := by
    show (single.read x).neg = _
    rcases read_notNan hx with ⟨m, e, h⟩ | h <;> rw [h] <;> rfl
  unfold maxF
  by_cases h1 : key single x < key single y
  · rw [if_pos h1]
    have : compare (key single x) (key single y) = .lt := by rw [Int.compare_eq_lt]; exact h1
    rw [this] at ho'
    simp [Builtin.max_, Builtin.max2, ho']
  · rw [if_neg h1]
    by_cases h2 : key single y < key single x
    · rw [if_pos h2]
      have : compare (key single x) (key single y) = .gt := by rw [Int.compare_eq_gt]; exact h2
      rw [this] at ho'
      simp [Builtin.max_, Builtin.max2, ho']
    · rw [if_neg h2]
      have : compare (key single x) (key single y) = .eq := by rw [Int.compare_eq_eq]; omega
      rw [this] at ho'
      simp [Builtin.max_, Builtin.max2, ho', hn]
theorem max_notNan {x y : Nat} (hx : isNan single x = false) (hy : isNan single y = false) : isNan single (maxF x y) = false := by
  unfold maxF
  split
  · exact hy
  · split
    · exact hx
    · split
      · exact hy
      · exact hx
/-- the greatest absolute value so far, the program's way and the reference's -/
theorem max_size {m d : Nat} (hm : negOf single m = false) (hd : isFin single d = true) (hl : d < 4294967296) : maxF m (fabs d) = if key single m < key single (sizeF d) then sizeF d else m := by
  have hm0 : 0 ≤ key single m := by unfold key; rw [hm]; simp
  rw [key_size hd]
  unfold maxF
  rw [key_fabs]
  by_cases h : key single m < ((key single d).natAbs : Int)
  · rw [if_pos h, if_pos h, size_abs hd hl (by omega)]
  · rw [if_neg h, if_neg h, hm]
    simp
end Go.Proofs.Ytfkjnaaplhcheaa

