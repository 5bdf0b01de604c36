/-
  Numbers with their signs: differences, products and quotients lie near the exact ones. No program.
  Quotients of numbers with signs lie near the exact ones. No program.
  One step of an elimination, in numbers with signs: what an entry becomes, nearly; sums of rows. No program.
  An elimination with pivots: what its rows tell of the rows at the start, nearly. No program.
  The pivots of an elimination are great enough where the rows at the start tell much of each point. No program.
  The numbers that rows tell, from the last one on: they are finite, and the rows at the start are fulfilled, nearly. No program.
  What is solved is finite, and the rows at the start are fulfilled, nearly. No program.
-/
import Derived.Test.YtlhepgdheopgaaaBa
import Derived.Test.YtlhepgdheopgaaaSl0
import Derived.Test.YtlhepgdheopgaaaCr3
namespace Go.Proofs.Ytlhepgdheopgaaa
open Go Ieee

/-- a number with its sign, in least units -/
def sv (x : Nat) : Int := if negOf single x = true then -(val x : Int) else val x
theorem sv_abs (x : Nat) : (sv x).natAbs = val x := by
  unfold sv
  split <;> omega
theorem sv_of_key {x r : Nat} {s : Bool} (h : key single x = if s = true then -(r : Int) else r) : sv x = (if s = true then -(mu single r : Int) else mu single r) ∧ rungOf single x = r := by
  have hr : rungOf single x = r := by
    unfold key at h
    split at h <;> split at h <;> omega
  refine ⟨?_, hr⟩
  unfold sv
  have hv : val x = mu single r := by unfold val; rw [hr]
  rw [hv]
  unfold key at h
  rw [hr] at h
  rcases Nat.eq_zero_or_pos r with h0 | h0
  · subst h0
    rw [mu_zero]
    split <;> split <;> rfl
  · split at h
    · rename_i hn
      rw [if_pos hn]
      split at h
      · rename_i hs
        rw [if_pos hs]
      · omega
    · rename_i hn
      rw [if_neg hn]
      split at h
      · omega
      · rename_i hs
        rw [if_neg hs]
theorem signed_eq (s : Bool) (m k : Nat) : signed s m k = if s = true then -((m * 2 ^ k : Nat) : Int) else ((m * 2 ^ k : Nat) : Int) := by
  unfold signed
  rw [Nat.shiftLeft_eq]
theorem sv_read {x : Nat} (hx : isFin single x = true) : ∃ s m e, single.read x = .number s m e ∧ single.leastPlace ≤ e ∧ m * 2 ^ (e - single.leastPlace).toNat = val x ∧ ∀ _ : Nat, sv x = if s = true then -((m * 2 ^ (e - single.leastPlace).toNat : Nat) : Int) else ((m * 2 ^ (e - single.leastPlace).toNat : Nat) : Int) := by
  obtain ⟨m, e, hr, hl, hm⟩ := read_fin ((fin_iff single sE x).1 hx)
  have hv : m * 2 ^ (e - single.leastPlace).toNat = val x := hm
  refine ⟨_, m, e, hr, hl, hv, fun _ => ?_⟩
  rw [hv]
  rfl
theorem sgn_mul {s : Bool} {a b : Nat} : (if s = true then -((a * b : Nat) : Int) else ((a * b : Nat) : Int)) = (if s = true then -(a : Int) else a) * (b : Int) := by
  cases s <;> simp [Int.neg_mul]
/-- an exact number and the rounded one -/
theorem near_abs {X Y : Nat} (h : Nr 1 X Y) : ((Y : Int) - (X : Int)).natAbs * kA ≤ X := by
  obtain ⟨h1, h2⟩ := h
  rw [Nat.pow_one, Nat.pow_one] at h1 h2
  rw [kAB, Nat.mul_add, Nat.mul_one] at h1 h2
  rcases Nat.le_total X Y with hl | hl
  · have e : ((Y : Int) - (X : Int)).natAbs = Y - X := by omega
    rw [e, Nat.sub_mul]
    omega
  · have e : ((Y : Int) - (X : Int)).natAbs = X - Y := by omega
    rw [e, Nat.sub_mul]
    omega
theorem near_abs2 {X Y : Nat} (h : Nr 2 X Y) : ((Y : Int) - (X : Int)).natAbs * kA ≤ 3 * X := by
  obtain ⟨h1, h2⟩ := h
  rw [Nat.pow_two, Nat.pow_two] at h1 h2
  have hk : kB * kB ≤ kA * (kA + 3) := by decide
  have one : ∀ {a b : Nat}, a * (kA * kA) ≤ b * (kB * kB) → a * kA ≤ b * kA + 3 * b := fun {a b} h => by
    have h3 : b * (kB * kB) ≤ b * (kA * (kA + 3)) := Nat.mul_le_mul_left _ hk
    have h4 : kA * (a * kA) ≤ kA * (b * (kA + 3)) := by
      rw [Nat.mul_left_comm, Nat.mul_left_comm kA b]
      exact Nat.le_trans h h3
    have h5 := Nat.le_of_mul_le_mul_left h4 kA_pos
    rw [Nat.mul_add, Nat.mul_comm b 3] at h5
    exact h5
  have g1 := one h1
  have g2 := one h2
  rcases Nat.le_total X Y with hl | hl
  · have e : ((Y : Int) - (X : Int)).natAbs = Y - X := by omega
    rw [e, Nat.sub_mul]
    omega
  · have e : ((Y : Int) - (X : Int)).natAbs = X - Y := by omega
    rw [e, Nat.sub_mul]
    omega
/-- the difference -/
theorem sub_s {x y : Nat} (hx : isFin single x = true) (hy : isFin single y = true) (h : (sv x - sv y).natAbs ≤ uT) :
    isFin single (fsub x y) = true ∧ (sv (fsub x y) - (sv x - sv y)).natAbs * kA ≤ (sv x - sv y).natAbs := by
  obtain ⟨s, m, i, hr, hli, -, hm⟩ := sv_read hx
  obtain ⟨t, n, j, hq, hlj, -, hn⟩ := sv_read hy
  have hsub : single.sub x y = some (single.nearest (if signed s m (i - min i j).toNat + signed (!t) n (j - min i j).toNat = 0 then s && !t else decide (signed s m (i - min i j).toNat + signed (!t) n (j - min i j).toNat < 0)) (signed s m (i - min i j).toNat + signed (!t) n (j - min i j).toNat).natAbs (min i j)) := by
    unfold Format.sub
    rw [hr, hq]
    rfl
  have hv := congrArg (fun o => Option.getD o 0) hsub
  change fsub x y = _ at hv
  simp only [Option.getD_some] at hv
  have e1 : (i - single.leastPlace).toNat = (i - min i j).toNat + (min i j - single.leastPlace).toNat := by omega
  have e2 : (j - single.leastPlace).toNat = (j - min i j).toNat + (min i j - single.leastPlace).toNat := by omega
  have hx2 := hm 0
  have hy2 := hn 0
  rw [e1, mul_pow_add, sgn_mul, ← signed_eq] at hx2
  rw [e2, mul_pow_add, sgn_mul, ← signed_eq] at hy2
  have hneg : signed (!t) n (j - min i j).toNat = -signed t n (j - min i j).toNat := by
    rw [signed_eq, signed_eq]
    cases t <;> simp
  rw [hneg] at hv
  have hlp : single.leastPlace ≤ min i j := by omega
  generalize signed s m (i - min i j).toNat = a at *
  generalize signed t n (j - min i j).toNat = b at *
  generalize min i j = place at *
  clear hsub hm hn hr hq e1 e2 hneg
  have hd : sv x - sv y = (a + -b) * ((2 ^ (place - single.leastPlace).toNat : Nat) : Int) := by rw [hx2, hy2, ← Int.sub_eq_add_neg, Int.sub_mul]
  have hkey := key_nearest single (if a + -b = 0 then s && !t else decide (a + -b < 0)) (a + -b).natAbs place
  rw [← hv] at hkey
  obtain ⟨k1, k2⟩ := sv_of_key hkey
  generalize a + -b = z at *
  have hX : (sv x - sv y).natAbs = z.natAbs * 2 ^ (place - single.leastPlace).toNat := by rw [hd, Int.natAbs_mul, Int.natAbs_natCast]
  have e0 : (single.leastPlace - single.leastPlace).toNat = 0 := by omega
  -- what the rounded number is worth
  have hmag : rungTo single z.natAbs place ≤ 1660944384 ∧ (((mu single (rungTo single z.natAbs place) : Nat) : Int) - ((z.natAbs * 2 ^ (place - single.leastPlace).toNat : Nat) : Int)).natAbs * kA ≤ z.natAbs * 2 ^ (place - single.leastPlace).toNat := by
    rw [hX] at h
    rcases Nat.le_total (z.natAbs * 2 ^ (place - single.leastPlace).toNat) single.binade with hs | hs
    · have e := exact_round single z.natAbs place hlp hs sI
      rw [e]
      refine ⟨?_, by rw [Int.sub_self, Int.natAbs_zero, Nat.zero_mul]; exact Nat.zero_le _⟩
      have : mu single (rungTo single z.natAbs place) ≤ mu single 1660944384 := by rw [e, mu_top]; exact h
      exact (mu_le_iff single _ _).1 this
    · obtain ⟨g1, g2⟩ := near_round single sA z.natAbs place single.leastPlace hlp (Int.le_refl _) 1660944384 top_lt (by rw [e0, Nat.pow_zero, Nat.mul_one]; exact Nat.le_trans sA hs) (by rw [e0, Nat.pow_zero, Nat.mul_one, mu_top]; exact h)
      rw [e0, Nat.pow_zero, Nat.mul_one] at g2
      exact ⟨g1, near_abs g2⟩
  refine ⟨(fin_iff single sE _).2 (by rw [k2]; exact Nat.lt_of_le_of_lt hmag.1 top_lt), ?_⟩
  have hfin : (sv (fsub x y) - (sv x - sv y)).natAbs = (((mu single (rungTo single z.natAbs place) : Nat) : Int) - ((z.natAbs * 2 ^ (place - single.leastPlace).toNat : Nat) : Int)).natAbs := by
    rw [k1, hd]
    generalize 2 ^ (place - single.leastPlace).toNat = P
    generalize hM : mu single (rungTo single z.natAbs place) = M
    by_cases hz : z = 0
    · subst hz
      have : M = 0 := by rw [← hM]; rfl
      subst this
      simp
    · rw [if_neg hz]
      by_cases hlt : z < 0
      · rw [if_pos (decide_eq_true hlt), Int.natCast_mul]
        have e : z = -(z.natAbs : Int) := by omega
        rw [show z * (P : Int) = -((z.natAbs : Int) * (P : Int)) by rw [← Int.neg_mul, ← e]]
        generalize (z.natAbs : Int) * (P : Int) = q
        omega
      · rw [if_neg (by simpa using hlt), Int.natCast_mul]
        have e : z = (z.natAbs : Int) := by omega
        rw [show z * (P : Int) = (z.natAbs : Int) * (P : Int) by rw [← e]]
  rw [hfin, hX]
  exact hmag.2
/-- the product -/
theorem mul_s {x y : Nat} (hx : isFin single x = true) (hy : isFin single y = true) (h : (sv x * sv y).natAbs ≤ uT * uE) :
    isFin single (fmul x y) = true ∧ (sv (fmul x y) * (uE : Int) - sv x * sv y).natAbs * kA ≤ (sv x * sv y).natAbs + kA * uE := by
  obtain ⟨s, m, i, hr, hli, -, hm⟩ := sv_read hx
  obtain ⟨t, n, j, hq, hlj, -, hn⟩ := sv_read hy
  have hmul : single.mul x y = some (single.nearest (s ^^ t) (m * n) (i + j)) := by
    unfold Format.mul
    rw [hr, hq]
    rfl
  have hv := congrArg (fun o => Option.getD o 0) hmul
  change fmul x y = _ at hv
  simp only [Option.getD_some] at hv
  have hkey := key_nearest single (s ^^ t) (m * n) (i + j)
  rw [← hv] at hkey
  obtain ⟨k1, k2⟩ := sv_of_key hkey
  have hx2 := hm 0
  have hy2 := hn 0
  have e1 : (i + j - (single.leastPlace + single.leastPlace)).toNat = (i - single.leastPlace).toNat + (j - single.leastPlace).toNat := by omega
  have hX : m * n * 2 ^ (i + j - (single.leastPlace + single.leastPlace)).toNat = m * 2 ^ (i - single.leastPlace).toNat * (n * 2 ^ (j - single.leastPlace).toNat) := by
    rw [e1, Nat.pow_add, Nat.mul_mul_mul_comm]
  have hprod : sv x * sv y = if (s ^^ t) = true then -((m * n * 2 ^ (i + j - (single.leastPlace + single.leastPlace)).toNat : Nat) : Int) else ((m * n * 2 ^ (i + j - (single.leastPlace + single.leastPlace)).toNat : Nat) : Int) := by
    rw [hX, hx2, hy2, Int.natCast_mul (m * 2 ^ (i - single.leastPlace).toNat)]
    cases s <;> cases t <;> simp [Int.mul_neg, Int.neg_mul]
  generalize hA : m * n * 2 ^ (i + j - (single.leastPlace + single.leastPlace)).toNat = X at *
  have hXn : (sv x * sv y).natAbs = X := by
    rw [hprod]
    split <;> omega
  rw [hXn] at h ⊢
  have hlp := least_lit
  have e0 : 2 ^ (single.leastPlace - (single.leastPlace + single.leastPlace)).toNat = uE := by
    rw [show (single.leastPlace - (single.leastPlace + single.leastPlace)).toNat = 149 by omega]
    rfl
  have hpl : single.leastPlace + single.leastPlace ≤ i + j := by omega
  have hmag : rungTo single (m * n) (i + j) ≤ 1660944384 ∧ (((mu single (rungTo single (m * n) (i + j)) * uE : Nat) : Int) - (X : Int)).natAbs * kA ≤ X + kA * uE := by
    have htop : rungTo single (m * n) (i + j) ≤ 1660944384 := rungTo_mono single (m * n) (i + j) (single.leastPlace + single.leastPlace) 1660944384 hpl (by omega) (by rw [e0, mu_top, hA]; exact h)
    refine ⟨htop, ?_⟩
    rcases Nat.le_total (kA * uE) X with hs | hs
    · obtain ⟨g1, g2⟩ := near_round single sA (m * n) (i + j) (single.leastPlace + single.leastPlace) hpl (by omega) 1660944384 top_lt (by rw [e0, hA]; exact hs) (by rw [e0, mu_top, hA]; exact h)
      rw [e0, hA] at g2
      exact Nat.le_trans (near_abs g2) (Nat.le_add_right _ _)
    · have hd := Nat.div_add_mod X uE
      have hmod := Nat.mod_lt X uE_pos
      have hq1 : X / uE ≤ kA := by
        rw [Nat.div_le_iff_le_mul_add_pred uE_pos]
        rw [Nat.mul_comm] at hs
        omega
      have hq2 : X / uE < kA ∨ X = kA * uE := by
        rcases Nat.lt_or_ge (X / uE) kA with h1 | h1
        · exact .inl h1
        · right
          have h2 : kA * uE ≤ X := by
            have := Nat.mul_le_mul_right uE h1
            have h3 := Nat.div_mul_le_self X uE
            omega
          omega
      have hb : kA ≤ single.binade := sA
      have h1 : mu single (X / uE) = X / uE := mu_small single (by omega)
      have l1 : X / uE ≤ rungTo single (m * n) (i + j) := rungTo_low single (m * n) (i + j) (single.leastPlace + single.leastPlace) (X / uE) hpl (by omega) (by have := sI; omega) (by rw [e0, hA, h1]; exact Nat.div_mul_le_self _ _)
      have l2 : rungTo single (m * n) (i + j) ≤ X / uE + 1 := by
        rcases hq2 with hq2 | hq2
        · have h2 : mu single (X / uE + 1) = X / uE + 1 := mu_small single (by omega)
          refine rungTo_mono single (m * n) (i + j) (single.leastPlace + single.leastPlace) (X / uE + 1) hpl (by omega) ?_
          rw [e0, hA, h2, Nat.add_mul, Nat.one_mul, Nat.mul_comm]
          omega
        · have h3 : X / uE = kA := by rw [hq2]; exact Nat.mul_div_cancel _ uE_pos
          have h4 : mu single kA = kA := mu_small single hb
          have : rungTo single (m * n) (i + j) ≤ kA := rungTo_mono single (m * n) (i + j) (single.leastPlace + single.leastPlace) kA hpl (by omega) (by rw [e0, hA, h4]; exact Nat.le_of_eq hq2)
          omega
      have h5 : mu single (rungTo single (m * n) (i + j)) = X / uE ∨ mu single (rungTo single (m * n) (i + j)) = X / uE + 1 := by
        rcases Nat.lt_or_ge (X / uE) (rungTo single (m * n) (i + j)) with hlt | hge
        · right
          have e : rungTo single (m * n) (i + j) = X / uE + 1 := by omega
          rcases hq2 with hq2 | hq2
          · rw [e]
            exact mu_small single (by omega)
          · exfalso
            have h3 : X / uE = kA := by rw [hq2]; exact Nat.mul_div_cancel _ uE_pos
            have h4 : mu single kA = kA := mu_small single hb
            have : rungTo single (m * n) (i + j) ≤ kA := rungTo_mono single (m * n) (i + j) (single.leastPlace + single.leastPlace) kA hpl (by omega) (by rw [e0, hA, h4]; exact Nat.le_of_eq hq2)
            omega
        · left
          have e : rungTo single (m * n) (i + j) = X / uE := by omega
          rw [e]
          exact h1
      have h6 : (((mu single (rungTo single (m * n) (i + j)) * uE : Nat) : Int) - (X : Int)).natAbs ≤ uE := by
        rw [Nat.mul_comm uE] at hd
        rcases h5 with h5 | h5
        · rw [h5]
          generalize X / uE * uE = q at *
          omega
        · rw [h5, Nat.add_mul, Nat.one_mul]
          generalize X / uE * uE = q at *
          omega
      have h7 := Nat.mul_le_mul_right kA h6
      rw [Nat.mul_comm uE] at h7
      omega
  refine ⟨(fin_iff single sE _).2 (by rw [k2]; exact Nat.lt_of_le_of_lt hmag.1 top_lt), ?_⟩
  have hfin : (sv (fmul x y) * (uE : Int) - sv x * sv y).natAbs = (((mu single (rungTo single (m * n) (i + j)) * uE : Nat) : Int) - (X : Int)).natAbs := by
    rw [k1, hprod, Int.natCast_mul]
    generalize mu single (rungTo single (m * n) (i + j)) = M
    by_cases hst : (s ^^ t) = true
    · rw [if_pos hst, if_pos hst, Int.neg_mul]
      generalize (M : Int) * (uE : Int) = q
      omega
    · rw [if_neg hst, if_neg hst]
  rw [hfin]
  exact hmag.2
end Go.Proofs.Ytlhepgdheopgaaa

namespace Go.Proofs.Ytlhepgdheopgaaa
open Go Ieee

theorem div_mag {x y : Nat} (hx : isFin single x = true) (hy : isFin single y = true) (hy0 : 0 < val y) (hhi : val x ≤ val y * uF) :
    isFin single (fdiv x y) = true ∧ (((val (fdiv x y) * val y : Nat) : Int) - ((val x * uE : Nat) : Int)).natAbs * kA ≤ 3 * (val x * uE) + 2 * kA * kA * val y ∧
    ∃ s t : Bool, sv x = (if s = true then -(val x : Int) else val x) ∧ sv y = (if t = true then -(val y : Int) else val y) ∧ sv (fdiv x y) = (if (s ^^ t) = true then -(val (fdiv x y) : Int) else val (fdiv x y)) := by
  obtain ⟨s, m, e, h1, h2, hvx, hsx⟩ := sv_read hx
  obtain ⟨t, n, j, g1, g2, hvy, hsy⟩ := sv_read hy
  have hsx := hsx 0
  have hsy := hsy 0
  rw [hvx] at hsx
  rw [hvy] at hsy
  have hn0 : 0 < n := by
    rcases Nat.eq_zero_or_pos n with h | h
    · rw [h, Nat.zero_mul] at hvy; omega
    · exact h
  have hlp : single.leastPlace = -149 := least_lit
  rw [hlp] at h2 g2 hvx hvy
  obtain ⟨I, hI⟩ : ∃ I : Nat, e = (I : Int) - 149 := ⟨(e + 149).toNat, by omega⟩
  obtain ⟨J, hJ⟩ : ∃ J : Nat, j = (J : Int) - 149 := ⟨(j + 149).toNat, by omega⟩
  rw [show (e - -149).toNat = I by omega] at hvx
  rw [show (j - -149).toNat = J by omega] at hvy
  have hv : fdiv x y = single.word (s ^^ t) (rungTo single (2 * (m <<< (25 + n.log2 - m.log2) / n) + (m <<< (25 + n.log2 - m.log2) % n != 0).toNat) (e - j - (25 + n.log2 - m.log2 : Nat) - 1)) := by
    unfold fdiv Format.div
    rw [h1, g1]
    show Option.getD (Option.map single.write (if n = 0 then if m = 0 then none else some (.infinity (s ^^ t)) else some (.number (s ^^ t) (2 * (m <<< (25 + n.log2 - m.log2) / n) + (m <<< (25 + n.log2 - m.log2) % n != 0).toNat) (e - j - (25 + n.log2 - m.log2 : Nat) - 1)))) 0 = _
    rw [if_neg (by omega)]
    show single.nearest (s ^^ t) _ _ = _
    rw [nearest_eq]
  rw [Nat.shiftLeft_eq] at hv
  have hkey := key_word single (s ^^ t) (rungTo_le single (2 * (m * 2 ^ (25 + n.log2 - m.log2) / n) + (m * 2 ^ (25 + n.log2 - m.log2) % n != 0).toNat) (e - j - (25 + n.log2 - m.log2 : Nat) - 1))
  rw [← hv] at hkey
  obtain ⟨k1, k2⟩ := sv_of_key hkey
  have hvq : val (fdiv x y) = mu single (rungTo single (2 * (m * 2 ^ (25 + n.log2 - m.log2) / n) + (m * 2 ^ (25 + n.log2 - m.log2) % n != 0).toNat) (e - j - (25 + n.log2 - m.log2 : Nat) - 1)) := by unfold val; rw [k2]
  have hsq : sv (fdiv x y) = (if (s ^^ t) = true then -(val (fdiv x y) : Int) else val (fdiv x y)) := by rw [k1, hvq]
  have hfinal : rungTo single (2 * (m * 2 ^ (25 + n.log2 - m.log2) / n) + (m * 2 ^ (25 + n.log2 - m.log2) % n != 0).toNat) (e - j - (25 + n.log2 - m.log2 : Nat) - 1) ≤ 1660944384 ∧ (((val (fdiv x y) * val y : Nat) : Int) - ((val x * uE : Nat) : Int)).natAbs * kA ≤ 3 * (val x * uE) + 2 * kA * kA * val y := by
    clear hkey k1 hsq hv
    rcases Nat.eq_zero_or_pos m with hm0 | hm0
    · subst hm0
      have z1 : val x = 0 := by rw [← hvx, Nat.zero_mul]
      have z2 : (2 * (0 * 2 ^ (25 + n.log2 - Nat.log2 0) / n) + (0 * 2 ^ (25 + n.log2 - Nat.log2 0) % n != 0).toNat) = 0 := by simp
      rw [z2] at hvq k2 ⊢
      have z3 : rungTo single 0 (e - j - (25 + n.log2 - Nat.log2 0 : Nat) - 1) = 0 := rfl
      rw [z3, mu_zero] at hvq
      rw [z3, hvq, z1]
      simp
    · have hmore : kA * n ≤ m * 2 ^ (25 + n.log2 - m.log2) := by
        have a1 : 2 ^ m.log2 ≤ m := Nat.log2_self_le (by omega)
        have a2 : n < 2 ^ (n.log2 + 1) := Nat.lt_log2_self
        have a3 : 2 ^ (25 + n.log2) ≤ 2 ^ (m.log2 + (25 + n.log2 - m.log2)) := Nat.pow_le_pow_right (by decide) (by omega)
        rw [Nat.pow_add 2 m.log2] at a3
        have a4 : 2 ^ m.log2 * 2 ^ (25 + n.log2 - m.log2) ≤ m * 2 ^ (25 + n.log2 - m.log2) := Nat.mul_le_mul_right _ a1
        have a5 : kA * n ≤ 2 ^ 23 * 2 ^ (n.log2 + 1) := Nat.mul_le_mul (by decide) (Nat.le_of_lt a2)
        rw [← Nat.pow_add] at a5
        have a6 : 2 ^ (23 + (n.log2 + 1)) ≤ 2 ^ (25 + n.log2) := Nat.pow_le_pow_right (by decide) (by omega)
        omega
      generalize 25 + n.log2 - m.log2 = more at *
      obtain ⟨q1, q2, q3⟩ := quot_near hn0 hmore
      generalize (2 * (m * 2 ^ more / n) + (m * 2 ^ more % n != 0).toNat) = M at *
      have e1 : (single.leastPlace - (-149 - ((J + more + 1 : Nat) : Int))).toNat = J + more + 1 := by omega
      have e2 : (e - j - (more : Nat) - 1 - (-149 - ((J + more + 1 : Nat) : Int))).toNat = I + 149 := by omega
      have p2 : 0 < 2 ^ (more + 1) := Nat.two_pow_pos _
      have p3 : 0 < 2 ^ (J + more + 1) := Nat.two_pow_pos _
      obtain ⟨W, hW⟩ : ∃ W, 2 ^ (I + 149) = W := ⟨_, rfl⟩
      obtain ⟨V, hV⟩ : ∃ V, 2 ^ (J + more + 1) = V := ⟨_, rfl⟩
      obtain ⟨U, hU⟩ : ∃ U, 2 ^ (more + 1) = U := ⟨_, rfl⟩
      have hWI : W = 2 ^ I * uE := by rw [← hW, Nat.pow_add]; rfl
      have hU2 : U = 2 ^ more * 2 := by rw [← hU, Nat.pow_succ]
      have hVJ : V = 2 ^ J * U := by rw [← hV, ← hU, Nat.add_assoc, Nat.pow_add]
      rw [hU] at p2
      rw [hV] at p3
      have ex : 2 * (m * 2 ^ more) * W = val x * uE * U := by
        rw [hWI, hU2, ← hvx]
        generalize 2 ^ more = a
        generalize 2 ^ I = b
        ac_rfl
      have ey : ∀ z : Nat, z * V * n = z * val y * U := fun z => by
        rw [hVJ, ← hvy]
        generalize 2 ^ J = b
        ac_rfl
      clear hWI hU2 hVJ hvx hvy
      have hhi' : M * W ≤ mu single 1660944384 * V := by
        rw [mu_top]
        have a1 := Nat.mul_le_mul_right W q3
        have a2 : 2 * (2 * (m * 2 ^ more)) * W = 2 * (val x * uE * U) := by rw [Nat.mul_assoc 2, ex]
        rw [a2] at a1
        have a3 : val x * uE * U ≤ val y * uF * uE * U := Nat.mul_le_mul_right _ (Nat.mul_le_mul_right _ hhi)
        have a4 : 2 * (val y * uF * uE * U) = 2 * uF * uE * (val y * U) := by
          generalize uE = E
          generalize uF = F
          ac_rfl
        have a5 : 2 * uF * uE * (val y * U) ≤ uT * (val y * U) := Nat.mul_le_mul_right _ (by decide)
        have a6 : uT * V * n = uT * (val y * U) := by rw [ey, Nat.mul_assoc]
        have a7 : M * n * W = M * W * n := Nat.mul_right_comm _ _ _
        rw [a7] at a1
        refine Nat.le_of_mul_le_mul_right (c := n) ?_ hn0
        rw [a6]
        exact Nat.le_trans a1 (Nat.le_trans (Nat.mul_le_mul_left 2 a3) (by rw [a4]; exact a5))
      have hp1 : -149 - ((J + more + 1 : Nat) : Int) ≤ e - j - (more : Nat) - 1 := by omega
      have hp2 : -149 - ((J + more + 1 : Nat) : Int) ≤ single.leastPlace := by omega
      have htop : rungTo single M (e - j - (more : Nat) - 1) ≤ 1660944384 := rungTo_mono single M (e - j - (more : Nat) - 1) (-149 - ((J + more + 1 : Nat) : Int)) 1660944384 hp1 hp2 (by rw [e1, e2, hW, hV]; exact hhi')
      refine ⟨htop, ?_⟩
      rcases Nat.le_total (kA * V) (M * W) with hs | hs
      · obtain ⟨r1, r2⟩ := near_round single sA M (e - j - (more : Nat) - 1) (-149 - ((J + more + 1 : Nat) : Int)) hp1 hp2 1660944384 top_lt (by rw [e1, e2, hW, hV]; exact hs) (by rw [e1, e2, hW, hV]; exact hhi')
        rw [e1, e2, ← hvq, hW, hV] at r2
        have r3 := r2.scale n
        rw [ey] at r3
        have q4 := q1.scale W
        rw [ex] at q4
        have e6 : M * n * W = M * W * n := Nat.mul_right_comm _ _ _
        rw [e6] at q4
        exact Nat.le_trans (near_abs2 ((q4.trans r3).cancel p2)) (Nat.le_add_right _ _)
      · have hq : val (fdiv x y) ≤ kA := by
          have hka : mu single kA = kA := mu_small single sA
          rw [hvq, ← hka]
          refine (mu_le_iff single _ _).2 (rungTo_mono single M (e - j - (more : Nat) - 1) (-149 - ((J + more + 1 : Nat) : Int)) kA hp1 hp2 ?_)
          rw [e1, e2, hW, hV, hka]
          exact hs
        have hxs : val x * uE ≤ 2 * kA * val y := by
          have a1 := Nat.mul_le_mul_right W q2
          rw [ex] at a1
          have a4 : M * n * 2 * W = 2 * (M * W * n) := by ac_rfl
          have a5 := Nat.mul_le_mul_right n hs
          rw [ey] at a5
          rw [a4] at a1
          refine Nat.le_of_mul_le_mul_right (c := U) ?_ p2
          have a6 : 2 * kA * val y * U = 2 * (kA * val y * U) := by
            rw [Nat.mul_assoc 2, Nat.mul_assoc 2]
          rw [a6]
          omega
        have hq2 : val (fdiv x y) * val y ≤ kA * val y := Nat.mul_le_mul_right _ hq
        have h6 : (((val (fdiv x y) * val y : Nat) : Int) - ((val x * uE : Nat) : Int)).natAbs ≤ 2 * kA * val y := by
          rw [Nat.mul_assoc] at hxs ⊢
          generalize kA * val y = c at *
          generalize val (fdiv x y) * val y = a at *
          generalize val x * uE = b at *
          omega
        have h7 := Nat.mul_le_mul_right kA h6
        have h8 : 2 * kA * val y * kA = 2 * kA * kA * val y := Nat.mul_right_comm _ _ _
        rw [h8] at h7
        exact Nat.le_trans h7 (Nat.le_add_left _ _)
  exact ⟨(fin_iff single sE _).2 (by rw [k2]; exact Nat.lt_of_le_of_lt hfinal.1 top_lt), hfinal.2, s, t, hsx, hsy, hsq⟩
/-- the quotient -/
theorem div_s {x y : Nat} (hx : isFin single x = true) (hy : isFin single y = true) (hy0 : 0 < val y) (hhi : val x ≤ val y * uF) :
    isFin single (fdiv x y) = true ∧ (sv (fdiv x y) * sv y - sv x * (uE : Int)).natAbs * kA ≤ 3 * (val x * uE) + 2 * kA * kA * val y := by
  obtain ⟨h1, h2, s, t, e1, e2, e3⟩ := div_mag hx hy hy0 hhi
  refine ⟨h1, ?_⟩
  have h3 : (sv (fdiv x y) * sv y - sv x * (uE : Int)).natAbs = (((val (fdiv x y) * val y : Nat) : Int) - ((val x * uE : Nat) : Int)).natAbs := by
    rw [e1, e2, e3, Int.natCast_mul, Int.natCast_mul]
    generalize (val (fdiv x y) : Int) = a
    generalize (val y : Int) = b
    generalize (val x : Int) = c
    generalize (uE : Int) = d
    have n1 : (-a) * b = -(a * b) := Int.neg_mul _ _
    have n2 : a * (-b) = -(a * b) := Int.mul_neg _ _
    have n3 : (-c) * d = -(c * d) := Int.neg_mul _ _
    have n4 : (-a) * (-b) = a * b := by rw [Int.neg_mul, Int.mul_neg, Int.neg_neg]
    cases s <;> cases t <;> simp only [Bool.xor_false, Bool.xor_true, Bool.not_false, Bool.not_true, if_true, if_false, Bool.false_eq_true, n1, n2, n3, n4] <;> generalize a * b = p <;> generalize c * d = q <;> omega
  rw [h3]
  exact h2
end Go.Proofs.Ytlhepgdheopgaaa

namespace Go.Proofs.Ytlhepgdheopgaaa
open Go Ieee

/-- a rounding of 1 -/
def uV : Nat := 2 ^ 126
theorem uV_eq : uE = kA * uV := by decide
theorem uV_big : 100000000000 ≤ uV := by decide
theorem uE_big : 4000000 * kA ≤ uE := by decide
theorem can_mul {x y : Nat} (hx : isFin single x = true) (hy : isFin single y = true) : can .mul x y = fmul x y := by unfold can; rw [(fmul_run hx hy).1]; rfl
theorem can_sub {x y : Nat} (hx : isFin single x = true) (hy : isFin single y = true) : can .sub x y = fsub x y := by unfold can; rw [(fsub_run (fin_not_nan hx) hy).1]; rfl
theorem val_key {x : Nat} : val x = mu single (key single x).natAbs := by
  unfold val key
  split <;> simp
theorem val_le_key {x y : Nat} : val x ≤ val y ↔ (key single x).natAbs ≤ (key single y).natAbs := by
  rw [val_key, val_key, mu_le_iff]
theorem val_pos_key {x : Nat} : 0 < val x ↔ key single x ≠ 0 := by
  have h0 : mu single 0 = 0 := mu_zero single
  have h := mu_le_iff single (key single x).natAbs 0
  rw [h0] at h
  rw [val_key]
  omega
theorem can_quo {x y : Nat} (hx : isFin single x = true) (hy : isFin single y = true) (h : 0 < val y) : can .quo x y = fdiv x y := by unfold can; rw [(fdiv_run hx hy (val_pos_key.1 h)).1]; rfl

/-- a factor -/
theorem fac_s {a b : Nat} (ha : isFin single a = true) (hb : isFin single b = true) (h : val a ≤ val b) (hb0 : 0 < val b) :
    isFin single (fdiv a b) = true ∧ 1000 * val (fdiv a b) ≤ 1001 * uE ∧ (sv (fdiv a b) * sv b - sv a * (uE : Int)).natAbs * kA ≤ 3 * (val a * uE) + 2 * kA * kA * val b := by
  have hF : 1 ≤ uF := by decide
  obtain ⟨h1, h2, s, t, e1, e2, e3⟩ := div_mag ha hb hb0 (Nat.le_trans h (Nat.le_mul_of_pos_right _ hF))
  refine ⟨h1, ?_, (div_s ha hb hb0 (Nat.le_trans h (Nat.le_mul_of_pos_right _ hF))).2⟩
  have h3 : val a * uE ≤ val b * uE := Nat.mul_le_mul_right _ h
  have h4 : 4000000 * kA * val b ≤ uE * val b := Nat.mul_le_mul_right _ uE_big
  refine Nat.le_of_mul_le_mul_right (c := val b) ?_ hb0
  have e5 : 2 * kA * kA * val b = 2 * kA * (kA * val b) := Nat.mul_assoc _ _ _
  rw [e5] at h2
  rw [Nat.mul_assoc, Nat.mul_assoc]
  rw [Nat.mul_assoc] at h4
  rw [Nat.mul_comm uE (val b)] at h4 ⊢
  have hA : kA = 8388608 := rfl
  rw [hA] at h2 h4
  clear e1 e2 e3 h
  generalize val (fdiv a b) * val b = q at *
  generalize val a * uE = p at *
  generalize val b * uE = r at *
  generalize val b = z at *
  omega
/-- an entry -/
theorem entry_s {a b f g : Nat} (ha : isFin single a = true) (hb : isFin single b = true) (hf : isFin single f = true) (ga : 10 * val a ≤ g * uE) (gb : 10 * val b ≤ g * uE) (gf : 1000 * val f ≤ 1001 * uE) (g1 : 1 ≤ g) (g2 : g ≤ 100) :
    isFin single (fsub a (fmul f b)) = true ∧ isFin single (fmul f b) = true ∧ 1000 * val (fsub a (fmul f b)) ≤ 201 * g * uE ∧ 1000 * (sv (fsub a (fmul f b)) * (uE : Int) - (sv a * (uE : Int) - sv f * sv b)).natAbs ≤ 301 * g * (uV * uE) := by
  have hP : (sv f * sv b).natAbs = val f * val b := by rw [Int.natAbs_mul, sv_abs, sv_abs]
  have hP2 : 10000 * (val f * val b) ≤ 1001 * (g * (uE * uE)) := by
    have h1 := Nat.mul_le_mul gf gb
    have e1 : 1000 * val f * (10 * val b) = 10000 * (val f * val b) := by
      rw [Nat.mul_mul_mul_comm]
    have e2 : 1001 * uE * (g * uE) = 1001 * (g * (uE * uE)) := by ac_rfl
    rw [e1, e2] at h1
    exact h1
  have hUU : 4000000 * (kA * uE) ≤ uE * uE := by rw [← Nat.mul_assoc]; exact Nat.mul_le_mul_right _ uE_big
  have hG1 : uE * uE ≤ g * (uE * uE) := Nat.le_mul_of_pos_left _ g1
  have hG2 : g * (uE * uE) ≤ 100 * (uE * uE) := Nat.mul_le_mul_right _ g2
  have hT : 200 * (uE * uE) ≤ uT * uE := by rw [← Nat.mul_assoc]; exact Nat.mul_le_mul_right _ (by decide)
  obtain ⟨m1, m2⟩ := mul_s hf hb (by rw [hP]; omega)
  rw [hP] at m2
  have hK : kA * (uV * uE) = uE * uE := by rw [← Nat.mul_assoc, ← uV_eq]
  have hA : kA = 8388608 := rfl
  -- the product's size
  have hpU : kA * (val (fmul f b) * uE) ≤ kA * (val f * val b) + (val f * val b + kA * uE) := by
    have e1 : (sv (fmul f b) * (uE : Int)).natAbs = val (fmul f b) * uE := by rw [Int.natAbs_mul, sv_abs, Int.natAbs_natCast]
    have e2 : val (fmul f b) * uE ≤ (sv (fmul f b) * (uE : Int) - sv f * sv b).natAbs + val f * val b := by
      rw [← e1, ← hP]
      omega
    have e3 := Nat.mul_le_mul_left kA e2
    rw [Nat.mul_add, Nat.mul_comm kA (Int.natAbs _)] at e3
    omega
  have haU : 10 * (val a * uE) ≤ g * (uE * uE) := by
    have := Nat.mul_le_mul_right uE ga
    rwa [Nat.mul_assoc, Nat.mul_assoc] at this
  have hQ : (sv a - sv (fmul f b)).natAbs ≤ val a + val (fmul f b) := by
    rw [← sv_abs a, ← sv_abs (fmul f b)]
    omega
  have hQU := Nat.mul_le_mul_right uE hQ
  rw [Nat.add_mul] at hQU
  have hQT : (sv a - sv (fmul f b)).natAbs ≤ uT := by
    refine Nat.le_of_mul_le_mul_right (c := uE) ?_ uE_pos
    rw [hA] at hpU hUU
    clear m2 hP hQ ga gb gf hK
    generalize val f * val b = P at *
    generalize val (fmul f b) * uE = pU at *
    generalize (sv a - sv (fmul f b)).natAbs * uE = Q at *
    generalize val a * uE = aU at *
    generalize uT * uE = TU at *
    generalize g * (uE * uE) = G at *
    generalize uE * uE = UU at *
    omega
  obtain ⟨s1, s2⟩ := sub_s ha m1 hQT
  refine ⟨s1, m1, ?_, ?_⟩
  · have e1 : val (fsub a (fmul f b)) ≤ (sv (fsub a (fmul f b)) - (sv a - sv (fmul f b))).natAbs + (sv a - sv (fmul f b)).natAbs := by
      rw [← sv_abs (fsub a (fmul f b))]
      omega
    refine Nat.le_of_mul_le_mul_right (c := uE) ?_ uE_pos
    have e2 := Nat.mul_le_mul_right uE e1
    have e3 := Nat.mul_le_mul_right uE s2
    rw [Nat.add_mul] at e2
    rw [Nat.mul_right_comm] at e3
    have e4 : 201 * g * uE * uE = 201 * (g * (uE * uE)) := by
      rw [Nat.mul_assoc, Nat.mul_assoc]
    rw [e4, Nat.mul_assoc]
    clear e1 s2 m2 hP hQ ga gb gf hQT hK hT e4
    rw [hA] at hpU hUU e3
    generalize val (fsub a (fmul f b)) * uE = w at *
    generalize val a * uE = aU at *
    generalize (sv (fsub a (fmul f b)) - (sv a - sv (fmul f b))).natAbs * uE = d at *
    generalize (sv a - sv (fmul f b)).natAbs * uE = Q at *
    generalize val (fmul f b) * uE = pU at *
    generalize val f * val b = P at *
    generalize g * (uE * uE) = G at *
    generalize uE * uE = UU at *
    omega
  · have e1 : (sv (fsub a (fmul f b)) * (uE : Int) - (sv a * (uE : Int) - sv f * sv b)).natAbs ≤ (sv (fsub a (fmul f b)) - (sv a - sv (fmul f b))).natAbs * uE + (sv (fmul f b) * (uE : Int) - sv f * sv b).natAbs := by
      have h1 : ((sv (fsub a (fmul f b)) - (sv a - sv (fmul f b))) * (uE : Int)).natAbs = (sv (fsub a (fmul f b)) - (sv a - sv (fmul f b))).natAbs * uE := by rw [Int.natAbs_mul, Int.natAbs_natCast]
      rw [← h1, Int.sub_mul, Int.sub_mul]
      generalize sv (fsub a (fmul f b)) * (uE : Int) = x
      generalize sv a * (uE : Int) = y
      generalize sv (fmul f b) * (uE : Int) = z
      generalize sv f * sv b = t
      omega
    have e3 := Nat.mul_le_mul_right uE s2
    rw [Nat.mul_right_comm] at e3
    refine Nat.le_of_mul_le_mul_left (c := kA) ?_ kA_pos
    have e4 : kA * (301 * g * (uV * uE)) = 301 * (g * (uE * uE)) := by
      rw [← hK]
      generalize uV * uE = v
      ac_rfl
    rw [e4, Nat.mul_left_comm]
    have e5 := Nat.mul_le_mul_left kA e1
    rw [Nat.mul_add, Nat.mul_comm kA (_ * uE), Nat.mul_comm kA (Int.natAbs _)] at e5
    clear e1 s2 hP hQ ga gb gf hQT hK hT e4
    rw [hA] at hpU hUU e3 e5 m2 ⊢
    generalize (sv (fsub a (fmul f b)) - (sv a - sv (fmul f b))).natAbs * uE = d at *
    generalize (sv a - sv (fmul f b)).natAbs * uE = Q at *
    generalize val (fmul f b) * uE = pU at *
    generalize val f * val b = P at *
    generalize (sv (fmul f b) * (uE : Int) - sv f * sv b).natAbs = t at *
    generalize (sv (fsub a (fmul f b)) * (uE : Int) - (sv a * (uE : Int) - sv f * sv b)).natAbs = s at *
    generalize val a * uE = aU at *
    generalize g * (uE * uE) = G at *
    generalize uE * uE = UU at *
    omega
end Go.Proofs.Ytlhepgdheopgaaa

namespace Go.Proofs.Ytlhepgdheopgaaa
open Go Ieee

/-- a part of a row, at a point -/
def rowT (a x : Nat → Int) (lo n : Nat) : Int := sumZ (fun j => a (lo + j) * x (lo + j)) n
theorem sumZ_head (f : Nat → Int) : ∀ n, sumZ f (n + 1) = f 0 + sumZ (fun j => f (j + 1)) n := by
  intro n
  induction n with
  | zero => show 0 + f 0 = f 0 + 0; omega
  | succ n ih =>
    show sumZ f (n + 1) + f (n + 1) = f 0 + (sumZ (fun j => f (j + 1)) n + f (n + 1))
    rw [ih]
    omega
theorem rowT_head (a x : Nat → Int) (lo n : Nat) : rowT a x lo (n + 1) = a lo * x lo + rowT a x (lo + 1) n := by
  unfold rowT
  rw [sumZ_head]
  refine congrArg (a lo * x lo + ·) (sumZ_congr n fun j _ => ?_)
  rw [show lo + (j + 1) = lo + 1 + j by omega]
theorem rowT_congr {a b x y : Nat → Int} {lo n : Nat} (h : ∀ c, lo ≤ c → c < lo + n → a c * x c = b c * y c) : rowT a x lo n = rowT b y lo n := sumZ_congr n fun j hj => h (lo + j) (by omega) (by omega)
theorem row_rel {a b a' x : Nat → Int} {f U : Int} {k n X e : Nat} (h0 : (a k * U - f * b k).natAbs ≤ e) (hc : ∀ j, j < n → (a' (k + 1 + j) * U - (a (k + 1 + j) * U - f * b (k + 1 + j))).natAbs ≤ e) (hx : ∀ j, j ≤ n → (x (k + j)).natAbs ≤ X) :
    (rowT a x k (n + 1) * U - rowT a' x (k + 1) n * U - f * rowT b x k (n + 1)).natAbs ≤ (n + 1) * (e * X) := by
  have e1 : rowT a x k (n + 1) * U - rowT a' x (k + 1) n * U - f * rowT b x k (n + 1) = (a k * U - f * b k) * x k - sumZ (fun j => (a' (k + 1 + j) * U - (a (k + 1 + j) * U - f * b (k + 1 + j))) * x (k + 1 + j)) n := by
    rw [rowT_head, rowT_head]
    have e2 : sumZ (fun j => (a' (k + 1 + j) * U - (a (k + 1 + j) * U - f * b (k + 1 + j))) * x (k + 1 + j)) n = U * rowT a' x (k + 1) n - (U * rowT a x (k + 1) n - f * rowT b x (k + 1) n) := by
      unfold rowT
      rw [← sumZ_mul, ← sumZ_mul, ← sumZ_mul, ← sumZ_sub, ← sumZ_sub]
      refine sumZ_congr n fun j _ => ?_
      generalize a' (k + 1 + j) = p
      generalize a (k + 1 + j) = q
      generalize b (k + 1 + j) = r
      generalize x (k + 1 + j) = s
      grind
    rw [e2]
    generalize rowT a x (k + 1) n = p
    generalize rowT a' x (k + 1) n = q
    generalize rowT b x (k + 1) n = r
    grind
  rw [e1]
  have h1 : ((a k * U - f * b k) * x k).natAbs ≤ e * X := by
    rw [Int.natAbs_mul]
    exact Nat.mul_le_mul h0 (hx 0 (by omega))
  have h2 : (sumZ (fun j => (a' (k + 1 + j) * U - (a (k + 1 + j) * U - f * b (k + 1 + j))) * x (k + 1 + j)) n).natAbs ≤ n * (e * X) := by
    refine Nat.le_trans (sumZ_abs _ n) ?_
    rw [← sumN_const]
    refine sumN_le n fun j hj => ?_
    rw [Int.natAbs_mul]
    refine Nat.mul_le_mul (hc j hj) ?_
    rw [show k + 1 + j = k + (j + 1) by omega]
    exact hx (j + 1) (by omega)
  rw [Nat.add_mul, Nat.one_mul]
  generalize (a k * U - f * b k) * x k = p at *
  generalize sumZ (fun j => (a' (k + 1 + j) * U - (a (k + 1 + j) * U - f * b (k + 1 + j))) * x (k + 1 + j)) n = q at *
  omega

/-- the row r at step k, at a point -/
def rowE (C : Nat → Nat → Nat) (m k : Nat) (x : Nat → Int) (r : Nat) : Int := rowT (fun c => sv (C r c)) x (min r k) (m + 1 - min r k)
def gB : Nat → Nat
  | 0 => 10
  | 1 => 21
  | 2 => 43
  | _ => 87
def eB : Nat → Nat
  | 0 => 4
  | 1 => 7
  | _ => 13
/-- what the rows at a step are at most, by what they are at the next one -/
def stB (m X k B : Nat) : Nat := if k + 1 < m then 2001 * B / 1000 + 1 + (m + 1 - k) * (eB k * (uV * X)) else B
/-- what the rows at the start are at most, by what they are at step k -/
def trB (m X : Nat) : Nat → Nat → Nat
  | 0, B => B
  | k + 1, B => trB m X k (stB m X k B)
structure Stg (C0 C : Nat → Nat → Nat) (m k : Nat) : Prop where
  st : stageM C0 m k = some C
  fin : ∀ r c, r < m → c ≤ m → isFin single (C r c) = true
  bd : ∀ r c, r < m → c ≤ m → 10 * val (C r c) ≤ gB (min r k) * uE
  piv : ∀ r, r < k → uE ≤ 200 * val (C r r)
  tr : ∀ (x : Nat → Int) (X B : Nat), (∀ c, c ≤ m → (x c).natAbs ≤ X) → (∀ r, r < m → (rowE C m k x r).natAbs ≤ B) → ∀ r, r < m → (rowE C0 m 0 x r).natAbs ≤ trB m X k B
theorem Stg.start {C0 : Nat → Nat → Nat} {m : Nat} (h1 : ∀ r c, r < m → c ≤ m → isFin single (C0 r c) = true) (h2 : ∀ r c, r < m → c ≤ m → val (C0 r c) ≤ uE) : Stg C0 C0 m 0 :=
  ⟨rfl, h1, fun r c hr hc => by rw [Nat.min_zero]; exact Nat.mul_le_mul_left 10 (h2 r c hr hc), fun r hr => absurd hr (Nat.not_lt_zero r), fun _ _ _ _ h => h⟩
theorem gB_ok (k : Nat) (hk : k ≤ 2) : 1 ≤ gB k ∧ gB k ≤ 100 ∧ 201 * gB k ≤ 100 * gB (k + 1) ∧ 301 * gB k + 1 ≤ 1000 * eB k ∧ 3 * gB k + 1 ≤ 10 * eB k := by
  have h : k = 0 ∨ k = 1 ∨ k = 2 := by omega
  rcases h with rfl | rfl | rfl <;> decide
theorem elim_at {D : Nat → Nat → Nat} {m k r c : Nat} (hr : k < r) (hrm : r < m) (hc : k < c) : elimM D k m (k + 1) r c = can .sub (D r c) (can .mul (facM D k r) (D k c)) := by
  unfold elimM
  rw [if_pos ⟨hr, hc, .inl hrm⟩]
theorem elim_up {D : Nat → Nat → Nat} {m k r c : Nat} (h : r ≤ k ∨ c ≤ k) : elimM D k m (k + 1) r c = D r c := by
  unfold elimM
  rw [if_neg (by omega)]
theorem swap_at {C : Nat → Nat → Nat} {k p : Nat} : (∀ c, swapM C k p k c = C p c) ∧ (∀ r c, r < k → k ≤ p → swapM C k p r c = C r c) := by
  refine ⟨fun c => by unfold swapM; rw [if_pos rfl], fun r c hr hp => ?_⟩
  unfold swapM
  rw [if_neg (by omega), if_neg (by omega)]
/-- a row of the swapped rows is one of the rows -/
theorem swap_row {C : Nat → Nat → Nat} {m k p r : Nat} (hk : k < m) (hp : p < m) (hkp : k ≤ p) (hr : r < m) (hkr : k ≤ r) : ∃ q, q < m ∧ k ≤ q ∧ (∀ c, swapM C k p r c = C q c) := by
  unfold swapM
  by_cases h1 : r = k
  · exact ⟨p, hp, hkp, fun c => by rw [if_pos h1]⟩
  · by_cases h2 : r = p
    · exact ⟨k, hk, Nat.le_refl _, fun c => by rw [if_neg h1, if_pos h2]⟩
    · exact ⟨r, hr, hkr, fun c => by rw [if_neg h1, if_neg h2]⟩
/-- every row is one of the swapped rows -/
theorem swap_back {C : Nat → Nat → Nat} {m k p q : Nat} (hk : k < m) (hp : p < m) (hkp : k ≤ p) (hq : q < m) (hkq : k ≤ q) : ∃ r, r < m ∧ k ≤ r ∧ (∀ c, swapM C k p r c = C q c) := by
  unfold swapM
  by_cases h1 : q = p
  · exact ⟨k, hk, Nat.le_refl _, fun c => by rw [if_pos rfl, h1]⟩
  · by_cases h2 : q = k
    · refine ⟨p, hp, hkp, fun c => ?_⟩
      by_cases h3 : p = k
      · rw [if_pos h3, h2, h3]
      · rw [if_neg h3, if_pos rfl, h2]
    · exact ⟨q, hq, hkq, fun c => by rw [if_neg h2, if_neg h1]⟩
/-- the step -/
theorem Stg.step {C0 C : Nat → Nat → Nat} {m k p : Nat} (h : Stg C0 C m k) (hk : k < m) (h4 : m ≤ 4) (hp : p < m) (hkp : k ≤ p) (hmax : ∀ r, k ≤ r → r < m → val (C r k) ≤ val (C p k)) (hpv : uE ≤ 200 * val (C p k)) (hb : bestM C k (m - k) = p) (hgood : badP (C p k) = false) :
    Stg C0 (elimM (swapM C k p) k m (k + 1)) m (k + 1) := by
  have hpos : 0 < val (C p k) := by
    rcases Nat.eq_zero_or_pos (val (C p k)) with h0 | h0
    · rw [h0] at hpv
      have := uE_pos
      omega
    · exact h0
  obtain ⟨sw1, sw2⟩ := swap_at (C := C) (k := k) (p := p)
  have hDk : ∀ c, c ≤ m → isFin single (swapM C k p k c) = true ∧ 10 * val (swapM C k p k c) ≤ gB k * uE := fun c hc => by
    rw [sw1]
    exact ⟨h.fin p c hp hc, by have := h.bd p c hp hc; rwa [Nat.min_eq_right hkp] at this⟩
  have hDr : ∀ r c, k ≤ r → r < m → c ≤ m → isFin single (swapM C k p r c) = true ∧ 10 * val (swapM C k p r c) ≤ gB k * uE := fun r c h1 h2 hc => by
    obtain ⟨q, hq, hkq, hqc⟩ := swap_row hk hp hkp h2 h1 (C := C)
    rw [hqc]
    exact ⟨h.fin q c hq hc, by have := h.bd q c hq hc; rwa [Nat.min_eq_right hkq] at this⟩
  have hDm : ∀ r, k ≤ r → r < m → val (swapM C k p r k) ≤ val (swapM C k p k k) := fun r h1 h2 => by
    obtain ⟨q, hq, hkq, hqc⟩ := swap_row hk hp hkp h2 h1 (C := C)
    rw [hqc, sw1]
    exact hmax q hkq hq
  have hDp : 0 < val (swapM C k p k k) := by rw [sw1]; exact hpos
  -- the factor and the entries below
  have hF : ∀ r, k < r → r < m → facM (swapM C k p) k r = fdiv (swapM C k p r k) (swapM C k p k k) ∧ isFin single (facM (swapM C k p) k r) = true ∧ 1000 * val (facM (swapM C k p) k r) ≤ 1001 * uE ∧ (sv (facM (swapM C k p) k r) * sv (swapM C k p k k) - sv (swapM C k p r k) * (uE : Int)).natAbs * kA ≤ 3 * (val (swapM C k p r k) * uE) + 2 * kA * kA * val (swapM C k p k k) := fun r h1 h2 => by
    have f1 := (hDr r k (by omega) h2 (by omega)).1
    have f2 := (hDk k (by omega)).1
    have e : facM (swapM C k p) k r = fdiv (swapM C k p r k) (swapM C k p k k) := can_quo f1 f2 hDp
    rw [e]
    obtain ⟨g1, g2, g3⟩ := fac_s f1 f2 (hDm r (by omega) h2) hDp
    exact ⟨rfl, g1, g2, g3⟩
  have hN : ∀ r c, k < r → r < m → k < c → c ≤ m → elimM (swapM C k p) k m (k + 1) r c = fsub (swapM C k p r c) (fmul (facM (swapM C k p) k r) (swapM C k p k c)) ∧ isFin single (elimM (swapM C k p) k m (k + 1) r c) = true ∧ 10 * val (elimM (swapM C k p) k m (k + 1) r c) ≤ gB (k + 1) * uE ∧
      (sv (elimM (swapM C k p) k m (k + 1) r c) * (uE : Int) - (sv (swapM C k p r c) * (uE : Int) - sv (facM (swapM C k p) k r) * sv (swapM C k p k c))).natAbs ≤ eB k * (uV * uE) := fun r c h1 h2 h3 h5 => by
    obtain ⟨-, f1, f2, -⟩ := hF r h1 h2
    obtain ⟨a1, a2⟩ := hDr r c (by omega) h2 h5
    obtain ⟨b1, b2⟩ := hDk c h5
    obtain ⟨w1, w2, w3, w4, -⟩ := gB_ok k (by omega)
    obtain ⟨s1, s2, s3, s4⟩ := entry_s a1 b1 f1 a2 b2 f2 w1 w2
    have e : elimM (swapM C k p) k m (k + 1) r c = fsub (swapM C k p r c) (fmul (facM (swapM C k p) k r) (swapM C k p k c)) := by
      rw [elim_at h1 h2 h3, can_mul f1 b1, can_sub a1 s2]
    rw [e]
    refine ⟨rfl, s1, ?_, ?_⟩
    · have e2 := Nat.mul_le_mul_right uE w3
      rw [Nat.mul_assoc] at e2
      rw [Nat.mul_assoc] at s3
      rw [Nat.mul_assoc 100] at e2
      omega
    · have e2 : 301 * gB k * (uV * uE) ≤ 1000 * eB k * (uV * uE) := Nat.mul_le_mul_right _ (by omega)
      rw [Nat.mul_assoc 1000] at e2
      omega
  refine ⟨?_, fun r c hr hc => ?_, fun r c hr hc => ?_, fun r hr => ?_, fun x X B hx hB => ?_⟩
  · have := stage_good h.st (by rw [hb]; exact hgood)
    rw [hb] at this
    exact this
  · by_cases h1 : k < r ∧ k < c
    · exact (hN r c h1.1 hr h1.2 hc).2.1
    · rw [elim_up (by omega)]
      by_cases h2 : k ≤ r
      · exact (hDr r c h2 hr hc).1
      · rw [sw2 r c (by omega) hkp]
        exact h.fin r c hr hc
  · by_cases h1 : k < r ∧ k < c
    · rw [Nat.min_eq_right (by omega)]
      exact (hN r c h1.1 hr h1.2 hc).2.2.1
    · rw [elim_up (by omega)]
      by_cases h2 : k ≤ r
      · have h3 := (hDr r c h2 hr hc).2
        by_cases h5 : r = k
        · rw [h5, Nat.min_eq_left (by omega)]
          rw [h5] at h3
          exact h3
        · rw [Nat.min_eq_right (by omega)]
          obtain ⟨w1, w2, w3, w4, -⟩ := gB_ok k (by omega)
          exact Nat.le_trans h3 (Nat.mul_le_mul_right _ (by omega))
      · rw [sw2 r c (by omega) hkp, Nat.min_eq_left (by omega)]
        have := h.bd r c hr hc
        rwa [Nat.min_eq_left (by omega)] at this
  · rw [elim_up (by omega)]
    by_cases h1 : r = k
    · rw [h1, sw1]
      exact hpv
    · rw [sw2 r r (by omega) hkp]
      exact h.piv r (by omega)
  · -- what the rows were before
    have hrow : ∀ r, r < m → (rowE (swapM C k p) m k x r).natAbs ≤ stB m X k B := by
      intro r hr
      by_cases h1 : k < r
      · unfold stB
        rw [if_pos (show k + 1 < m by omega)]
        have hBk := hB k hk
        have hBr := hB r hr
        obtain ⟨-, f1, f2, f3⟩ := hF r h1 hr
        obtain ⟨w1, w2, w3, w4, w5⟩ := gB_ok k (by omega)
        have ek : rowE (elimM (swapM C k p) k m (k + 1)) m (k + 1) x k = rowT (fun c => sv (swapM C k p k c)) x k (m - k + 1) := by
          unfold rowE
          rw [Nat.min_eq_left (by omega), show m + 1 - k = m - k + 1 by omega]
          exact rowT_congr fun c _ _ => by show sv (elimM _ _ _ _ k c) * _ = _; rw [elim_up (by omega)]
        have er : rowE (elimM (swapM C k p) k m (k + 1)) m (k + 1) x r = rowT (fun c => sv (elimM (swapM C k p) k m (k + 1) r c)) x (k + 1) (m - k) := by
          unfold rowE
          rw [Nat.min_eq_right (by omega), show m + 1 - (k + 1) = m - k by omega]
        have eo : rowE (swapM C k p) m k x r = rowT (fun c => sv (swapM C k p r c)) x k (m - k + 1) := by
          unfold rowE
          rw [Nat.min_eq_right (by omega), show m + 1 - k = m - k + 1 by omega]
        rw [ek] at hBk
        rw [er] at hBr
        rw [eo]
        have hq : (sv (swapM C k p r k) * (uE : Int) - sv (facM (swapM C k p) k r) * sv (swapM C k p k k)).natAbs ≤ eB k * (uV * uE) := by
          have e1 : (sv (swapM C k p r k) * (uE : Int) - sv (facM (swapM C k p) k r) * sv (swapM C k p k k)).natAbs = (sv (facM (swapM C k p) k r) * sv (swapM C k p k k) - sv (swapM C k p r k) * (uE : Int)).natAbs := by
            generalize sv (swapM C k p r k) * (uE : Int) = y
            generalize sv (facM (swapM C k p) k r) * sv (swapM C k p k k) = z
            omega
          rw [e1]
          have a1 := Nat.mul_le_mul_right uE (hDr r k (by omega) hr (by omega)).2
          have a2 := Nat.mul_le_mul_left (2 * kA * kA) (hDk k (by omega)).2
          have a3 : 4000000 * (kA * uE) ≤ uE * uE := by rw [← Nat.mul_assoc]; exact Nat.mul_le_mul_right _ uE_big
          have hK : kA * (uV * uE) = uE * uE := by rw [← Nat.mul_assoc, ← uV_eq]
          have e2 : 2 * kA * kA * (10 * val (swapM C k p k k)) = 10 * (2 * kA * kA * val (swapM C k p k k)) := Nat.mul_left_comm _ _ _
          have e3 : 2 * kA * kA * (gB k * uE) = gB k * (2 * (kA * (kA * uE))) := by
            generalize gB k = g
            generalize uE = u
            generalize kA = a
            grind
          have e4 : gB k * (2 * (kA * (kA * uE))) ≤ 100 * (2 * (kA * (kA * uE))) := Nat.mul_le_mul_right _ w2
          have e5 : 4000000 * (kA * (kA * uE)) ≤ kA * (uE * uE) := by
            rw [Nat.mul_left_comm]
            exact Nat.mul_le_mul_left _ a3
          have e6 : (3 * gB k + 1) * (uE * uE) ≤ 10 * eB k * (uE * uE) := Nat.mul_le_mul_right _ w5
          rw [Nat.mul_assoc 10] at e6
          rw [Nat.add_mul, Nat.one_mul, Nat.mul_assoc 3] at e6
          rw [Nat.mul_assoc, Nat.mul_assoc] at a1
          rw [e2, e3] at a2
          refine Nat.le_of_mul_le_mul_left (c := kA) ?_ kA_pos
          have e7 : kA * (eB k * (uV * uE)) = eB k * (uE * uE) := by rw [← hK, Nat.mul_left_comm]
          rw [e7, Nat.mul_comm kA]
          have hlast : 2000 * (kA * (kA * uE)) ≤ uE * uE := by
            have b1 : 2000 * kA * kA ≤ uE := by decide
            have b2 := Nat.mul_le_mul_right uE b1
            have b3 : 2000 * kA * kA * uE = 2000 * (kA * (kA * uE)) := by
              rw [Nat.mul_assoc, Nat.mul_assoc]
            rwa [b3] at b2
          clear e1 a3 hK e7 e5
          generalize (sv (facM (swapM C k p) k r) * sv (swapM C k p k k) - sv (swapM C k p r k) * (uE : Int)).natAbs * kA = z at *
          generalize val (swapM C k p r k) * uE = y at *
          generalize 2 * kA * kA * val (swapM C k p k k) = q at *
          generalize kA * (kA * uE) = w at *
          generalize gB k * (2 * w) = w2 at *
          generalize gB k * (uE * uE) = G at *
          generalize eB k * (uE * uE) = EG at *
          generalize uE * uE = UU at *
          omega
        have hrel := row_rel (a := fun c => sv (swapM C k p r c)) (b := fun c => sv (swapM C k p k c)) (a' := fun c => sv (elimM (swapM C k p) k m (k + 1) r c)) (x := x) (f := sv (facM (swapM C k p) k r)) (U := (uE : Int)) (k := k) (n := m - k) (X := X) (e := eB k * (uV * uE)) hq
          (fun j hj => (hN r (k + 1 + j) h1 hr (by omega) (by omega)).2.2.2) (fun j hj => hx (k + j) (by omega))
        have e9 : (sv (facM (swapM C k p) k r) * rowT (fun c => sv (swapM C k p k c)) x k (m - k + 1)).natAbs ≤ val (facM (swapM C k p) k r) * B := by
          rw [Int.natAbs_mul, sv_abs]
          exact Nat.mul_le_mul_left _ hBk
        have e10 : 1000 * (val (facM (swapM C k p) k r) * B) ≤ 1001 * (uE * B) := by
          have := Nat.mul_le_mul_right B f2
          rwa [Nat.mul_assoc, Nat.mul_assoc] at this
        have e11 : (rowT (fun c => sv (elimM (swapM C k p) k m (k + 1) r c)) x (k + 1) (m - k) * (uE : Int)).natAbs ≤ uE * B := by
          rw [Int.natAbs_mul, Int.natAbs_natCast, Nat.mul_comm]
          exact Nat.mul_le_mul_left _ hBr
        have e12 : (rowT (fun c => sv (swapM C k p r c)) x k (m - k + 1) * (uE : Int)).natAbs = uE * (rowT (fun c => sv (swapM C k p r c)) x k (m - k + 1)).natAbs := by rw [Int.natAbs_mul, Int.natAbs_natCast, Nat.mul_comm]
        have e13 : (m - k + 1) * (eB k * (uV * uE) * X) = uE * ((m + 1 - k) * (eB k * (uV * X))) := by
          rw [show m + 1 - k = m - k + 1 by omega]
          generalize m - k + 1 = a
          generalize eB k = b
          generalize uV = c
          generalize uE = d
          grind
        rw [e13] at hrel
        have hmain : 1000 * (rowT (fun c => sv (swapM C k p r c)) x k (m - k + 1)).natAbs ≤ 2001 * B + 1000 * ((m + 1 - k) * (eB k * (uV * X))) := by
          refine Nat.le_of_mul_le_mul_left (c := uE) ?_ uE_pos
          have e14 : uE * (1000 * (rowT (fun c => sv (swapM C k p r c)) x k (m - k + 1)).natAbs) = 1000 * (rowT (fun c => sv (swapM C k p r c)) x k (m - k + 1) * (uE : Int)).natAbs := by rw [e12, Nat.mul_left_comm]
          have e15 : uE * (2001 * B + 1000 * ((m + 1 - k) * (eB k * (uV * X)))) = 2001 * (uE * B) + 1000 * (uE * ((m + 1 - k) * (eB k * (uV * X)))) := by
            rw [Nat.mul_add, Nat.mul_left_comm, Nat.mul_left_comm uE 1000]
          rw [e14, e15]
          clear e12 e14 e15 e13
          generalize rowT (fun c => sv (swapM C k p r c)) x k (m - k + 1) * (uE : Int) = y at *
          generalize rowT (fun c => sv (elimM (swapM C k p) k m (k + 1) r c)) x (k + 1) (m - k) * (uE : Int) = z at *
          generalize sv (facM (swapM C k p) k r) * rowT (fun c => sv (swapM C k p k c)) x k (m - k + 1) = w at *
          generalize val (facM (swapM C k p) k r) * B = v at *
          generalize uE * B = ub at *
          generalize uE * ((m + 1 - k) * (eB k * (uV * X))) = t at *
          omega
        generalize (rowT (fun c => sv (swapM C k p r c)) x k (m - k + 1)).natAbs = y at *
        generalize (m + 1 - k) * (eB k * (uV * X)) = t at *
        omega
      · have h2 : rowE (swapM C k p) m k x r = rowE (elimM (swapM C k p) k m (k + 1)) m (k + 1) x r := by
          unfold rowE
          rw [Nat.min_eq_left (by omega), Nat.min_eq_left (by omega)]
          exact rowT_congr fun c _ _ => by
            show sv (swapM C k p r c) * x c = sv (elimM (swapM C k p) k m (k + 1) r c) * x c
            rw [elim_up (by omega)]
        rw [h2]
        have := hB r hr
        unfold stB
        generalize (m + 1 - k) * (eB k * (uV * X)) = t at *
        split <;> omega
    refine h.tr x X _ hx fun q hq => ?_
    by_cases h1 : k ≤ q
    · obtain ⟨r, hr, hkr, hrc⟩ := swap_back hk hp hkp hq h1 (C := C)
      have e : rowE C m k x q = rowE (swapM C k p) m k x r := by
        unfold rowE
        rw [Nat.min_eq_right h1, Nat.min_eq_right hkr]
        exact rowT_congr fun c _ _ => by
          show sv (C q c) * x c = sv (swapM C k p r c) * x c
          rw [hrc]
      rw [e]
      exact hrow r hr
    · have e : rowE C m k x q = rowE (swapM C k p) m k x q := by
        unfold rowE
        exact rowT_congr fun c _ _ => by
          show sv (C q c) * x c = sv (swapM C k p q c) * x c
          rw [sw2 q c (by omega) hkp]
      rw [e]
      exact hrow q hq
end Go.Proofs.Ytlhepgdheopgaaa

namespace Go.Proofs.Ytlhepgdheopgaaa
open Go Ieee

theorem rowT_scale (a x : Nat → Int) (d : Int) (lo n : Nat) : rowT a (fun c => d * x c) lo n = d * rowT a x lo n := by
  unfold rowT
  rw [← sumZ_mul]
  refine sumZ_congr n fun j _ => ?_
  exact Int.mul_left_comm _ _ _
theorem sumZ_zero {f : Nat → Int} : ∀ n, (∀ i, i < n → f i = 0) → sumZ f n = 0 := by
  intro n
  induction n with
  | zero => intro _; rfl
  | succ n ih =>
    intro h
    show sumZ f n + f n = 0
    rw [ih fun i hi => h i (by omega), h n (by omega)]
    rfl
/-- a point at which the first rows are 0 -/
theorem null_vec {C : Nat → Nat → Nat} {k : Nat} (hd : ∀ r, r < k → 0 < val (C r r)) : ∀ j, j ≤ k → ∃ x : Nat → Int, x k ≠ 0 ∧ (∀ c, k < c → x c = 0) ∧ ∀ r, k - j ≤ r → r < k → rowT (fun c => sv (C r c)) x r (k + 1 - r) = 0 := by
  intro j
  induction j with
  | zero => exact fun _ => ⟨fun c => if c = k then 1 else 0, by simp, fun c hc => if_neg (by omega), fun r h1 h2 => absurd h2 (by omega)⟩
  | succ j ih =>
    intro hj
    obtain ⟨x, x1, x2, x3⟩ := ih (by omega)
    obtain ⟨s, hs⟩ : ∃ s, s = k - (j + 1) := ⟨_, rfl⟩
    have hsk : s < k := by omega
    have hd0 : sv (C s s) ≠ 0 := by
      have h1 := hd s hsk
      have h2 := sv_abs (C s s)
      omega
    refine ⟨fun c => if c = s then -rowT (fun c => sv (C s c)) x (s + 1) (k - s) else sv (C s s) * x c, ?_, fun c hc => ?_, fun r h1 h2 => ?_⟩
    · show (if k = s then _ else _) ≠ (0 : Int)
      rw [if_neg (by omega)]
      exact Int.mul_ne_zero hd0 x1
    · show (if c = s then _ else _) = (0 : Int)
      rw [if_neg (by omega), x2 c hc, Int.mul_zero]
    · by_cases hrs : r = s
      · subst hrs
        rw [show k + 1 - r = k - r + 1 by omega, rowT_head]
        have e : rowT (fun c => sv (C r c)) (fun c => if c = r then -rowT (fun c => sv (C r c)) x (r + 1) (k - r) else sv (C r r) * x c) (r + 1) (k - r) = sv (C r r) * rowT (fun c => sv (C r c)) x (r + 1) (k - r) := by
          rw [← rowT_scale]
          exact rowT_congr fun c h3 _ => by
            show sv (C r c) * (if c = r then _ else _) = _
            rw [if_neg (by omega)]
        rw [e]
        show sv (C r r) * (if r = r then _ else _) + _ = 0
        rw [if_pos rfl, Int.mul_neg]
        omega
      · have e : rowT (fun c => sv (C r c)) (fun c => if c = s then -rowT (fun c => sv (C s c)) x (s + 1) (k - s) else sv (C s s) * x c) r (k + 1 - r) = sv (C s s) * rowT (fun c => sv (C r c)) x r (k + 1 - r) := by
          rw [← rowT_scale]
          exact rowT_congr fun c h3 _ => by
            show sv (C r c) * (if c = s then _ else _) = _
            rw [if_neg (by omega)]
        rw [e, x3 r (by omega) h2, Int.mul_zero]
theorem rowT_app (a x : Nat → Int) (lo n : Nat) : ∀ m, (∀ c, lo + n ≤ c → x c = 0) → rowT a x lo (n + m) = rowT a x lo n := by
  intro m
  induction m with
  | zero => intro _; rfl
  | succ m ih =>
    intro h
    show sumZ (fun j => a (lo + j) * x (lo + j)) (n + m) + a (lo + (n + m)) * x (lo + (n + m)) = _
    rw [h (lo + (n + m)) (by omega), Int.mul_zero, Int.add_zero]
    exact ih h
/-- the greatest number of a point -/
theorem max_at (x : Nat → Int) : ∀ m, 1 ≤ m → ∃ i, i < m ∧ ∀ c, c < m → (x c).natAbs ≤ (x i).natAbs := by
  intro m
  induction m with
  | zero => intro h; omega
  | succ m ih =>
    intro _
    by_cases hm : m = 0
    · subst hm
      exact ⟨0, by omega, fun c hc => by rw [show c = 0 by omega]; exact Nat.le_refl _⟩
    · obtain ⟨i, hi, h⟩ := ih (by omega)
      by_cases hle : (x m).natAbs ≤ (x i).natAbs
      · exact ⟨i, by omega, fun c hc => by
          by_cases hcm : c = m
          · rw [hcm]; exact hle
          · exact h c (by omega)⟩
      · exact ⟨m, by omega, fun c hc => by
          by_cases hcm : c = m
          · rw [hcm]; exact Nat.le_refl _
          · have := h c (by omega); omega⟩
/-- the rows at the start tell much of each point -/
def Dom (C0 : Nat → Nat → Nat) (m D : Nat) : Prop := ∀ x : Nat → Int, x m = 0 → ∀ j, j < m → ∃ r, r < m ∧ uE * (x j).natAbs ≤ D * (rowE C0 m 0 x r).natAbs
theorem trB_small {m k X D : Nat} (hk : k < m) (h4 : m ≤ 4) (hD : D ≤ 23) (hX : 1 ≤ X) : D * trB m X k (uE * X / 200) < uE * X := by
  have hV : 100000000000 * X ≤ uV * X := Nat.mul_le_mul_right _ uV_big
  have hE : uE * X = 8388608 * (uV * X) := by rw [uV_eq, Nat.mul_assoc]; rfl
  refine Nat.lt_of_le_of_lt (Nat.mul_le_mul_right _ hD) ?_
  rw [hE]
  have hm : m = 1 ∨ m = 2 ∨ m = 3 ∨ m = 4 := by omega
  have hk3 : k = 0 ∨ k = 1 ∨ k = 2 ∨ k = 3 := by omega
  clear hE hD
  rcases hm with rfl | rfl | rfl | rfl <;> rcases hk3 with rfl | rfl | rfl | rfl <;> first | (exfalso; omega) | (simp only [trB, stB, eB, Nat.reduceAdd, Nat.reduceLT, Nat.reduceSub, if_true]; generalize uV * X = v at *; omega)
theorem pivot_big {C0 C : Nat → Nat → Nat} {m k D : Nat} (h : Stg C0 C m k) (hk : k < m) (h4 : m ≤ 4) (hD : D ≤ 23) (hdom : Dom C0 m D) : ∃ r, k ≤ r ∧ r < m ∧ uE ≤ 200 * val (C r k) := by
  by_cases hex : ∃ r, k ≤ r ∧ r < m ∧ uE ≤ 200 * val (C r k)
  · exact hex
  · exfalso
    have hsm : ∀ r, k ≤ r → r < m → 200 * val (C r k) < uE := fun r h1 h2 => by
      rcases Nat.lt_or_ge (200 * val (C r k)) uE with h3 | h3
      · exact h3
      · exact absurd ⟨r, h1, h2, h3⟩ hex
    obtain ⟨x, x1, x2, x3⟩ := null_vec (C := C) (k := k) (fun r hr => by
      have h1 := h.piv r hr
      have h2 := uE_pos
      omega) k (Nat.le_refl _)
    obtain ⟨i, hi, hmax⟩ := max_at x m (by omega)
    have hX : 1 ≤ (x i).natAbs := by have := hmax k hk; omega
    have hxc : ∀ c, c ≤ m → (x c).natAbs ≤ (x i).natAbs := fun c hc => by
      by_cases hcm : c = m
      · rw [x2 c (by omega)]; exact Nat.zero_le _
      · exact hmax c (by omega)
    have hB : ∀ r, r < m → (rowE C m k x r).natAbs ≤ uE * (x i).natAbs / 200 := fun r hr => by
      unfold rowE
      by_cases hrk : r < k
      · rw [Nat.min_eq_left (by omega), show m + 1 - r = k + 1 - r + (m - k) by omega, rowT_app _ _ _ _ _ (fun c hc => x2 c (by omega)), x3 r (by omega) hrk]
        exact Nat.zero_le _
      · rw [Nat.min_eq_right (by omega), show m + 1 - k = 1 + (m - k) by omega, rowT_app _ _ _ _ _ (fun c hc => x2 c (by omega))]
        have e : rowT (fun c => sv (C r c)) x k 1 = sv (C r k) * x k := by
          show 0 + sv (C r (k + 0)) * x (k + 0) = _
          rw [Nat.add_zero, Int.zero_add]
        rw [e, Int.natAbs_mul, sv_abs, Nat.le_div_iff_mul_le (by decide)]
        have h1 := hsm r (by omega) hr
        have h2 := Nat.mul_le_mul (Nat.le_of_lt h1) (hmax k hk)
        have e2 : val (C r k) * (x k).natAbs * 200 = 200 * val (C r k) * (x k).natAbs := by rw [Nat.mul_comm, Nat.mul_assoc]
        rw [e2]
        exact h2
    obtain ⟨r, hr, hle⟩ := hdom x (x2 m hk) i hi
    have h5 := h.tr x (x i).natAbs _ hxc hB r hr
    have h6 := trB_small hk h4 hD hX
    have h7 := Nat.mul_le_mul_left D h5
    omega
theorem best_max {C : Nat → Nat → Nat} {k n : Nat} (hf : ∀ r, k ≤ r → r < n → isFin single (C r k) = true) (hk : k < n) : ∀ j, k + j ≤ n → ∀ r, k ≤ r → r < k + j → val (C r k) ≤ val (C (bestM C k j) k) := by
  intro j
  induction j with
  | zero => intro _ r h1 h2; omega
  | succ j ih =>
    intro hj r h1 h2
    have hb := bestM_lt (C := C) hk j (by omega)
    have f1 := fin_not_nan (hf (k + j) (by omega) (by omega))
    have f2 := fin_not_nan (hf _ hb.2 hb.1)
    obtain ⟨a1, a2⟩ := absA_key f1
    obtain ⟨b1, b2⟩ := absA_key f2
    have hgt : bigB (C (k + j) k) (C (bestM C k j) k) = decide (key single (absA (C (bestM C k j) k)) < key single (absA (C (k + j) k))) := gt_key (f := single) (by decide) a1 b1
    rw [a2, b2] at hgt
    have e : bestM C k (j + 1) = if bigB (C (k + j) k) (C (bestM C k j) k) = true then k + j else bestM C k j := rfl
    rw [e, hgt]
    by_cases hlt : ((key single (C (bestM C k j) k)).natAbs : Int) < ((key single (C (k + j) k)).natAbs : Int)
    · rw [if_pos (decide_eq_true hlt)]
      have h3 : val (C (bestM C k j) k) ≤ val (C (k + j) k) := val_le_key.2 (by omega)
      by_cases hr : r = k + j
      · rw [hr]; exact Nat.le_refl _
      · exact Nat.le_trans (ih (by omega) r h1 (by omega)) h3
    · rw [if_neg (by rw [decide_eq_true_eq]; exact hlt)]
      by_cases hr : r = k + j
      · rw [hr]
        exact val_le_key.2 (by omega)
      · exact ih (by omega) r h1 (by omega)
theorem good_pivot {p : Nat} (hf : isFin single p = true) (hv : 0 < val p) : badP p = false := by
  unfold badP
  have hn := fin_not_nan hf
  have h1 : (FloatKind.f32.format.order p 0 == some .eq) = decide (key single p = key single 0) := eq_key (f := single) (by decide) hn zero_notNan
  rw [h1, order_refl (f := FloatKind.f32.format) hn, key_zero, decide_eq_false (val_pos_key.1 hv)]
  rfl
theorem stage_all {C0 : Nat → Nat → Nat} {m D : Nat} (h4 : m ≤ 4) (hD : D ≤ 23) (hdom : Dom C0 m D) (h1 : ∀ r c, r < m → c ≤ m → isFin single (C0 r c) = true) (h2 : ∀ r c, r < m → c ≤ m → val (C0 r c) ≤ uE) : ∀ k, k ≤ m → ∃ C, Stg C0 C m k := by
  intro k
  induction k with
  | zero => exact fun _ => ⟨C0, Stg.start h1 h2⟩
  | succ k ih =>
    intro hk
    obtain ⟨C, h⟩ := ih (by omega)
    have hb := bestM_lt (C := C) (show k < m by omega) (m - k) (by omega)
    have hmx := best_max (C := C) (k := k) (n := m) (fun r _ hr => h.fin r k hr (by omega)) (by omega) (m - k) (by omega)
    obtain ⟨r, r1, r2, r3⟩ := pivot_big h (by omega) h4 hD hdom
    have h5 := hmx r r1 (by omega)
    have h6 : uE ≤ 200 * val (C (bestM C k (m - k)) k) := by omega
    have h7 : 0 < val (C (bestM C k (m - k)) k) := by have := uE_pos; omega
    exact ⟨_, h.step (by omega) h4 hb.1 hb.2 (fun r a b => hmx r a (by omega)) h6 rfl (good_pivot (h.fin _ k hb.1 (by omega)) h7)⟩
end Go.Proofs.Ytlhepgdheopgaaa

namespace Go.Proofs.Ytlhepgdheopgaaa
open Go Ieee

def tA : Nat → Nat
  | 0 => 0
  | 1 => 32
  | 2 => 75
  | _ => 129
def tB : Nat → Nat
  | 0 => 31
  | 1 => 103
  | 2 => 186
  | _ => 280
/-- one product more is taken away -/
theorem right_step {a b x g i Xb : Nat} {w : Int} (hi : i ≤ 2) (ha : isFin single a = true) (hb : isFin single b = true) (hx : isFin single x = true) (g1 : 10 ≤ g) (g2 : g ≤ 100) (sa : 100 * val a ≤ 10 * g * uE + 11 * (g * (i * Xb))) (sb : 10 * val b ≤ g * uE) (sx : val x ≤ Xb) (hX1 : uE ≤ Xb) (hX2 : Xb ≤ 2 ^ 60 * uE)
    (ea : 100 * (sv a * (uE : Int) - w).natAbs ≤ g * tA i * (uV * Xb)) :
    isFin single (can .sub a (can .mul b x)) = true ∧ 100 * val (can .sub a (can .mul b x)) ≤ 10 * g * uE + 11 * (g * ((i + 1) * Xb)) ∧
    100 * (sv (can .sub a (can .mul b x)) * (uE : Int) - (w - sv b * sv x)).natAbs ≤ g * tA (i + 1) * (uV * Xb) := by
  have hP : (sv b * sv x).natAbs = val b * val x := by rw [Int.natAbs_mul, sv_abs, sv_abs]
  have hP2 : 10 * (val b * val x) ≤ g * (uE * Xb) := by
    have h1 := Nat.mul_le_mul sb sx
    rwa [Nat.mul_assoc, Nat.mul_assoc] at h1
  have hK : kA * (uV * Xb) = uE * Xb := by rw [← Nat.mul_assoc, ← uV_eq]
  have hA : kA = 8388608 := rfl
  have hXT : 1000 * Xb ≤ uT := Nat.le_trans (Nat.mul_le_mul_left _ hX2) (by decide)
  have hG : g * (uE * Xb) ≤ 100 * (uE * Xb) := Nat.mul_le_mul_right _ g2
  have hG1 : 10 * (uE * Xb) ≤ g * (uE * Xb) := Nat.mul_le_mul_right _ g1
  have hT1 : 1000 * (uE * Xb) ≤ uT * uE := by
    rw [Nat.mul_left_comm, Nat.mul_comm uT]
    exact Nat.mul_le_mul_left _ hXT
  obtain ⟨m1, m2⟩ := mul_s hb hx (by rw [hP]; omega)
  rw [hP] at m2
  have hU1 : 4000000 * kA * Xb ≤ uE * Xb := Nat.mul_le_mul_right _ uE_big
  have hUK : kA * uE ≤ kA * Xb := Nat.mul_le_mul_left _ hX1
  have hpU : kA * (val (fmul b x) * uE) ≤ kA * (val b * val x) + (val b * val x + kA * uE) := by
    have e1 : (sv (fmul b x) * (uE : Int)).natAbs = val (fmul b x) * uE := by rw [Int.natAbs_mul, sv_abs, Int.natAbs_natCast]
    have e2 : val (fmul b x) * uE ≤ (sv (fmul b x) * (uE : Int) - sv b * sv x).natAbs + val b * val x := by
      rw [← e1, ← hP]
      omega
    have e3 := Nat.mul_le_mul_left kA e2
    rw [Nat.mul_add, Nat.mul_comm kA (Int.natAbs _)] at e3
    omega
  -- the sizes, in units of the bound times the unit
  have haU : 100 * (val a * uE) ≤ 10 * (g * (uE * Xb)) + 11 * (i * (g * (uE * Xb))) := by
    have h1 := Nat.mul_le_mul_right uE sa
    rw [Nat.add_mul, Nat.mul_assoc 100] at h1
    have h2 : 10 * g * uE * uE ≤ 10 * (g * (uE * Xb)) := by
      rw [Nat.mul_assoc, Nat.mul_assoc]
      exact Nat.mul_le_mul_left _ (Nat.mul_le_mul_left _ (Nat.mul_le_mul_left _ hX1))
    have h3 : 11 * (g * (i * Xb)) * uE = 11 * (i * (g * (uE * Xb))) := by
      generalize uE = u
      grind
    rw [h3] at h1
    omega
  have hQ : (sv a - sv (fmul b x)).natAbs ≤ val a + val (fmul b x) := by
    rw [← sv_abs a, ← sv_abs (fmul b x)]
    omega
  have hQU := Nat.mul_le_mul_right uE hQ
  rw [Nat.add_mul] at hQU
  have hi2 : i * (g * (uE * Xb)) ≤ 2 * (g * (uE * Xb)) := Nat.mul_le_mul_right _ hi
  have hp2 : 10 * (val (fmul b x) * uE) ≤ 2 * (g * (uE * Xb)) := by
    rw [hA] at hpU hU1 hUK
    clear m2 hP hQ sa sb ea hK hT1 hXT hQU haU
    generalize val b * val x = P at *
    generalize val (fmul b x) * uE = pU at *
    generalize g * (uE * Xb) = G at *
    generalize uE * Xb = UX at *
    omega
  have hQT : (sv a - sv (fmul b x)).natAbs ≤ uT := by
    refine Nat.le_of_mul_le_mul_right (c := uE) ?_ uE_pos
    clear m2 hP hQ sa sb ea hK hpU hU1 hUK
    generalize val (fmul b x) * uE = pU at *
    generalize (sv a - sv (fmul b x)).natAbs * uE = Q at *
    generalize val a * uE = aU at *
    generalize uT * uE = TU at *
    generalize i * (g * (uE * Xb)) = iG at *
    generalize g * (uE * Xb) = G at *
    generalize uE * Xb = UX at *
    omega
  obtain ⟨s1, s2⟩ := sub_s ha m1 hQT
  have ec : can .sub a (can .mul b x) = fsub a (fmul b x) := by rw [can_mul hb hx, can_sub ha m1]
  rw [ec]
  have e3 := Nat.mul_le_mul_right uE s2
  rw [Nat.mul_right_comm] at e3
  refine ⟨s1, ?_, ?_⟩
  · have e1 : val (fsub a (fmul b x)) ≤ (sv (fsub a (fmul b x)) - (sv a - sv (fmul b x))).natAbs + (val a + val (fmul b x)) := by
      rw [← sv_abs (fsub a (fmul b x))]
      omega
    -- in plain units
    have hpX : 100 * val (fmul b x) ≤ 10 * (g * Xb) + Xb := by
      refine Nat.le_of_mul_le_mul_right (c := uE) ?_ uE_pos
      have e5 : (10 * (g * Xb) + Xb) * uE = 10 * (g * (uE * Xb)) + uE * Xb := by
        generalize uE = u
        grind
      rw [e5, Nat.mul_assoc]
      rw [hA] at hpU hU1 hUK
      clear m2 hP hQ sa sb ea hK hT1 hXT hQU haU e3 s2 e1
      generalize val b * val x = P at *
      generalize val (fmul b x) * uE = pU at *
      generalize g * (uE * Xb) = G at *
      generalize uE * Xb = UX at *
      omega
    have hgX : 10 * Xb ≤ g * Xb := Nat.mul_le_mul_right _ g1
    have hgX2 : g * Xb ≤ 100 * Xb := Nat.mul_le_mul_right _ g2
    have hgi : g * (i * Xb) ≤ 2 * (g * Xb) := by
      rw [Nat.mul_left_comm]
      exact Nat.mul_le_mul_right _ hi
    have hgu : 10 * g * uE ≤ 10 * (g * Xb) := by
      rw [Nat.mul_assoc]
      exact Nat.mul_le_mul_left _ (Nat.mul_le_mul_left _ hX1)
    have hgs : g * ((i + 1) * Xb) = g * (i * Xb) + g * Xb := by rw [Nat.add_mul, Nat.one_mul, Nat.mul_add]
    rw [hgs]
    have hs2 : (sv (fsub a (fmul b x)) - (sv a - sv (fmul b x))).natAbs * kA ≤ val a + val (fmul b x) := Nat.le_trans s2 hQ
    rw [hA] at hs2
    clear m2 hP hQ ea hK hT1 hXT hQU haU e3 s2 hpU hU1 hUK hp2 hi2 hG hG1 hP2 hQT
    generalize (sv (fsub a (fmul b x)) - (sv a - sv (fmul b x))).natAbs = d at *
    generalize val (fsub a (fmul b x)) = r at *
    generalize val (fmul b x) = p at *
    generalize val a = av at *
    generalize g * (i * Xb) = giX at *
    generalize g * Xb = gX at *
    generalize 10 * g * uE = gu at *
    omega
  · have e1 : (sv (fsub a (fmul b x)) * (uE : Int) - (w - sv b * sv x)).natAbs ≤ (sv a * (uE : Int) - w).natAbs + ((sv (fsub a (fmul b x)) - (sv a - sv (fmul b x))).natAbs * uE + (sv (fmul b x) * (uE : Int) - sv b * sv x).natAbs) := by
      have h1 : ((sv (fsub a (fmul b x)) - (sv a - sv (fmul b x))) * (uE : Int)).natAbs = (sv (fsub a (fmul b x)) - (sv a - sv (fmul b x))).natAbs * uE := by rw [Int.natAbs_mul, Int.natAbs_natCast]
      rw [← h1, Int.sub_mul, Int.sub_mul]
      generalize sv (fsub a (fmul b x)) * (uE : Int) = x1
      generalize sv a * (uE : Int) = y
      generalize sv (fmul b x) * (uE : Int) = z
      generalize sv b * sv x = t
      omega
    have ht : 100 * ((sv (fsub a (fmul b x)) - (sv a - sv (fmul b x))).natAbs * uE + (sv (fmul b x) * (uE : Int) - sv b * sv x).natAbs) ≤ g * (tA (i + 1) - tA i) * (uV * Xb) := by
      refine Nat.le_of_mul_le_mul_left (c := kA) ?_ kA_pos
      have e4 : kA * (g * (tA (i + 1) - tA i) * (uV * Xb)) = (tA (i + 1) - tA i) * (g * (uE * Xb)) := by
        rw [← hK]
        generalize tA (i + 1) - tA i = t
        generalize uV * Xb = v
        grind
      rw [e4]
      have hti : 20 + 11 * (i + 1) + 1 ≤ tA (i + 1) - tA i := by
        have h : i = 0 ∨ i = 1 ∨ i = 2 := by omega
        rcases h with rfl | rfl | rfl <;> decide
      refine Nat.le_trans ?_ (Nat.mul_le_mul_right _ hti)
      rw [Nat.mul_left_comm, Nat.mul_add, Nat.mul_comm kA (_ * uE), Nat.mul_comm kA (Int.natAbs _)]
      have e6 : (20 + 11 * (i + 1) + 1) * (g * (uE * Xb)) = 32 * (g * (uE * Xb)) + 11 * (i * (g * (uE * Xb))) := by
        generalize g * (uE * Xb) = G
        grind
      rw [e6]
      rw [hA] at e3 m2 hpU hU1 hUK ⊢
      clear e1 s2 hP hQ sa sb ea hQT hK hT1 hXT e4 hti e6
      generalize (sv (fsub a (fmul b x)) - (sv a - sv (fmul b x))).natAbs * uE = d at *
      generalize (sv a - sv (fmul b x)).natAbs * uE = Q at *
      generalize val (fmul b x) * uE = pU at *
      generalize val b * val x = P at *
      generalize (sv (fmul b x) * (uE : Int) - sv b * sv x).natAbs = t at *
      generalize val a * uE = aU at *
      generalize i * (g * (uE * Xb)) = iG at *
      generalize g * (uE * Xb) = G at *
      generalize uE * Xb = UX at *
      omega
    have hsum : g * tA i * (uV * Xb) + g * (tA (i + 1) - tA i) * (uV * Xb) = g * tA (i + 1) * (uV * Xb) := by
      rw [← Nat.add_mul, ← Nat.mul_add]
      have : tA i + (tA (i + 1) - tA i) = tA (i + 1) := by
        have h : i = 0 ∨ i = 1 ∨ i = 2 := by omega
        rcases h with rfl | rfl | rfl <;> decide
      rw [this]
    rw [← hsum]
    omega
end Go.Proofs.Ytlhepgdheopgaaa

namespace Go.Proofs.Ytlhepgdheopgaaa
open Go Ieee

theorem gB_rng (k : Nat) : 10 ≤ gB k ∧ gB k ≤ 87 := by
  match k with
  | 0 => decide
  | 1 => decide
  | 2 => decide
  | k + 3 => exact ⟨show 10 ≤ 87 by decide, Nat.le_refl _⟩
/-- the right side of a row, with products taken away -/
theorem right_all {C : Nat → Nat → Nat} {X : Nat → Nat} {m k g Xb : Nat} (g1 : 10 ≤ g) (g2 : g ≤ 100) (hf : ∀ c, k ≤ c → c ≤ m → isFin single (C k c) = true) (hb : ∀ c, k ≤ c → c ≤ m → 10 * val (C k c) ≤ g * uE) (hX1 : uE ≤ Xb) (hX2 : Xb ≤ 2 ^ 60 * uE) (hk : k < m) (hx : ∀ c, k < c → c < m → isFin single (X c) = true ∧ val (X c) ≤ Xb) :
    ∀ i, i ≤ 3 → k + 1 + i ≤ m → isFin single (rightM C m k X i) = true ∧ 100 * val (rightM C m k X i) ≤ 10 * g * uE + 11 * (g * (i * Xb)) ∧
      100 * (sv (rightM C m k X i) * (uE : Int) - (sv (C k m) * (uE : Int) - rowT (fun c => sv (C k c)) (fun c => sv (X c)) (k + 1) i)).natAbs ≤ g * tA i * (uV * Xb) := by
  intro i
  induction i with
  | zero =>
    intro _ _
    refine ⟨hf m (by omega) (Nat.le_refl _), ?_, ?_⟩
    · show 100 * val (C k m) ≤ _
      have := hb m (by omega) (Nat.le_refl _)
      rw [Nat.mul_assoc]
      omega
    · show 100 * (sv (C k m) * (uE : Int) - (sv (C k m) * (uE : Int) - 0)).natAbs ≤ _
      rw [Int.sub_zero, Int.sub_self]
      exact Nat.zero_le _
  | succ i ih =>
    intro hi hm
    obtain ⟨a1, a2, a3⟩ := ih (by omega) (by omega)
    obtain ⟨x1, x2⟩ := hx (k + 1 + i) (by omega) (by omega)
    obtain ⟨r1, r2, r3⟩ := right_step (i := i) (by omega) a1 (hf (k + 1 + i) (by omega) (by omega)) x1 g1 g2 a2 (hb (k + 1 + i) (by omega) (by omega)) x2 hX1 hX2 a3
    refine ⟨r1, r2, ?_⟩
    have e : rowT (fun c => sv (C k c)) (fun c => sv (X c)) (k + 1) (i + 1) = rowT (fun c => sv (C k c)) (fun c => sv (X c)) (k + 1) i + sv (C k (k + 1 + i)) * sv (X (k + 1 + i)) := rfl
    rw [e]
    have e2 : sv (C k m) * (uE : Int) - (rowT (fun c => sv (C k c)) (fun c => sv (X c)) (k + 1) i + sv (C k (k + 1 + i)) * sv (X (k + 1 + i))) = sv (C k m) * (uE : Int) - rowT (fun c => sv (C k c)) (fun c => sv (X c)) (k + 1) i - sv (C k (k + 1 + i)) * sv (X (k + 1 + i)) := by omega
    rw [e2]
    exact r3
/-- a number that is solved -/
theorem quo_s {C : Nat → Nat → Nat} {k g Xb i r : Nat} (g1 : 10 ≤ g) (g2 : g ≤ 87) (hr : isFin single r = true) (hc : isFin single (C k k) = true) (hp : uE ≤ 200 * val (C k k)) (hi : i ≤ 3) (sr : 100 * val r ≤ 10 * g * uE + 11 * (g * (i * Xb))) (hX1 : uE ≤ Xb) (hX2 : Xb ≤ 2 ^ 52 * uE) :
    isFin single (can .quo r (C k k)) = true ∧ val (can .quo r (C k k)) ≤ 8192 * Xb ∧ 10 * (sv (can .quo r (C k k)) * sv (C k k) - sv r * (uE : Int)).natAbs * kA ≤ 3 * g * (uE * uE) + 4 * (i * (g * (uE * Xb))) + 20 * (kA * (kA * val (C k k))) := by
  have hE := uE_pos
  have hpos : 0 < val (C k k) := by omega
  have hgX : g * Xb ≤ 87 * Xb := Nat.mul_le_mul_right _ g2
  have hgu : g * uE ≤ g * Xb := Nat.mul_le_mul_left _ hX1
  have hgi : g * (i * Xb) ≤ 3 * (g * Xb) := by
    rw [Nat.mul_left_comm]
    exact Nat.mul_le_mul_right _ hi
  have hvr : val r ≤ 38 * Xb := by
    rw [Nat.mul_assoc] at sr
    omega
  have hhi : val r ≤ val (C k k) * uF := by
    have h1 : 38 * Xb ≤ 38 * (2 ^ 52 * uE) := Nat.mul_le_mul_left _ hX2
    have h2 : 38 * (2 ^ 52 * uE) ≤ 38 * (2 ^ 52 * (200 * val (C k k))) := Nat.mul_le_mul_left _ (Nat.mul_le_mul_left _ hp)
    have h3 : 38 * (2 ^ 52 * (200 * val (C k k))) ≤ val (C k k) * uF := by
      have : 38 * 2 ^ 52 * 200 ≤ uF := by decide
      have h4 := Nat.mul_le_mul_left (val (C k k)) this
      have e : val (C k k) * (38 * 2 ^ 52 * 200) = 38 * (2 ^ 52 * (200 * val (C k k))) := by
        generalize val (C k k) = v
        generalize (2 : Nat) ^ 52 = w
        grind
      rwa [e] at h4
    omega
  obtain ⟨q1, q2⟩ := div_s hr hc hpos hhi
  have ec : can .quo r (C k k) = fdiv r (C k k) := can_quo hr hc hpos
  rw [ec]
  have hA : kA = 8388608 := rfl
  refine ⟨q1, ?_, ?_⟩
  · have e1 : (sv (fdiv r (C k k)) * sv (C k k)).natAbs = val (fdiv r (C k k)) * val (C k k) := by rw [Int.natAbs_mul, sv_abs, sv_abs]
    have e2 : (sv r * (uE : Int)).natAbs = val r * uE := by rw [Int.natAbs_mul, sv_abs, Int.natAbs_natCast]
    have e3 : val (fdiv r (C k k)) * val (C k k) ≤ (sv (fdiv r (C k k)) * sv (C k k) - sv r * (uE : Int)).natAbs + val r * uE := by
      rw [← e1, ← e2]
      omega
    refine Nat.le_of_mul_le_mul_right (c := val (C k k)) ?_ hpos
    have e4 : val r * uE ≤ 7600 * (Xb * val (C k k)) := by
      have h1 := Nat.mul_le_mul hvr hp
      have e : 38 * Xb * (200 * val (C k k)) = 7600 * (Xb * val (C k k)) := by rw [Nat.mul_mul_mul_comm]
      rwa [e] at h1
    have e5 : 4000000 * kA * val (C k k) ≤ Xb * val (C k k) := Nat.mul_le_mul_right _ (Nat.le_trans uE_big hX1)
    have e6 : 2 * kA * kA * val (C k k) = 2 * kA * (kA * val (C k k)) := Nat.mul_assoc _ _ _
    rw [e6] at q2
    rw [Nat.mul_assoc]
    rw [Nat.mul_assoc] at e5
    rw [hA] at q2 e5
    clear e1 e2 sr hhi hgi hgu hgX hvr
    generalize val (fdiv r (C k k)) * val (C k k) = q at *
    generalize val r * uE = p at *
    generalize Xb * val (C k k) = z at *
    generalize (sv (fdiv r (C k k)) * sv (C k k) - sv r * (uE : Int)).natAbs = d at *
    generalize val (C k k) = v at *
    omega
  · have h1 := Nat.mul_le_mul_right uE sr
    rw [Nat.add_mul, Nat.mul_assoc 100] at h1
    have h2 : 10 * g * uE * uE = 10 * (g * (uE * uE)) := by rw [Nat.mul_assoc, Nat.mul_assoc]
    have h3 : 11 * (g * (i * Xb)) * uE = 11 * (i * (g * (uE * Xb))) := by
      generalize uE = u
      grind
    have h4 : 2 * kA * kA * val (C k k) = 2 * (kA * (kA * val (C k k))) := by rw [Nat.mul_assoc, Nat.mul_assoc]
    rw [h4] at q2
    rw [h2, h3] at h1
    rw [Nat.mul_assoc 10, Nat.mul_assoc 3]
    clear hhi hgi hgu hgX hvr hA
    generalize (sv (fdiv r (C k k)) * sv (C k k) - sv r * (uE : Int)).natAbs * kA = d at *
    generalize val r * uE = p at *
    generalize g * (uE * uE) = a at *
    generalize i * (g * (uE * Xb)) = b at *
    generalize kA * (kA * val (C k k)) = c at *
    omega
theorem right_congr {C : Nat → Nat → Nat} {X Y : Nat → Nat} {n k : Nat} : ∀ i, (∀ c, k < c → c ≤ k + i → X c = Y c) → rightM C n k X i = rightM C n k Y i := by
  intro i
  induction i with
  | zero => intro _; rfl
  | succ i ih =>
    intro h
    show can .sub (rightM C n k X i) (can .mul (C k (k + 1 + i)) (X (k + 1 + i))) = can .sub (rightM C n k Y i) (can .mul (C k (k + 1 + i)) (Y (k + 1 + i)))
    rw [ih fun c h1 h2 => h c h1 (by omega), h (k + 1 + i) (by omega) (by omega)]
theorem back_keep {C : Nat → Nat → Nat} {m j i : Nat} (hi : m ≤ i + j) : ∀ d, j + d ≤ m → backM C m (j + d) i = backM C m j i := by
  intro d
  induction d with
  | zero => intro _; rfl
  | succ d ih =>
    intro hd
    rw [← ih (by omega)]
    show (if i = m - 1 - (j + d) then _ else backM C m (j + d) i) = _
    rw [if_neg (by omega)]
/-- the numbers are finite -/
theorem back_fin {C0 C : Nat → Nat → Nat} {m : Nat} (h : Stg C0 C m m) (h4 : m ≤ 4) : ∀ j, j ≤ m → ∀ i, m ≤ i + j → i < m → isFin single (backM C m j i) = true ∧ val (backM C m j i) ≤ 8192 ^ j * uE := by
  intro j
  induction j with
  | zero => intro _ i h1 h2; omega
  | succ j ih =>
    intro hj i h1 h2
    have hgb := gB_rng (m - 1 - j)
    have hmono : 8192 ^ j * uE ≤ 8192 ^ (j + 1) * uE := Nat.mul_le_mul_right _ (Nat.pow_le_pow_right (by decide) (by omega))
    by_cases hi : i = m - 1 - j
    · have hX1 : uE ≤ 8192 ^ j * uE := Nat.le_mul_of_pos_left _ (Nat.pow_pos (by decide))
      have hp3 : 8192 ^ j ≤ 2 ^ 52 := Nat.le_trans (Nat.pow_le_pow_right (n := 8192) (by decide) (show j ≤ 3 by omega)) (by decide)
      have hX2 : 8192 ^ j * uE ≤ 2 ^ 52 * uE := Nat.mul_le_mul_right _ hp3
      have hX3 : 8192 ^ j * uE ≤ 2 ^ 60 * uE := Nat.le_trans hX2 (Nat.mul_le_mul_right _ (by decide))
      obtain ⟨a1, a2, -⟩ := right_all (C := C) (X := backM C m j) (m := m) (k := m - 1 - j) (g := gB (m - 1 - j)) (Xb := 8192 ^ j * uE) hgb.1 (by omega) (fun c _ hc => h.fin _ c (by omega) hc) (fun c _ hc => by
        have := h.bd (m - 1 - j) c (by omega) hc
        rwa [Nat.min_eq_left (by omega)] at this) hX1 hX3 (by omega) (fun c h5 h6 => ih (by omega) c (by omega) h6) j (by omega) (by omega)
      obtain ⟨q1, q2, -⟩ := quo_s (C := C) (k := m - 1 - j) hgb.1 hgb.2 a1 (h.fin _ _ (by omega) (by omega)) (h.piv _ (by omega)) (show j ≤ 3 by omega) a2 hX1 hX2
      have e : backM C m (j + 1) i = can .quo (rightM C m (m - 1 - j) (backM C m j) j) (C (m - 1 - j) (m - 1 - j)) := if_pos hi
      rw [e]
      refine ⟨q1, ?_⟩
      rw [Nat.pow_succ, Nat.mul_comm (8192 ^ j), Nat.mul_assoc]
      exact q2
    · have e : backM C m (j + 1) i = backM C m j i := if_neg hi
      rw [e]
      obtain ⟨g1, g2⟩ := ih (by omega) i (by omega) h2
      exact ⟨g1, Nat.le_trans g2 hmono⟩
/-- the point that is solved; at its end the unit's opposite -/
def ptM (X : Nat → Nat) (m c : Nat) : Int := if c < m then sv (X c) else -(uE : Int)
/-- the last rows are fulfilled -/
theorem back_res {C0 C : Nat → Nat → Nat} {m Xb : Nat} (h : Stg C0 C m m) (h4 : m ≤ 4) (hX1 : uE ≤ Xb) (hX2 : Xb ≤ 2 ^ 52 * uE) (hx : ∀ c, c < m → val (backM C m m c) ≤ Xb) {k : Nat} (hk : k < m) :
    100 * (rowE C m m (ptM (backM C m m) m) k).natAbs ≤ gB k * tB (m - 1 - k) * (uV * Xb) := by
  have hgb := gB_rng k
  obtain ⟨j, hj⟩ : ∃ j, j = m - 1 - k := ⟨_, rfl⟩
  have hkj : k = m - 1 - j := by omega
  have hX3 : Xb ≤ 2 ^ 60 * uE := Nat.le_trans hX2 (Nat.mul_le_mul_right _ (by decide))
  obtain ⟨a1, a2, a3⟩ := right_all (C := C) (X := backM C m m) (m := m) (k := k) (g := gB k) (Xb := Xb) hgb.1 (by omega) (fun c _ hc => h.fin _ c hk hc) (fun c _ hc => by
    have := h.bd k c hk hc
    rwa [Nat.min_eq_left (by omega)] at this) hX1 hX3 hk (fun c h5 h6 => ⟨(back_fin h h4 m (Nat.le_refl _) c (by omega) h6).1, hx c h6⟩) j (by omega) (by omega)
  have e1 : backM C m m k = can .quo (rightM C m k (backM C m m) j) (C k k) := by
    have e2 := back_keep (C := C) (m := m) (j := j + 1) (i := k) (by omega) (m - (j + 1)) (by omega)
    rw [show j + 1 + (m - (j + 1)) = m by omega] at e2
    rw [e2]
    have e3 : backM C m (j + 1) k = can .quo (rightM C m (m - 1 - j) (backM C m j) j) (C (m - 1 - j) (m - 1 - j)) := if_pos hkj
    rw [e3, ← hkj]
    rw [right_congr (X := backM C m j) (Y := backM C m m) j fun c h5 h6 => by
      have e5 := back_keep (C := C) (m := m) (j := j) (i := c) (by omega) (m - j) (by omega)
      rw [show j + (m - j) = m by omega] at e5
      exact e5.symm]
  obtain ⟨q1, q2, q3⟩ := quo_s (C := C) (k := k) hgb.1 hgb.2 a1 (h.fin k k hk (by omega)) (h.piv k hk) (show j ≤ 3 by omega) a2 hX1 hX2
  rw [← e1] at q3
  have hrow : rowE C m m (ptM (backM C m m) m) k = sv (C k k) * sv (backM C m m k) + (rowT (fun c => sv (C k c)) (fun c => sv (backM C m m c)) (k + 1) j + sv (C k m) * (-(uE : Int))) := by
    unfold rowE
    rw [Nat.min_eq_left (by omega), show m + 1 - k = j + 1 + 1 by omega, rowT_head]
    have e5 : ptM (backM C m m) m k = sv (backM C m m k) := if_pos hk
    rw [e5]
    refine congrArg (sv (C k k) * sv (backM C m m k) + ·) ?_
    show sumZ (fun i => sv (C k (k + 1 + i)) * ptM (backM C m m) m (k + 1 + i)) j + sv (C k (k + 1 + j)) * ptM (backM C m m) m (k + 1 + j) = _
    rw [show k + 1 + j = m by omega]
    have e6 : ptM (backM C m m) m m = -(uE : Int) := if_neg (by omega)
    rw [e6]
    refine congrArg (· + sv (C k m) * (-(uE : Int))) (sumZ_congr j fun i hi => ?_)
    have e7 : ptM (backM C m m) m (k + 1 + i) = sv (backM C m m (k + 1 + i)) := if_pos (by omega)
    rw [e7]
  have hle : (rowE C m m (ptM (backM C m m) m) k).natAbs ≤ (sv (backM C m m k) * sv (C k k) - sv (rightM C m k (backM C m m) j) * (uE : Int)).natAbs + (sv (rightM C m k (backM C m m) j) * (uE : Int) - (sv (C k m) * (uE : Int) - rowT (fun c => sv (C k c)) (fun c => sv (backM C m m c)) (k + 1) j)).natAbs := by
    rw [hrow, Int.mul_neg, Int.mul_comm (sv (C k k))]
    generalize sv (backM C m m k) * sv (C k k) = p
    generalize sv (rightM C m k (backM C m m) j) * (uE : Int) = q
    generalize sv (C k m) * (uE : Int) = r
    generalize rowT (fun c => sv (C k c)) (fun c => sv (backM C m m c)) (k + 1) j = t
    omega
  -- the quotient's part
  have hK : kA * (uV * Xb) = uE * Xb := by rw [← Nat.mul_assoc, ← uV_eq]
  have hA : kA = 8388608 := rfl
  have hq : 100 * (sv (backM C m m k) * sv (C k k) - sv (rightM C m k (backM C m m) j) * (uE : Int)).natAbs ≤ gB k * (31 + 40 * j) * (uV * Xb) := by
    refine Nat.le_of_mul_le_mul_left (c := kA) ?_ kA_pos
    have e4 : kA * (gB k * (31 + 40 * j) * (uV * Xb)) = 31 * (gB k * (uE * Xb)) + 40 * (j * (gB k * (uE * Xb))) := by
      rw [← hK]
      generalize uV * Xb = v
      grind
    rw [e4]
    have f1 : gB k * (uE * uE) ≤ gB k * (uE * Xb) := Nat.mul_le_mul_left _ (Nat.mul_le_mul_left _ hX1)
    have f2 : 200 * (kA * (kA * val (C k k))) ≤ uE * Xb := by
      have b1 := h.bd k k hk (by omega)
      rw [Nat.min_eq_left (by omega)] at b1
      have b2 : gB k * uE ≤ 87 * uE := Nat.mul_le_mul_right _ hgb.2
      have b3 : val (C k k) ≤ 9 * uE := by omega
      have b4 : 200 * (kA * (kA * val (C k k))) ≤ 200 * (kA * (kA * (9 * uE))) := Nat.mul_le_mul_left _ (Nat.mul_le_mul_left _ (Nat.mul_le_mul_left _ b3))
      have b5 : 200 * kA * kA * 9 ≤ uE := by decide
      have b6 : 200 * (kA * (kA * (9 * uE))) = 200 * kA * kA * 9 * uE := by
        generalize uE = u
        generalize kA = a
        grind
      rw [b6] at b4
      exact Nat.le_trans b4 (Nat.mul_le_mul b5 hX1)
    have f3 : 10 * (uE * Xb) ≤ gB k * (uE * Xb) := Nat.mul_le_mul_right _ hgb.1
    rw [Nat.mul_assoc 10, Nat.mul_assoc 3] at q3
    rw [Nat.mul_left_comm, Nat.mul_comm kA]
    clear e4 hle hrow a3 a2 hK
    generalize (sv (backM C m m k) * sv (C k k) - sv (rightM C m k (backM C m m) j) * (uE : Int)).natAbs * kA = d at *
    generalize gB k * (uE * uE) = a at *
    generalize j * (gB k * (uE * Xb)) = b at *
    generalize gB k * (uE * Xb) = c at *
    generalize kA * (kA * val (C k k)) = e at *
    generalize uE * Xb = z at *
    omega
  have ht : 31 + 40 * j + tA j ≤ tB j := by
    have h : j = 0 ∨ j = 1 ∨ j = 2 ∨ j = 3 := by omega
    rcases h with rfl | rfl | rfl | rfl <;> decide
  rw [← hj]
  have hlast : gB k * (31 + 40 * j) * (uV * Xb) + gB k * tA j * (uV * Xb) ≤ gB k * tB j * (uV * Xb) := by
    rw [← Nat.add_mul, ← Nat.mul_add]
    exact Nat.mul_le_mul_right _ (Nat.mul_le_mul_left _ ht)
  omega
/-- by how much the rows at the start may be missed -/
def kapB : Nat → Nat
  | 0 => 0
  | 1 => 4
  | 2 => 34
  | 3 => 147
  | _ => 590
def resB : Nat → Nat
  | 0 => 0
  | 1 => 310
  | 2 => 1030
  | 3 => 2163
  | _ => 4429
theorem res_num {m k : Nat} (hk : k < m) (h4 : m ≤ 4) : gB k * tB (m - 1 - k) ≤ resB m := by
  have hm : m = 1 ∨ m = 2 ∨ m = 3 ∨ m = 4 := by omega
  have hk3 : k = 0 ∨ k = 1 ∨ k = 2 ∨ k = 3 := by omega
  rcases hm with rfl | rfl | rfl | rfl <;> rcases hk3 with rfl | rfl | rfl | rfl <;> first | (exfalso; omega) | decide
theorem trB_all {m Xb : Nat} (h1 : 1 ≤ m) (h4 : m ≤ 4) (hX : uE ≤ Xb) : trB m Xb m (resB m * (uV * Xb) / 100) ≤ kapB m * (uV * Xb) := by
  have hV : 100000000000 * 1 ≤ uV * Xb := Nat.mul_le_mul uV_big (Nat.le_trans uE_pos hX)
  have hm : m = 1 ∨ m = 2 ∨ m = 3 ∨ m = 4 := by omega
  clear hX
  rcases hm with rfl | rfl | rfl | rfl
  · simp only [trB, stB, eB, kapB, resB, Nat.reduceAdd, Nat.reduceLT, Nat.reduceSub, if_true, if_false]
    generalize uV * Xb = v at *
    omega
  · simp only [trB, stB, eB, kapB, resB, Nat.reduceAdd, Nat.reduceLT, Nat.reduceSub, if_true, if_false]
    generalize uV * Xb = v at *
    omega
  · simp only [trB, stB, eB, kapB, resB, Nat.reduceAdd, Nat.reduceLT, Nat.reduceSub, if_true, if_false]
    generalize uV * Xb = v at *
    omega
  · simp only [trB, stB, eB, kapB, resB, Nat.reduceAdd, Nat.reduceLT, Nat.reduceSub, if_true, if_false]
    generalize uV * Xb = v at *
    omega
/-- what is solved, and how well -/
theorem solved {C0 : Nat → Nat → Nat} {m D : Nat} (hm : 1 ≤ m) (h4 : m ≤ 4) (hD : D ≤ 23) (hdom : Dom C0 m D) (h1 : ∀ r c, r < m → c ≤ m → isFin single (C0 r c) = true) (h2 : ∀ r c, r < m → c ≤ m → val (C0 r c) ≤ uE) :
    ∃ X : Nat → Nat, solM C0 m = some ((List.range m).map X) ∧ (∀ c, c < m → isFin single (X c) = true ∧ val (X c) ≤ 2 ^ 52 * uE) ∧
      ∀ Xb, uE ≤ Xb → Xb ≤ 2 ^ 52 * uE → (∀ c, c < m → val (X c) ≤ Xb) → ∀ r, r < m → (rowE C0 m 0 (ptM X m) r).natAbs ≤ kapB m * (uV * Xb) := by
  obtain ⟨C, h⟩ := stage_all h4 hD hdom h1 h2 m (Nat.le_refl _)
  refine ⟨backM C m m, ?_, fun c hc => ?_, fun Xb hX1 hX2 hx r hr => ?_⟩
  · rw [sol_some h.st, if_pos]
    rw [List.all_map, List.all_eq_true]
    intro i hi
    exact (back_fin h h4 m (Nat.le_refl _) i (by omega) (List.mem_range.1 hi)).1
  · obtain ⟨g1, g2⟩ := back_fin h h4 m (Nat.le_refl _) c (by omega) hc
    refine ⟨g1, Nat.le_trans g2 (Nat.mul_le_mul_right _ ?_)⟩
    exact Nat.le_trans (Nat.pow_le_pow_right (n := 8192) (by decide) (show m ≤ 4 by omega)) (by decide)
  · have hpt : ∀ c, c ≤ m → (ptM (backM C m m) m c).natAbs ≤ Xb := fun c hc => by
      unfold ptM
      split
      · rw [sv_abs]
        exact hx c (by assumption)
      · rw [Int.natAbs_neg, Int.natAbs_natCast]
        exact hX1
    refine Nat.le_trans (h.tr (ptM (backM C m m) m) Xb (resB m * (uV * Xb) / 100) hpt (fun k hk => ?_) r hr) (trB_all hm h4 hX1)
    rw [Nat.le_div_iff_mul_le (by decide), Nat.mul_comm]
    exact Nat.le_trans (back_res h h4 hX1 hX2 hx hk) (Nat.mul_le_mul_right _ (res_num hk h4))
end Go.Proofs.Ytlhepgdheopgaaa
