/-
  Products and quotients of shares of counts: a quotient of a number by one that is not less is at most 1. No program.
-/
import Derived.Test.YtlhepgdheopgaaaBak
import Derived.Test.YtlhepgdheopgaaaShr
namespace Go.Proofs.Ytlhepgdheopgaaa
open Go Ieee

/-- a number from 0 to 1 with the sign of 1 -/
def unitP (p : Nat) : Prop := isFin single p = true ∧ negOf single p = false ∧ rungOf single p ≤ 1065353216
theorem unit_one : unitP 1065353216 := ⟨by decide +kernel, by decide +kernel, by decide +kernel⟩
theorem word_parts {r : Nat} (h : r ≤ single.infRung) : negOf single (single.word false r) = false ∧ rungOf single (single.word false r) = r := by
  have := rung_word single false (Nat.lt_of_le_of_lt h single.infRung_lt)
  exact ⟨this.2, this.1⟩
theorem mul_word {x y : Nat} (hx : isFin single x = true) (hy : isFin single y = true) (nx : negOf single x = false) (ny : negOf single y = false) :
    ∃ m e n j, single.read x = .number false m e ∧ single.read y = .number false n j ∧ single.leastPlace ≤ e ∧ single.leastPlace ≤ j ∧ m * 2 ^ (e - single.leastPlace).toNat = mu single (rungOf single x) ∧ n * 2 ^ (j - single.leastPlace).toNat = mu single (rungOf single y) ∧
      fmul x y = single.word false (rungTo single (m * n) (e + j)) := by
  have he : 1 ≤ single.exponentBits := by decide
  obtain ⟨m, e, h1, h2, h3⟩ := read_fin ((fin_iff single he x).1 hx)
  obtain ⟨n, j, g1, g2, g3⟩ := read_fin ((fin_iff single he y).1 hy)
  rw [nx] at h1
  rw [ny] at g1
  refine ⟨m, e, n, j, h1, g1, h2, g2, h3, g3, ?_⟩
  unfold fmul Format.mul
  rw [h1, g1]
  show single.nearest (false ^^ false) (m * n) (e + j) = _
  rw [nearest_eq]
  rfl
/-- a product with a part is not greater -/
theorem mul_unit {p l : Nat} (hp : unitP p) (hl : isFin single l = true) (nl : negOf single l = false) : isFin single (fmul p l) = true ∧ negOf single (fmul p l) = false ∧ rungOf single (fmul p l) ≤ rungOf single l := by
  have he : 1 ≤ single.exponentBits := by decide
  obtain ⟨m, e, n, j, -, -, h2, g2, h3, g3, hv⟩ := mul_word hp.1 hl hp.2.1 nl
  have hmu1 : mu single (rungOf single p) ≤ 2 ^ 149 := by
    have h1 : mu single 1065353216 = 2 ^ 149 := by decide +kernel
    rw [← h1]
    exact (mu_le_iff _ _ _).2 hp.2.2
  have hlp : single.leastPlace = -149 := by decide +kernel
  have hr := (fin_iff single he l).1 hl
  have hbound : rungTo single (m * n) (e + j) ≤ rungOf single l := by
    refine rungTo_mono single _ _ (-298) _ (by omega) (by omega) ?_
    have e1 : (e + j - -298).toNat = (e - single.leastPlace).toNat + (j - single.leastPlace).toNat := by omega
    have e2 : (single.leastPlace - -298).toNat = 149 := by omega
    rw [e1, e2, Nat.pow_add, Nat.mul_mul_mul_comm, h3, g3, Nat.mul_comm]
    exact Nat.mul_le_mul_left _ hmu1
  obtain ⟨w1, w2⟩ := word_parts (r := rungTo single (m * n) (e + j)) (by omega)
  rw [hv]
  exact ⟨(fin_iff single he _).2 (by rw [w2]; omega), w1, by rw [w2]; exact hbound⟩
theorem mul_zero_l {p : Nat} (hp : isFin single p = true) (np : negOf single p = false) : fmul p 0 = 0 := by
  obtain ⟨m, e, n, j, h1, g1, -, -, -, -, hv⟩ := mul_word hp (show isFin single 0 = true by decide +kernel) np (show negOf single 0 = false by decide +kernel)
  have hz : single.read 0 = .number false 0 (-149) := by decide +kernel
  rw [hz] at g1
  injection g1 with _ g2 _
  rw [hv, ← g2, Nat.mul_zero]
  rfl
theorem quot_arith {m n I J more G : Nat} (hn : 0 < n) (h : m * 2 ^ I ≤ n * 2 ^ J) (hG : G + I = J + more + 1) : 2 * (m * 2 ^ more / n) + (m * 2 ^ more % n != 0).toNat ≤ 2 ^ G := by
  have h1 : 2 * (m * 2 ^ more) ≤ n * 2 ^ G := by
    have h2 : 2 * (m * 2 ^ more) * 2 ^ I ≤ n * 2 ^ G * 2 ^ I := by
      have e1 : 2 * (m * 2 ^ more) * 2 ^ I = m * 2 ^ I * 2 ^ (more + 1) := by rw [Nat.pow_succ]; ac_rfl
      have e2 : n * 2 ^ G * 2 ^ I = n * 2 ^ J * 2 ^ (more + 1) := by
        rw [Nat.mul_assoc, ← Nat.pow_add, hG, Nat.mul_assoc n, ← Nat.pow_add, Nat.add_assoc]
      rw [e1, e2]
      exact Nat.mul_le_mul_right _ h
    exact Nat.le_of_mul_le_mul_right h2 (Nat.two_pow_pos I)
  generalize m * 2 ^ more = D at *
  have hd := Nat.div_add_mod D n
  have hm := Nat.mod_lt D hn
  generalize hq : D / n = q at *
  generalize hr : D % n = r at *
  by_cases h0 : r = 0
  · subst h0
    have : n * (2 * q) ≤ n * 2 ^ G := by
      have : n * (2 * q) = 2 * (n * q) := by ac_rfl
      omega
    have := Nat.le_of_mul_le_mul_left this hn
    simpa using this
  · have h3 : (r != 0).toNat = 1 := by simp [h0]
    rw [h3]
    have : n * (2 * q) < n * 2 ^ G := by
      have : n * (2 * q) = 2 * (n * q) := by ac_rfl
      omega
    have := Nat.lt_of_mul_lt_mul_left this
    omega
theorem div_word {x y : Nat} (hx : isFin single x = true) (hy : isFin single y = true) (nx : negOf single x = false) (ny : negOf single y = false) (hy0 : 0 < rungOf single y) (hle : rungOf single x ≤ rungOf single y) :
    unitP (fdiv x y) ∧ (x = 0 → fdiv x y = 0) := by
  have he : 1 ≤ single.exponentBits := by decide
  obtain ⟨m, e, n, j, h1, g1, h2, g2, h3, g3, -⟩ := mul_word hx hy nx ny
  have hn0 : 0 < n := by
    rcases Nat.eq_zero_or_pos n with h | h
    · rw [h, Nat.zero_mul] at g3
      have := mu_mono single hy0
      omega
    · exact h
  have hlp : single.leastPlace = -149 := by decide +kernel
  have hmu : m * 2 ^ (e - single.leastPlace).toNat ≤ n * 2 ^ (j - single.leastPlace).toNat := by
    rw [h3, g3]
    exact (mu_le_iff _ _ _).2 hle
  rw [hlp] at h2 g2 hmu
  obtain ⟨I, hI⟩ : ∃ I : Nat, e = (I : Int) - 149 := ⟨(e + 149).toNat, by omega⟩
  obtain ⟨J, hJ⟩ : ∃ J : Nat, j = (J : Int) - 149 := ⟨(j + 149).toNat, by omega⟩
  rw [show (e - -149).toNat = I by omega, show (j - -149).toNat = J by omega] at hmu
  have hv : fdiv x y = single.word false (rungTo single (2 * (m <<< (25 + n.log2 - m.log2) / n) + (m <<< (25 + n.log2 - m.log2) % n != 0).toNat) (e - j - (25 + n.log2 - m.log2 : Nat) - 1)) := by
    unfold fdiv Format.div
    rw [h1, g1]
    show Option.getD (Option.map single.write (if n = 0 then if m = 0 then none else some (.infinity (false ^^ false)) else some (.number (false ^^ false) (2 * (m <<< (25 + n.log2 - m.log2) / n) + (m <<< (25 + n.log2 - m.log2) % n != 0).toNat) (e - j - (25 + n.log2 - m.log2 : Nat) - 1)))) 0 = _
    rw [if_neg (by omega)]
    show single.nearest (false ^^ false) _ _ = _
    rw [nearest_eq]
    rfl
  rw [Nat.shiftLeft_eq] at hv
  generalize hmr : 25 + n.log2 - m.log2 = more at *
  by_cases hm0 : m = 0
  · have hz : fdiv x y = 0 := by
      rw [hv, hm0, Nat.zero_mul, Nat.zero_div, Nat.zero_mod]
      rfl
    rw [hz]
    exact ⟨⟨by decide +kernel, by decide +kernel, by decide +kernel⟩, fun _ => rfl⟩
  · have hEI : I ≤ J + more + 1 := by
      apply Classical.byContradiction
      intro hno
      have a1 : 2 ^ m.log2 ≤ m := Nat.log2_self_le hm0
      have a2 : n < 2 ^ (n.log2 + 1) := Nat.lt_log2_self
      have a3 : 2 ^ (J + more) ≤ 2 ^ I := Nat.pow_le_pow_right (by decide) (by omega)
      have a4 : 2 ^ m.log2 * 2 ^ (J + more) ≤ n * 2 ^ J := Nat.le_trans (Nat.mul_le_mul a1 a3) hmu
      rw [Nat.pow_add, ← Nat.mul_assoc, Nat.mul_right_comm] at a4
      have a5 := Nat.le_of_mul_le_mul_right a4 (Nat.two_pow_pos J)
      rw [← Nat.pow_add] at a5
      have a6 : 2 ^ (n.log2 + 1) ≤ 2 ^ (m.log2 + more) := Nat.pow_le_pow_right (by decide) (by omega)
      omega
    obtain ⟨G, hG⟩ : ∃ G, G + I = J + more + 1 := ⟨J + more + 1 - I, by omega⟩
    have hq := quot_arith hn0 hmu hG
    have hbound : rungTo single (2 * (m * 2 ^ more / n) + (m * 2 ^ more % n != 0).toNat) (e - j - (more : Nat) - 1) ≤ 1065353216 := by
      refine rungTo_mono single _ _ (-149 - (G : Int)) _ ?_ (by omega) ?_
      · omega
      · have h5 : mu single 1065353216 = 2 ^ 149 := by decide +kernel
        have e1 : (single.leastPlace - (-149 - (G : Int))).toNat = G := by omega
        have e2 : (e - j - (more : Nat) - 1 - (-149 - (G : Int))).toNat = 149 := by omega
        rw [e1, e2, h5, Nat.mul_comm (2 ^ 149)]
        exact Nat.mul_le_mul_right _ hq
    have hi : single.infRung = 2139095040 := rfl
    obtain ⟨w1, w2⟩ := word_parts (r := rungTo single (2 * (m * 2 ^ more / n) + (m * 2 ^ more % n != 0).toNat) (e - j - (more : Nat) - 1)) (by omega)
    refine ⟨?_, fun h0 => ?_⟩
    · rw [hv]
      exact ⟨(fin_iff single he _).2 (by rw [w2]; omega), w1, by rw [w2]; exact hbound⟩
    · exfalso
      have hz : single.read 0 = .number false 0 (-149) := by decide +kernel
      rw [h0, hz] at h1
      injection h1 with _ h6 _
      exact hm0 h6.symm
theorem rungN_fin {n : Nat} (h : n < 16777216) : isFin single (rungN n 126) = true ∧ negOf single (rungN n 126) = false ∧ rungOf single (rungN n 126) = rungN n 126 := by
  have hlt := rungN_lt 126 h
  have hw := low_word (r := rungN n 126) (by omega)
  have hi : single.infRung = 2139095040 := rfl
  exact ⟨(fin_iff single (by decide) _).2 (by rw [hw.1, hi]; omega), hw.2, hw.1⟩
theorem rungN_mono {m n : Nat} (h : m ≤ n) (hn : n < 16777216) : rungN m 126 ≤ rungN n 126 := by
  rw [← mu_le_iff single, mu_rungN 126 (by omega), mu_rungN 126 hn]
  exact Nat.mul_le_mul_right _ h
theorem rungN_pos {n : Nat} (h : 1 ≤ n) (hn : n < 16777216) : 0 < rungN n 126 := by
  have := rungN_mono h hn
  have h1 : rungN 1 126 = 1065353216 := by decide +kernel
  omega
/-- the chance behind a level -/
def chanceN (p l W : Nat) : Nat := fdiv (fmul p (rungN l 126)) (rungN W 126)
theorem chance_runs {p l W : Nat} (hp : unitP p) (hl : l ≤ W) (h1 : 1 ≤ W) (hW : W < 16777216) :
    floatBits .mul .f32 p (floatOfInt .f32 (l : Int)) = some (fmul p (rungN l 126)) ∧ floatBits .quo .f32 (fmul p (rungN l 126)) (floatOfInt .f32 (W : Int)) = some (chanceN p l W) ∧ unitP (chanceN p l W) ∧ (l = 0 → chanceN p l W = 0) := by
  obtain ⟨f1, f2, f3⟩ := rungN_fin (show l < 16777216 by omega)
  obtain ⟨g1, g2, g3⟩ := rungN_fin hW
  obtain ⟨m1, m2, m3⟩ := mul_unit hp f1 f2
  have hpos := rungN_pos h1 hW
  have hmono := rungN_mono hl hW
  rw [ofInt_rung (show l < 16777216 by omega), ofInt_rung hW]
  have hd := div_word m1 g1 m2 g2 (by omega) (by omega)
  refine ⟨(fmul_run hp.1 f1).1, (fdiv_run m1 g1 ?_).1, hd.1, fun h0 => hd.2 ?_⟩
  · unfold key
    rw [g2, g3]
    simp
    omega
  · have hz : rungN l 126 = 0 := by rw [h0]; rfl
    rw [hz]
    exact mul_zero_l hp.1 hp.2.1
end Go.Proofs.Ytlhepgdheopgaaa

