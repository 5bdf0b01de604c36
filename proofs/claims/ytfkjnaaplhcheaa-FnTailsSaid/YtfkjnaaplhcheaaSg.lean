/-
  No valid seed gives 64 words in a row that lie among the top 22: from the plain facts on each kind to the program's words.
-/
import Derived.Test.YtfkjnaaplhcheaaSe2
import Derived.Test.YtfkjnaaplhcheaaFQ
import Derived.Laws.Bits64
import Derived.Laws.Bits64b
namespace Go.Proofs.Ytfkjnaaplhcheaa
open Go Go.RowKit Ieee SeedFact

def nxt (k : Int) (x : Int × Int) : Int × Int := (nA k x.1 x.2, nB k x.1 x.2)
theorem wrap_nat (n : Nat) : IntKind.u64.wrap (n : Int) = ((n % 18446744073709551616 : Nat) : Int) := by rw [IntKind.wrap_u64]; omega
theorem xor_nat {a b : Nat} (ha : a < 18446744073709551616) (hb : b < 18446744073709551616) : bits .xor .u64 (a : Int) (b : Int) = ((a ^^^ b : Nat) : Int) := bits_xor_u64_nat a b ha hb
theorem or_nat {a b : Nat} (ha : a < 18446744073709551616) (hb : b < 18446744073709551616) : bits .or .u64 (a : Int) (b : Int) = ((a ||| b : Nat) : Int) := bits_or_u64_nat a b ha hb
theorem xr_lt {a b : Nat} (ha : a < 18446744073709551616) (hb : b < 18446744073709551616) : a ^^^ b < 18446744073709551616 := Nat.xor_lt_two_pow (n := 64) ha hb
theorem dv_lt {a : Nat} (ha : a < 18446744073709551616) (d : Nat) : a / d < 18446744073709551616 := Nat.lt_of_le_of_lt (Nat.div_le_self _ _) ha
theorem md_lt (a : Nat) : a % 18446744073709551616 < 18446744073709551616 := Nat.mod_lt _ (by decide)
theorem mixY_nat {s : Nat} (hs : s < 18446744073709551616) : mixY (s : Int) = ((mixS s : Nat) : Int) := by
  rw [mixY, show ((s : Int) / 1073741824) = ((s / 1073741824 : Nat) : Int) by omega, xor_nat hs (dv_lt hs _), mixS, Nat.shiftRight_eq_div_pow, show 2^30 = 1073741824 from rfl]
  generalize s ^^^ s / 1073741824 = y
  rw [show ((y : Int) * 13787848793156543929) = ((y * 13787848793156543929 : Nat) : Int) by omega, wrap_nat]
theorem mixZ_nat {s : Nat} (hs : s < 18446744073709551616) : mixZ (s : Int) = ((mixT s : Nat) : Int) := by
  rw [mixZ, show ((s : Int) / 134217728) = ((s / 134217728 : Nat) : Int) by omega, xor_nat hs (dv_lt hs _), mixT, Nat.shiftRight_eq_div_pow, show 2^27 = 134217728 from rfl]
  generalize s ^^^ s / 134217728 = y
  rw [show ((y : Int) * 10723151780598845931) = ((y * 10723151780598845931 : Nat) : Int) by omega, wrap_nat]
theorem mixF_word {s : Nat} (hs : s < 18446744073709551616) : mixF (s : Int) / 4294967296 = ((wordS s : Nat) : Int) := by
  have h1 : mixS s < 18446744073709551616 := md_lt _
  have h2 : mixT (mixS s) < 18446744073709551616 := md_lt _
  rw [mixF, mixY_nat hs, mixZ_nat h1, show (((mixT (mixS s) : Nat) : Int) / 2147483648) = ((mixT (mixS s) / 2147483648 : Nat) : Int) by omega, xor_nat h2 (dv_lt h2 _), wordS, postL, Nat.shiftRight_eq_div_pow, show 2^31 = 2147483648 from rfl]
  generalize mixT (mixS s) ^^^ mixT (mixS s) / 2147483648 = y
  omega
/-- a count's numbers behind so many words -/
theorem count_it (b : Int) : ∀ (i : Nat) (a : Int), 0 ≤ a ∧ a < 18446744073709551616 → iter (nxt 2) i (a, b) = ((a + 11400714819323198485 * i) % 18446744073709551616, b)
  | 0, a, h => by
    rw [iter_zero, Int.emod_eq_of_lt (by omega) (by omega)]
    simp
  | i+1, a, h => by
    have e : nxt 2 (a, b) = (countA a, b) := by
      rw [nxt, ← nA_2, ← nB_2]
    have hr : 0 ≤ countA a ∧ countA a < 18446744073709551616 := u64_range _
    rw [iter_succ, e, count_it b i _ hr, countA, IntKind.wrap_u64]
    congr 1
    omega
theorem cnt1 (a : Int) {k : Nat} (h : 1 ≤ k) : ((a + 11400714819323198485 * ((k - 1 : Nat) : Int)) % 18446744073709551616 + 11400714819323198485) % 18446744073709551616 = (a + 11400714819323198485 * (k : Int)) % 18446744073709551616 := by omega
theorem cnt2 {a b : Int} (k : Nat) (ha : 0 ≤ a) (hb : 0 ≤ b) : ((a + 11400714819323198485 * (k : Int)) % 18446744073709551616 + b) % 18446744073709551616 = ((((a + b).toNat + k * 11400714819323198485) % 18446744073709551616 : Nat) : Int) := by
  have e : (((a + b).toNat + k * 11400714819323198485 : Nat) : Int) = a + 11400714819323198485 * (k : Int) + b := by omega
  rw [Int.natCast_emod, e]
  generalize a + 11400714819323198485 * (k : Int) = y
  exact Int.emod_add_emod y 18446744073709551616 b
theorem count_no {a b : Int} (ha : 0 ≤ a ∧ a < 18446744073709551616) (hb : 0 ≤ b ∧ b < 18446744073709551616) : ¬ ∀ i : Nat, i < 64 → 4294967296 - 22 ≤ nW 2 (iter (nxt 2) i (a, b)).1 (iter (nxt 2) i (a, b)).2 := by
  intro h
  refine C22.no_run (a + b).toNat (fun k h1 h2 => ?_)
  have hk := h (k-1) (by omega)
  rw [count_it b _ a ha, ← nW_2, countR, countA, IntKind.wrap_u64, IntKind.wrap_u64, cnt1 a h1, cnt2 k ha.1 hb.1, mixF_word (md_lt _)] at hk
  generalize wordS (((a + b).toNat + k * 11400714819323198485) % 18446744073709551616) = x at *
  clear h h1 h2 ha hb
  omega
theorem line_next (a b : Int) : nxt 0 (a, b) = ((6364136223846793005 * a + b) % 18446744073709551616, b) := by
  rw [nxt, ← nA_0, ← nB_0, lineA, IntKind.wrap_u64, IntKind.wrap_u64]
  congr 1
  omega
theorem line_word (a b : Int) (h : 4294967296 - 22 ≤ nW 0 a b) : 18446743798831644672 ≤ (nxt 0 (a, b)).1 ∧ (nxt 0 (a, b)).1 < 18446744073709551616 := by
  rw [← nW_0] at h
  have e : (nxt 0 (a, b)).1 = lineA a b := by rw [nxt, ← nA_0]
  have hr := lineA_range a b
  rw [e]
  omega
theorem line_no {a b : Int} (hb : b % 2 = 1) : ¬ ∀ i : Nat, i < 64 → 4294967296 - 22 ≤ nW 0 (iter (nxt 0) i (a, b)).1 (iter (nxt 0) i (a, b)).2 := by
  intro h
  have s1 := line_next a b
  have s2 := line_next ((6364136223846793005 * a + b) % 18446744073709551616) b
  have s3 := line_next ((6364136223846793005 * ((6364136223846793005 * a + b) % 18446744073709551616) + b) % 18446744073709551616) b
  have s4 := line_next ((6364136223846793005 * ((6364136223846793005 * ((6364136223846793005 * a + b) % 18446744073709551616) + b) % 18446744073709551616) + b) % 18446744073709551616) b
  have h0 := line_word a b (by have := h 0 (by decide); rw [iter_zero] at this; exact this)
  have h1 := line_word _ b (by have := h 1 (by decide); rw [iter_succ, iter_zero, s1] at this; exact this)
  have h2 := line_word _ b (by have := h 2 (by decide); rw [iter_succ, iter_succ, iter_zero, s1, s2] at this; exact this)
  have h3 := line_word _ b (by have := h 3 (by decide); rw [iter_succ, iter_succ, iter_succ, iter_zero, s1, s2, s3] at this; exact this)
  rw [s1] at h0
  rw [s2] at h1
  rw [s3] at h2
  rw [s4] at h3
  exact line_run hb rfl rfl rfl h0.1 h0.2 h1.1 h2.1 h3.1
theorem hi_bit {a j : Nat} (ha : a < 18446744073709551616) (hj : ¬ j < 64) : a.testBit j = false := Nat.testBit_lt_two_pow (Nat.lt_of_lt_of_le (show a < 2^64 from ha) (Nat.pow_le_pow_right (by decide) (Nat.le_of_not_lt hj)))
theorem shift_nat {x : Nat} (hx : x < 18446744073709551616) : shiftA (x : Int) = ((stL x : Nat) : Int) := by
  have e1 : shiftX (x : Int) = ((stX x : Nat) : Int) := by
    rw [shiftX, show ((x : Int) * 8192) = ((x * 8192 : Nat) : Int) by omega, wrap_nat, xor_nat hx (md_lt _)]
    congr 1
    apply Nat.eq_of_testBit_eq
    intro j
    by_cases hj : j < 64
    · exact (tb_xorshl (k := 13) hj).symm
    · rw [hi_bit (xr_lt hx (md_lt _)) hj, hi_bit (a := stX x) (md_lt _) hj]
  have lX : stX x < 18446744073709551616 := md_lt _
  have e2 : shiftY ((stX x : Nat) : Int) = ((stY (stX x) : Nat) : Int) := by
    generalize stX x = y at lX
    rw [shiftY, show ((y : Int) / 128) = ((y / 128 : Nat) : Int) by omega, xor_nat lX (dv_lt lX _), stY, Nat.shiftRight_eq_div_pow]
  have lY : stY (stX x) < 18446744073709551616 := by
    rw [stY, Nat.shiftRight_eq_div_pow]
    exact xr_lt lX (dv_lt lX _)
  have e3 : shiftZ ((stY (stX x) : Nat) : Int) = ((stZ (stY (stX x)) : Nat) : Int) := by
    generalize stY (stX x) = y at lY
    rw [shiftZ, show ((y : Int) * 131072) = ((y * 131072 : Nat) : Int) by omega, wrap_nat, xor_nat lY (md_lt _)]
    congr 1
    apply Nat.eq_of_testBit_eq
    intro j
    by_cases hj : j < 64
    · exact (tb_xorshl (k := 17) hj).symm
    · rw [hi_bit (xr_lt lY (md_lt _)) hj, hi_bit (a := stZ y) (md_lt _) hj]
  rw [shiftA, e1, e2, e3, stL]
theorem shift_it (b : Int) : ∀ (i : Nat) (x : Nat), x < 18446744073709551616 → iter (nxt 1) i ((x : Int), b) = (((iter stL i x : Nat) : Int), b)
  | 0, x, _ => rfl
  | i+1, x, hx => by
    have e : nxt 1 ((x : Int), b) = (((stL x : Nat) : Int), b) := by
      rw [nxt, ← nA_1, ← nB_1, shift_nat hx]
    rw [iter_succ, e, shift_it b i _ (stL_lt x), iter_succ]
theorem z_zero {k z : Nat} (hk : 0 < k) (hz : z < 2^64) (h : (z ^^^ z * 2^k) % 18446744073709551616 = 0) : z = 0 := by
  have hb : ∀ j, j < 64 → z.testBit j = false := by
    intro j
    induction j using Nat.strongRecOn with
    | _ j ih =>
      intro hj
      have h1 := tb_xorshl (x := z) (k := k) hj
      rw [h, Nat.zero_testBit, Nat.testBit_xor, tb_mulmod z k j hj] at h1
      by_cases hkj : k ≤ j
      · rw [ih (j - k) (by omega) (by omega)] at h1
        simpa using h1.symm
      · rw [decide_eq_false hkj] at h1
        simpa using h1.symm
  apply Nat.eq_of_testBit_eq
  intro j
  rw [Nat.zero_testBit]
  by_cases hj : j < 64
  · exact hb j hj
  · exact Nat.testBit_lt_two_pow (Nat.lt_of_lt_of_le hz (Nat.pow_le_pow_right (by omega) (by omega)))
theorem eq_of_xor {a c : Nat} (hz : a ^^^ c = 0) : a = c := by
  apply Nat.eq_of_testBit_eq
  intro j
  have h4 := congrArg (Nat.testBit · j) hz
  simp only [Nat.testBit_xor, Nat.zero_testBit] at h4
  revert h4
  cases a.testBit j <;> cases c.testBit j <;> simp
theorem stL_zero {x : Nat} (hx : x < 18446744073709551616) (h : stL x = 0) : x = 0 := by
  have lX : stX x < 2^64 := md_lt _
  have lY : stY (stX x) < 2^64 := by
    rw [stY, Nat.shiftRight_eq_div_pow]
    exact xr_lt lX (dv_lt lX _)
  have h1 : stY (stX x) = 0 := z_zero (k := 17) (by decide) lY h
  have h2 : stX x = 0 := by
    have h3 : stX x = (stX x) >>> 7 := eq_of_xor h1
    rw [Nat.shiftRight_eq_div_pow, show 2^7 = 128 from rfl] at h3
    generalize stX x = y at *
    omega
  exact z_zero (k := 13) (by decide) hx h2
theorem shift_no {x : Nat} (b : Int) (hx : x < 18446744073709551616) (h0 : x ≠ 0) : ¬ ∀ i : Nat, i < 64 → 4294967296 - 22 ≤ nW 1 (iter (nxt 1) i ((x : Int), b)).1 (iter (nxt 1) i ((x : Int), b)).2 := by
  intro h
  refine S22.no_run (x := stL x) (stL_lt x) (fun e => h0 (stL_zero hx e)) (fun i hi => ?_)
  have h1 := h i hi
  rw [shift_it b i x hx, ← nW_1, shiftR, shift_nat (S22.it_lt hx i)] at h1
  have e : iter stL i (stL x) = stL (iter stL i x) := by
    have e1 : iter stL (i + 1) x = iter stL i (stL x) := iter_succ _ _ _
    rw [← e1, show i + 1 = 1 + i by omega, S22.iter_at]
    rfl
  rw [e]
  generalize stL (iter stL i x) = y at *
  rw [show ((y : Int) * 2685821657736338717) = ((y * 2685821657736338717 : Nat) : Int) by omega, wrap_nat] at h1
  omega
theorem pair_nat {a b : Nat} (ha : a < 18446744073709551616) (hb : b < 18446744073709551616) : nxt 3 ((a : Int), (b : Int)) = (((pA a b : Nat) : Int), ((pB a b : Nat) : Int)) := by
  have hx := xr_lt hb ha
  have e0 : pairX (a : Int) (b : Int) = ((b ^^^ a : Nat) : Int) := by rw [pairX, xor_nat hb ha]
  have e1 : turnA (a : Int) = ((a * 16777216 % 18446744073709551616 ||| a / 1099511627776 : Nat) : Int) := by
    rw [turnA, show ((a : Int) * 16777216) = ((a * 16777216 : Nat) : Int) by omega, wrap_nat, show ((a : Int) / 1099511627776) = ((a / 1099511627776 : Nat) : Int) by omega, or_nat (md_lt _) (dv_lt ha _)]
  have l1 : (a * 16777216 % 18446744073709551616 ||| a / 1099511627776) < 18446744073709551616 := Nat.or_lt_two_pow (n := 64) (md_lt _) (dv_lt ha _)
  have e2 : ∀ y : Nat, y < 18446744073709551616 → turnB (y : Int) = ((y * 137438953472 % 18446744073709551616 ||| y / 134217728 : Nat) : Int) := by
    intro y hy
    rw [turnB, show ((y : Int) * 137438953472) = ((y * 137438953472 : Nat) : Int) by omega, wrap_nat, show ((y : Int) / 134217728) = ((y / 134217728 : Nat) : Int) by omega, or_nat (md_lt _) (dv_lt hy _)]
  rw [nxt, ← nA_3, ← nB_3, pairA, pairB, e0, e1, e2 _ hx, pA, pB, xor_nat l1 hx]
  generalize b ^^^ a = y at *
  rw [show ((y : Int) * 65536) = ((y * 65536 : Nat) : Int) by omega, wrap_nat, xor_nat (xr_lt l1 hx) (md_lt _)]
theorem pair_it : ∀ (i : Nat) (a b : Nat), a < 18446744073709551616 → b < 18446744073709551616 → iter (nxt 3) i ((a : Int), (b : Int)) = ((((iter stP i (a, b)).1 : Nat) : Int), (((iter stP i (a, b)).2 : Nat) : Int))
  | 0, a, b, _, _ => rfl
  | i+1, a, b, ha, hb => by
    rw [iter_succ, pair_nat ha hb, pair_it i _ _ (pA_lt a b ha hb) (pB_lt a b ha hb), iter_succ, stP_mk]
theorem pair_no {a b : Nat} (ha : a < 18446744073709551616) (hb : b < 18446744073709551616) : ¬ ∀ i : Nat, i < 64 → 4294967296 - 22 ≤ nW 3 (iter (nxt 3) i ((a : Int), (b : Int))).1 (iter (nxt 3) i ((a : Int), (b : Int))).2 := by
  intro h
  refine pair_run ha hb (fun i hi => ?_)
  have h1 := h i (by omega)
  rw [pair_it i a b ha hb, ← nW_3, pairR] at h1
  rw [top]
  generalize (iter stP i (a, b)).1 = x at *
  generalize (iter stP i (a, b)).2 = y at *
  rw [show ((x : Int) + (y : Int)) = ((x + y : Nat) : Int) by omega, wrap_nat] at h1
  omega
/-- no valid seed gives 64 words in a row among the top 22 -/
theorem seed_no {k a b : Int} (hk : seedB k a b = true) (ha : 0 ≤ a ∧ a < 18446744073709551616) (hb : 0 ≤ b ∧ b < 18446744073709551616) : ¬ ∀ i : Nat, i < 64 → 4294967296 - 22 ≤ nW k (iter (nxt k) i (a, b)).1 (iter (nxt k) i (a, b)).2 := by
  rcases seedB_kind hk with rfl | rfl | rfl | rfl
  · refine line_no ?_
    have h : (b % 2 == 1) = true := hk
    exact eq_of_beq h
  · obtain ⟨x, rfl⟩ := Int.eq_ofNat_of_zero_le ha.1
    have h : ((x : Int) != 0) = true := hk
    refine shift_no b (by omega) (fun e => ?_)
    rw [e] at h
    exact absurd h (by decide)
  · exact count_no ha hb
  · obtain ⟨x, rfl⟩ := Int.eq_ofNat_of_zero_le ha.1
    obtain ⟨y, rfl⟩ := Int.eq_ofNat_of_zero_le hb.1
    exact pair_no (by omega) (by omega)
/-- behind a word a valid seed is valid -/
theorem seed_next {k a b : Int} (hk : seedB k a b = true) (ha : 0 ≤ a ∧ a < 18446744073709551616) (hb : 0 ≤ b ∧ b < 18446744073709551616) : seedB k (nA k a b) (nB k a b) = true := by
  rcases seedB_kind hk with rfl | rfl | rfl | rfl
  · rw [← nA_0, ← nB_0]
    exact hk
  · rw [← nA_1, ← nB_1]
    obtain ⟨x, rfl⟩ := Int.eq_ofNat_of_zero_le ha.1
    rw [shift_nat (by omega)]
    have h : ((x : Int) != 0) = true := hk
    show (((stL x : Nat) : Int) != 0) = true
    have h2 : stL x ≠ 0 := fun e => by
      have h3 := stL_zero (by omega) e
      rw [h3] at h
      exact absurd h (by decide)
    simp
    omega
  · rfl
  · obtain ⟨x, rfl⟩ := Int.eq_ofNat_of_zero_le ha.1
    obtain ⟨y, rfl⟩ := Int.eq_ofNat_of_zero_le hb.1
    have hx : x < 18446744073709551616 := by omega
    have hy : y < 18446744073709551616 := by omega
    have e := pair_nat hx hy
    have e1 : nA 3 (x : Int) (y : Int) = ((pA x y : Nat) : Int) := congrArg Prod.fst e
    have e2 : nB 3 (x : Int) (y : Int) = ((pB x y : Nat) : Int) := congrArg Prod.snd e
    rw [e1, e2]
    show (((pA x y : Nat) : Int) != 0 || ((pB x y : Nat) : Int) != 0) = true
    have h : ((x : Int) != 0 || (y : Int) != 0) = true := hk
    by_cases hz : pA x y = 0 ∧ pB x y = 0
    · exfalso
      have h1 : y ^^^ x = 0 := by
        apply Nat.eq_of_testBit_eq
        intro j
        rw [Nat.zero_testBit]
        by_cases hj : j < 64
        · have h2 := rep_rot (x := y ^^^ x) (k := 37) (i := (j + 37) % 64) (xr_lt hy hx) (by decide) (Nat.mod_lt _ (by decide))
          have h3 : ((y ^^^ x) * 2^37 % 18446744073709551616 ||| (y ^^^ x) / 2^(64-37)) = 0 := hz.2
          rw [h3, Nat.zero_testBit, show ((j + 37) % 64 + (64 - 37)) % 64 = j by omega] at h2
          exact h2.symm
        · exact hi_bit (xr_lt hy hx) hj
      have h4 : x = 0 := by
        have h5 := hz.1
        simp only [pA, h1, Nat.zero_mul, Nat.zero_mod, Nat.xor_zero] at h5
        apply Nat.eq_of_testBit_eq
        intro j
        rw [Nat.zero_testBit]
        by_cases hj : j < 64
        · have h2 := rep_rot (x := x) (k := 24) (i := (j + 24) % 64) hx (by decide) (Nat.mod_lt _ (by decide))
          have h3 : (x * 2^24 % 18446744073709551616 ||| x / 2^(64-24)) = 0 := h5
          rw [h3, Nat.zero_testBit, show ((j + 24) % 64 + (64 - 24)) % 64 = j by omega] at h2
          exact h2.symm
        · exact hi_bit hx hj
      rw [h4, Nat.xor_zero] at h1
      rw [h4, h1] at h
      exact absurd h (by decide)
    · simp
      omega
end Go.Proofs.Ytfkjnaaplhcheaa
