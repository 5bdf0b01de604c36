/-
  Lanes: many numbers of 64 bits side by side in one great number, 128 bits apart; what great operations do to each lane.
  The words of a count's seeds, many side by side: from a number behind the first mixing step back to the sum, and forth from a sum.
  Count seeds: of any 49 sums in a row one has a first mixed step that ends in five zeros; the mixing led back.
  Pair seeds: no eleven words in a row lie among the top 64. Bits of states as sums of bits of the first state; a tree of cases, each with a sum of equations that is 0 = 1.
  Line seeds: no four words in a row lie among the top 64.
  Shift seeds: steps of many states side by side; states whose lowest bits never go from 0 to 1.
-/
namespace SeedFact
def pack (f : Nat → Nat) : Nat → Nat
  | 0 => 0
  | n+1 => 2^(128*n) * f n + pack f n
theorem pack_lt {f : Nat → Nat} (hf : ∀ i, f i < 2^128) : ∀ n, pack f n < 2^(128*n)
  | 0 => by simp [pack]
  | n+1 => by
    have h := pack_lt hf n
    have h2 : 2^(128*n) * f n ≤ 2^(128*n) * (2^128 - 1) := Nat.mul_le_mul_left _ (by have := hf n; omega)
    have h3 : 2^(128*(n+1)) = 2^(128*n) * 2^128 := by rw [← Nat.pow_add]; congr 1
    rw [pack, h3, show (2:Nat)^(128*n) * 2^128 = 2^(128*n) * (2^128 - 1) + 2^(128*n) by rw [← Nat.mul_succ]]
    omega
theorem tb_pack {f : Nat → Nat} (hf : ∀ i, f i < 2^128) : ∀ n b, (pack f n).testBit b = (decide (b < 128*n) && (f (b/128)).testBit (b%128))
  | 0, b => by simp [pack]
  | n+1, b => by
    rw [pack, Nat.testBit_two_pow_mul_add _ (pack_lt hf n)]
    split
    · next h =>
      rw [tb_pack hf n b]
      simp [h, show b < 128*(n+1) by omega]
    · next h =>
      by_cases h2 : b < 128*(n+1)
      · have e1 : b / 128 = n := by omega
        have e2 : b % 128 = b - 128*n := by omega
        simp [h2, e1, e2]
      · have : (f n).testBit (b - 128*n) = false := Nat.testBit_lt_two_pow (Nat.lt_of_lt_of_le (hf n) (Nat.pow_le_pow_right (by omega) (by omega)))
        simp [h2, this]
theorem pack_add (f g : Nat → Nat) : ∀ n, pack f n + pack g n = pack (fun i => f i + g i) n
  | 0 => rfl
  | n+1 => by
    have := pack_add f g n
    simp only [pack, Nat.mul_add]
    omega
theorem pack_mul (f : Nat → Nat) (m : Nat) : ∀ n, pack f n * m = pack (fun i => f i * m) n
  | 0 => by simp [pack]
  | n+1 => by
    have := pack_mul f m n
    simp only [pack, Nat.add_mul, Nat.mul_assoc, this]
theorem pack_and {f g : Nat → Nat} (hf : ∀ i, f i < 2^128) (hg : ∀ i, g i < 2^128) (n : Nat) : pack f n &&& pack g n = pack (fun i => f i &&& g i) n := by
  apply Nat.eq_of_testBit_eq
  intro b
  rw [Nat.testBit_and, tb_pack hf, tb_pack hg, tb_pack (fun i => Nat.lt_of_le_of_lt Nat.and_le_left (hf i)), Nat.testBit_and]
  cases decide (b < 128*n) <;> simp
theorem pack_xor {f g : Nat → Nat} (hf : ∀ i, f i < 2^128) (hg : ∀ i, g i < 2^128) (n : Nat) : pack f n ^^^ pack g n = pack (fun i => f i ^^^ g i) n := by
  apply Nat.eq_of_testBit_eq
  intro b
  rw [Nat.testBit_xor, tb_pack hf, tb_pack hg, tb_pack (fun i => Nat.xor_lt_two_pow (hf i) (hg i)), Nat.testBit_xor]
  cases decide (b < 128*n) <;> simp
theorem m64_bit (j : Nat) : (18446744073709551615 : Nat).testBit j = decide (j < 64) := Nat.testBit_two_pow_sub_one 64 j
theorem up128 {x : Nat} (h : x < 2^64) : x < 2^128 := Nat.lt_trans h (by decide)
theorem pack_shr {f : Nat → Nat} (hf : ∀ i, f i < 2^64) (n s : Nat) (hs : s ≤ 64) : (pack f n >>> s) &&& pack (fun _ => 18446744073709551615) n = pack (fun i => f i >>> s) n := by
  have hg : ∀ i, f i >>> s < 2^128 := fun i => Nat.lt_of_le_of_lt (Nat.shiftRight_le _ _) (up128 (hf i))
  apply Nat.eq_of_testBit_eq
  intro b
  rw [Nat.testBit_and, Nat.testBit_shiftRight, tb_pack (fun i => up128 (hf i)), tb_pack (fun _ => by decide), tb_pack hg, m64_bit, Nat.testBit_shiftRight]
  by_cases h1 : b < 128*n
  · by_cases h2 : b % 128 < 64
    · have e1 : (s + b) / 128 = b / 128 := by omega
      have e2 : (s + b) % 128 = s + b % 128 := by omega
      simp [h1, h2, e1, e2, show s + b < 128 * n by omega]
    · have : (f (b/128)).testBit (s + b%128) = false := Nat.testBit_lt_two_pow (Nat.lt_of_lt_of_le (hf _) (Nat.pow_le_pow_right (by omega) (by omega)))
      simp [h2, this]
  · simp [h1]
theorem pack_congr {f g : Nat → Nat} : ∀ n, (∀ i, i < n → f i = g i) → pack f n = pack g n
  | 0, _ => rfl
  | n+1, h => by rw [pack, pack, h n (by omega), pack_congr n (fun i hi => h i (by omega))]
theorem pack_zero {f : Nat → Nat} : ∀ n, pack f n = 0 → ∀ i, i < n → f i = 0
  | 0, _, i, hi => by omega
  | n+1, h, i, hi => by
    rw [pack] at h
    have h1 : pack f n = 0 := by omega
    have h2 : 2^(128*n) * f n = 0 := by omega
    have h3 : f n = 0 := by
      rcases Nat.mul_eq_zero.mp h2 with h4 | h4
      · exact absurd h4 (Nat.ne_of_gt (Nat.pow_pos (by omega)))
      · exact h4
    by_cases e : i = n
    · rw [e]; exact h3
    · exact pack_zero n h1 i (by omega)
theorem pack_append (f : Nat → Nat) (a : Nat) : ∀ b, pack f (a + b) = pack f a + 2^(128*a) * pack (fun i => f (a + i)) b
  | 0 => by simp [pack]
  | b+1 => by
    have h := pack_append f a b
    rw [← Nat.add_assoc, pack, h, pack, Nat.mul_add (2^(128*a)), ← Nat.mul_assoc, ← Nat.pow_add, ← Nat.mul_add 128]
    omega

/-- 2^k lanes of 1 -/
def ones : Nat → Nat
  | 0 => 1
  | k+1 => Nat.add (ones k) (Nat.shiftLeft (ones k) (Nat.mul 128 (Nat.pow 2 k)))
theorem ones_eq : ∀ k, ones k = pack (fun _ => 1) (2^k)
  | 0 => by simp [ones, pack]
  | k+1 => by
    have h := ones_eq k
    have e : 2^(k+1) = 2^k + 2^k := by rw [Nat.pow_succ]; omega
    rw [e, pack_append, ← h]
    show ones k + ones k <<< (128 * 2^k) = _
    rw [Nat.shiftLeft_eq, Nat.mul_comm (ones k)]
theorem ones_mul (k c : Nat) : ones k * c = pack (fun _ => c) (2^k) := by
  rw [ones_eq, pack_mul]
  exact pack_congr _ (fun i _ => Nat.one_mul c)
/-- a mask of 64 bits is a remainder -/
theorem m64 (x : Nat) : x &&& 18446744073709551615 = x % 18446744073709551616 := Nat.and_two_pow_sub_one_eq_mod x 64

/-- a cube of lanes: all sums of some of these numbers -/
def rv : List Nat → Nat
  | [] => 0
  | d :: ds => Nat.add (rv ds) (Nat.shiftLeft (Nat.land (Nat.add (rv ds) (Nat.mul (ones ds.length) d)) (Nat.mul (ones ds.length) 18446744073709551615)) (Nat.mul 128 (Nat.pow 2 ds.length)))
def rf : List Nat → Nat → Nat
  | [], _ => 0
  | d :: ds, i => if i < 2^ds.length then rf ds i else (rf ds (i - 2^ds.length) + d) % 18446744073709551616
theorem rf_lt : ∀ (ds : List Nat) (i : Nat), rf ds i < 2^64
  | [], _ => by simp [rf]
  | d :: ds, i => by
    rw [rf]
    split
    · exact rf_lt ds i
    · exact Nat.mod_lt _ (by decide)
theorem rv_eq : ∀ ds : List Nat, (∀ d ∈ ds, d < 2^64) → rv ds = pack (rf ds) (2^ds.length)
  | [], _ => by simp [rv, rf, pack]
  | d :: ds, hd => by
    have h := rv_eq ds (fun x hx => hd x (List.mem_cons_of_mem _ hx))
    have hd0 := hd d List.mem_cons_self
    have e : 2^(d :: ds).length = 2^ds.length + 2^ds.length := by rw [List.length_cons, Nat.pow_succ]; omega
    have e2 : rv (d :: ds) = rv ds + ((rv ds + ones ds.length * d) &&& (ones ds.length * 18446744073709551615)) <<< (128 * 2^ds.length) := rfl
    rw [e, pack_append, e2, h, ones_mul, ones_mul, pack_add, pack_and (fun i => Nat.lt_of_lt_of_le (Nat.add_lt_add (rf_lt ds i) hd0) (by decide)) (fun _ => by decide), Nat.shiftLeft_eq, Nat.mul_comm (pack (fun i => (rf ds i + d) &&& 18446744073709551615) _)]
    congr 1
    · exact pack_congr _ (fun i hi => by rw [rf, if_pos hi])
    · congr 1
      exact pack_congr _ (fun i hi => by rw [rf, if_neg (by omega), m64, show 2^ds.length + i - 2^ds.length = i by omega])
/-- the sum that some bits choose -/
def bsum : List Nat → List Nat → Nat
  | d :: ds, x :: xs => bsum ds xs + x * d
  | _, _ => 0
theorem rf_all : ∀ (ds xs : List Nat), xs.length = ds.length → (∀ x ∈ xs, x ≤ 1) → ∃ i, i < 2^ds.length ∧ rf ds i = bsum ds xs % 18446744073709551616
  | [], [], _, _ => ⟨0, by simp, by simp [rf, bsum]⟩
  | d :: ds, x :: xs, h, hx => by
    obtain ⟨i, hi, e⟩ := rf_all ds xs (by simpa using h) (fun y hy => hx y (List.mem_cons_of_mem _ hy))
    have hx0 := hx x List.mem_cons_self
    rcases Nat.le_one_iff_eq_zero_or_eq_one.mp hx0 with rfl | rfl
    · exact ⟨i, by rw [List.length_cons, Nat.pow_succ]; omega, by rw [rf, if_pos hi, e]; simp [bsum]⟩
    · refine ⟨2^ds.length + i, by rw [List.length_cons, Nat.pow_succ]; omega, ?_⟩
      rw [rf, if_neg (by omega), show 2^ds.length + i - 2^ds.length = i by omega, e]
      simp [bsum]
/-- a row of facts -/
def Al (p : Nat → Bool) : Nat → Nat → Prop
  | _, 0 => True
  | lo, n+1 => p lo = true ∧ Al p (lo+1) n
theorem Al.out {p : Nat → Bool} : ∀ {lo n : Nat}, Al p lo n → ∀ z, lo ≤ z → z < lo + n → p z = true
  | _, 0, _, z, h1, h2 => absurd h2 (by omega)
  | lo, n+1, h, z, h1, h2 => by
    by_cases e : z = lo
    · rw [e]; exact h.1
    · exact Al.out h.2 z (by omega) (by omega)
end SeedFact
namespace SeedFact
def preL (u : Nat) : Nat := (((u ^^^ (u >>> 27)) ^^^ (u >>> 54)) * 10871156337175269513 % 18446744073709551616 ^^^ (((u ^^^ (u >>> 27)) ^^^ (u >>> 54)) * 10871156337175269513 % 18446744073709551616) >>> 30) ^^^ (((u ^^^ (u >>> 27)) ^^^ (u >>> 54)) * 10871156337175269513 % 18446744073709551616) >>> 60
def mixS (s : Nat) : Nat := (s ^^^ (s >>> 30)) * 13787848793156543929 % 18446744073709551616
def mixT (x : Nat) : Nat := (x ^^^ (x >>> 27)) * 10723151780598845931 % 18446744073709551616
def postL (s : Nat) : Nat := mixT (mixS s)
def hitL (n s : Nat) : Nat := (postL s + n) &&& 18446744073709551616

def xsh1 (M X a : Nat) : Nat := Nat.land (Nat.xor X (Nat.shiftRight X a)) M
def xsh2 (M X a b : Nat) : Nat := Nat.land (Nat.xor (Nat.xor X (Nat.shiftRight X a)) (Nat.shiftRight X b)) M
def mulm (M X m : Nat) : Nat := Nat.land (Nat.mul X m) M
def addm (O M X c : Nat) : Nat := Nat.land (Nat.add X (Nat.mul O c)) M
def preV (M U : Nat) : Nat := xsh2 M (mulm M (xsh2 M U 27 54) 10871156337175269513) 30 60
def postV (M S : Nat) : Nat := mulm M (xsh1 M (mulm M (xsh1 M S 30) 13787848793156543929) 27) 10723151780598845931
def hitV (O M B n S : Nat) : Nat := Nat.land (Nat.add (postV M S) (Nat.mul O n)) B

def mk (n : Nat) : Nat := pack (fun _ => 18446744073709551615) n
theorem lt64 {x : Nat} (h : x < 2^64) : x < 18446744073709551616 := h
theorem and_self64 {f : Nat → Nat} (hf : ∀ i, f i < 2^64) (n : Nat) : pack f n &&& mk n = pack f n := by
  rw [mk, pack_and (fun i => up128 (hf i)) (fun _ => by decide)]
  exact pack_congr n (fun i _ => by rw [m64]; exact Nat.mod_eq_of_lt (hf i))
theorem shr_lt {x : Nat} (h : x < 2^64) (s : Nat) : x >>> s < 2^64 := Nat.lt_of_le_of_lt (Nat.shiftRight_le _ _) h
theorem xsh1_eq {f : Nat → Nat} (hf : ∀ i, f i < 2^64) (n a : Nat) (ha : a ≤ 64) : xsh1 (mk n) (pack f n) a = pack (fun i => f i ^^^ (f i >>> a)) n := by
  show ((pack f n ^^^ (pack f n >>> a)) &&& mk n) = _
  rw [Nat.and_xor_distrib_right, and_self64 hf, mk, pack_shr hf n a ha, pack_xor (fun i => up128 (hf i)) (fun i => up128 (shr_lt (hf i) a))]
theorem xsh2_eq {f : Nat → Nat} (hf : ∀ i, f i < 2^64) (n a b : Nat) (ha : a ≤ 64) (hb : b ≤ 64) : xsh2 (mk n) (pack f n) a b = pack (fun i => (f i ^^^ (f i >>> a)) ^^^ (f i >>> b)) n := by
  show (((pack f n ^^^ (pack f n >>> a)) ^^^ (pack f n >>> b)) &&& mk n) = _
  have h := xsh1_eq hf n a ha
  have h' : (pack f n ^^^ (pack f n >>> a)) &&& mk n = pack (fun i => f i ^^^ (f i >>> a)) n := h
  rw [Nat.and_xor_distrib_right, h', mk, pack_shr hf n b hb, pack_xor (fun i => up128 (Nat.xor_lt_two_pow (hf i) (shr_lt (hf i) a))) (fun i => up128 (shr_lt (hf i) b))]
theorem mul_lt128 {x m : Nat} (hx : x < 2^64) (hm : m < 2^64) : x * m < 2^128 := by
  have : x * m < 2^64 * 2^64 := Nat.mul_lt_mul_of_lt_of_lt hx hm
  exact Nat.lt_of_lt_of_le this (by decide)
theorem mulm_eq {f : Nat → Nat} (hf : ∀ i, f i < 2^64) (n m : Nat) (hm : m < 2^64) : mulm (mk n) (pack f n) m = pack (fun i => f i * m % 18446744073709551616) n := by
  show ((pack f n * m) &&& mk n) = _
  rw [pack_mul, mk, pack_and (fun i => mul_lt128 (hf i) hm) (fun _ => by decide)]
  exact pack_congr n (fun i _ => m64 _)
theorem add_lt128 {x y : Nat} (hx : x < 2^64) (hy : y < 2^64) : x + y < 2^128 := Nat.lt_of_lt_of_le (Nat.add_lt_add hx hy) (by decide)
theorem addm_eq {f : Nat → Nat} (hf : ∀ i, f i < 2^64) (k c : Nat) (hc : c < 2^64) : addm (ones k) (mk (2^k)) (pack f (2^k)) c = pack (fun i => (f i + c) % 18446744073709551616) (2^k) := by
  show ((pack f (2^k) + ones k * c) &&& mk (2^k)) = _
  rw [ones_mul, pack_add, mk, pack_and (fun i => add_lt128 (hf i) hc) (fun _ => by decide)]
  exact pack_congr _ (fun i _ => m64 _)
theorem mod64 (x : Nat) : x % 18446744073709551616 < 2^64 := Nat.mod_lt _ (by decide)
theorem preV_eq {f : Nat → Nat} (hf : ∀ i, f i < 2^64) (n : Nat) : preV (mk n) (pack f n) = pack (fun i => preL (f i)) n := by
  rw [preV, xsh2_eq hf n 27 54 (by decide) (by decide), mulm_eq (fun i => Nat.xor_lt_two_pow (Nat.xor_lt_two_pow (hf i) (shr_lt (hf i) _)) (shr_lt (hf i) _)) n _ (by decide), xsh2_eq (fun i => mod64 _) n 30 60 (by decide) (by decide)]
  rfl
theorem preL_lt {u : Nat} : preL u < 2^64 := Nat.xor_lt_two_pow (Nat.xor_lt_two_pow (mod64 _) (shr_lt (mod64 _) _)) (shr_lt (mod64 _) _)
theorem postV_eq {f : Nat → Nat} (hf : ∀ i, f i < 2^64) (n : Nat) : postV (mk n) (pack f n) = pack (fun i => postL (f i)) n := by
  rw [postV, xsh1_eq hf n 30 (by decide), mulm_eq (fun i => Nat.xor_lt_two_pow (hf i) (shr_lt (hf i) _)) n _ (by decide), xsh1_eq (fun i => mod64 _) n 27 (by decide), mulm_eq (fun i => Nat.xor_lt_two_pow (mod64 _) (shr_lt (mod64 _) _)) n _ (by decide)]
  rfl
theorem postL_lt {s : Nat} : postL s < 2^64 := mod64 _
theorem hitV_eq {f : Nat → Nat} (hf : ∀ i, f i < 2^64) (k w : Nat) (hw : w < 2^64) : hitV (ones k) (mk (2^k)) (ones k * 18446744073709551616) w (pack f (2^k)) = pack (fun i => hitL w (f i)) (2^k) := by
  show ((postV (mk (2^k)) (pack f (2^k)) + ones k * w) &&& ones k * 18446744073709551616) = _
  rw [postV_eq hf, ones_mul, ones_mul, pack_add, pack_and (fun i => add_lt128 (postL_lt (s := f i)) hw) (fun _ => by decide)]
  rfl
/-- no lane is hit at the next sum and at the one behind it -/
def chkV (O M B w U : Nat) : Bool :=
  cond (Nat.beq (hitV O M B w (addm O M (preV M U) 11400714819323198485)) 0) true
    (Nat.beq (Nat.land (hitV O M B w (addm O M (preV M U) 11400714819323198485)) (hitV O M B w (addm O M (preV M U) 4354685564936845354))) 0)
theorem chkV_sound {f : Nat → Nat} (hf : ∀ i, f i < 2^64) {k w : Nat} (hw : w < 2^64) (h : chkV (ones k) (mk (2^k)) (ones k * 18446744073709551616) w (pack f (2^k)) = true) {i : Nat} (hi : i < 2^k) :
    ¬ (hitL w ((preL (f i) + 11400714819323198485) % 18446744073709551616) = 18446744073709551616 ∧ hitL w ((preL (f i) + 4354685564936845354) % 18446744073709551616) = 18446744073709551616) := by
  rintro ⟨h1, h2⟩
  rw [chkV, preV_eq hf, addm_eq (fun i => preL_lt) k _ (by decide), addm_eq (fun i => preL_lt) k _ (by decide), hitV_eq (fun i => mod64 _) k w hw, hitV_eq (fun i => mod64 _) k w hw] at h
  have hz : ∀ g : Nat → Nat, Nat.beq (pack g (2^k)) 0 = true → g i = 0 := fun g hg => pack_zero _ (Nat.eq_of_beq_eq_true hg) i hi
  cases hb : Nat.beq (pack (fun i => hitL w ((preL (f i) + 11400714819323198485) % 18446744073709551616)) (2^k)) 0 with
  | true =>
    have := hz _ hb
    rw [h1] at this
    exact absurd this (by decide)
  | false =>
    rw [hb] at h
    have h3 : Nat.beq (Nat.land (pack (fun i => hitL w ((preL (f i) + 11400714819323198485) % 18446744073709551616)) (2^k)) (pack (fun i => hitL w ((preL (f i) + 4354685564936845354) % 18446744073709551616)) (2^k))) 0 = true := h
    have hl : ∀ s, hitL w s < 2^128 := fun s => Nat.lt_of_le_of_lt Nat.and_le_right (by decide)
    have h4 := pack_and (f := fun i => hitL w ((preL (f i) + 11400714819323198485) % 18446744073709551616)) (g := fun i => hitL w ((preL (f i) + 4354685564936845354) % 18446744073709551616)) (fun i => hl _) (fun i => hl _) (2^k)
    have h5 : Nat.beq (pack (fun i => hitL w ((preL (f i) + 11400714819323198485) % 18446744073709551616) &&& hitL w ((preL (f i) + 4354685564936845354) % 18446744073709551616)) (2^k)) 0 = true := by
      rw [← h4]
      exact h3
    have := hz _ h5
    rw [h1, h2] at this
    exact absurd this (by decide)
end SeedFact
namespace SeedFact
def ok1 (a b k : Nat) : Bool := Nat.ble (Nat.add (Nat.mod (Nat.add (Nat.add (Nat.mul b 134217728) (Nat.mul k 11400714819323198485)) (Nat.mul (Nat.sub 32 (Nat.mod (Nat.add a (Nat.mul k 11400714819323198485)) 32)) 1073741824)) 34359738368) 134217728) 1073741824
def anyK (a b : Nat) : Nat → Bool
  | 0 => false
  | k+1 => or (anyK a b k) (ok1 a b (k+1))
def allB (a : Nat) : Nat → Bool
  | 0 => true
  | b+1 => and (allB a b) (anyK a b 49)
def allA : Nat → Bool
  | 0 => true
  | a+1 => and (allA a) (allB a 256)
theorem anyK_out {a b : Nat} : ∀ n, anyK a b n = true → ∃ k, 1 ≤ k ∧ k ≤ n ∧ ok1 a b k = true
  | 0, h => by simp [anyK] at h
  | n+1, h => by
    rw [anyK, Bool.or_eq_true] at h
    rcases h with h | h
    · obtain ⟨k, h1, h2, h3⟩ := anyK_out n h
      exact ⟨k, h1, by omega, h3⟩
    · exact ⟨n+1, by omega, by omega, h⟩
theorem allB_out {a : Nat} : ∀ n, allB a n = true → ∀ b, b < n → anyK a b 49 = true
  | 0, _, b, hb => absurd hb (by omega)
  | n+1, h, b, hb => by
    rw [allB, Bool.and_eq_true] at h
    by_cases e : b = n
    · rw [e]; exact h.2
    · exact allB_out n h.1 b (by omega)
theorem allA_out : ∀ n, allA n = true → ∀ a, a < n → allB a 256 = true
  | 0, _, a, ha => absurd ha (by omega)
  | n+1, h, a, ha => by
    rw [allA, Bool.and_eq_true] at h
    by_cases e : a = n
    · rw [e]; exact h.2
    · exact allA_out n h.1 a (by omega)
set_option maxRecDepth 100000 in
theorem allA_32 : allA 32 = true := by decide +kernel
theorem ok_aux {s b y z : Nat} (hb : b = s % 34359738368 / 134217728) (h : (b * 134217728 + y + z) % 34359738368 + 134217728 ≤ 1073741824) : (s + y + z) % 34359738368 < 1073741824 := by omega
theorem ok1_out {s a b k m : Nat} (ha : a = s % 32) (hb : b = s % 34359738368 / 134217728) (hm : m = (a + k * 11400714819323198485) % 32) (h : (b * 134217728 + k * 11400714819323198485 + (32 - m) * 1073741824) % 34359738368 + 134217728 ≤ 1073741824) :
    (s + k * 11400714819323198485) % 18446744073709551616 % 32 = m ∧ (s + k * 11400714819323198485) % 18446744073709551616 / 1073741824 % 32 = m := by
  have hk : ∃ y, y = k * 11400714819323198485 := ⟨_, rfl⟩
  obtain ⟨y, hy⟩ := hk
  rw [← hy] at hm h ⊢
  clear hy
  have h1 : m < 32 := by omega
  have h4 := ok_aux hb h
  have h2 : (s + y) % 34359738368 / 1073741824 = m := by
    clear hm ha hb h
    omega
  constructor
  · clear h h4 hb
    omega
  · clear h h4 hb hm ha
    omega
theorem some_zero (s : Nat) : ∃ k, 1 ≤ k ∧ k ≤ 49 ∧ (s + k * 11400714819323198485) % 18446744073709551616 % 32 = (s + k * 11400714819323198485) % 18446744073709551616 / 1073741824 % 32 := by
  obtain ⟨k, h1, h2, h3⟩ := anyK_out 49 (allB_out 256 (allA_out 32 allA_32 (s % 32) (by omega)) (s % 34359738368 / 134217728) (by omega))
  have h4 := Nat.le_of_ble_eq_true h3
  obtain ⟨h5, h6⟩ := ok1_out (s := s) (k := k) rfl rfl rfl h4
  exact ⟨k, h1, h2, by rw [h5, h6]⟩

theorem xs27 {x : Nat} (hx : x < 2^64) : ((x ^^^ (x >>> 27)) ^^^ ((x ^^^ (x >>> 27)) >>> 27)) ^^^ ((x ^^^ (x >>> 27)) >>> 54) = x := by
  apply Nat.eq_of_testBit_eq
  intro b
  have h : x.testBit (27 + (54 + b)) = false := Nat.testBit_lt_two_pow (Nat.lt_of_lt_of_le hx (Nat.pow_le_pow_right (by omega) (by omega)))
  simp only [Nat.testBit_xor, Nat.testBit_shiftRight, h, show 27 + (27 + b) = 54 + b by omega]
  cases x.testBit b <;> cases x.testBit (27 + b) <;> cases x.testBit (54 + b) <;> rfl
theorem xs30 {x : Nat} (hx : x < 2^64) : ((x ^^^ (x >>> 30)) ^^^ ((x ^^^ (x >>> 30)) >>> 30)) ^^^ ((x ^^^ (x >>> 30)) >>> 60) = x := by
  apply Nat.eq_of_testBit_eq
  intro b
  have h : x.testBit (30 + (60 + b)) = false := Nat.testBit_lt_two_pow (Nat.lt_of_lt_of_le hx (Nat.pow_le_pow_right (by omega) (by omega)))
  simp only [Nat.testBit_xor, Nat.testBit_shiftRight, h, show 30 + (30 + b) = 60 + b by omega]
  cases x.testBit b <;> cases x.testBit (30 + b) <;> cases x.testBit (60 + b) <;> rfl
theorem inv_a {y r t : Nat} (hy : y < 18446744073709551616) (h : 18446744073709551616 * t + r = y * 13787848793156543929) : r * 10871156337175269513 % 18446744073709551616 = y := by omega
theorem inv_m1 (y : Nat) (hy : y < 18446744073709551616) : y * 13787848793156543929 % 18446744073709551616 * 10871156337175269513 % 18446744073709551616 = y :=
  inv_a hy (Nat.div_add_mod _ _)
theorem inv_b {u v t : Nat} (hu : u < 18446744073709551616) (hv : v < 18446744073709551616) (h : 18446744073709551616 * t + v = u * 10723151780598845931) : u = 14873627383544574269 * (18446744073709551616 - v) % 18446744073709551616 := by omega
theorem inv_m2 (u v : Nat) (hu : u < 18446744073709551616) (hv : v = u * 10723151780598845931 % 18446744073709551616) : u = 14873627383544574269 * (18446744073709551616 - v) % 18446744073709551616 := by
  rw [hv]
  exact inv_b hu (Nat.mod_lt _ (by decide)) (Nat.div_add_mod _ _)
/-- the number behind the second mixing step's shift -/
def uOf (s : Nat) : Nat := mixS s ^^^ (mixS s >>> 27)
theorem uOf_lt (s : Nat) : uOf s < 18446744073709551616 := Nat.xor_lt_two_pow (n := 64) (mod64 _) (shr_lt (mod64 _) _)
theorem preL_uOf {s : Nat} (hs : s < 2^64) : preL (uOf s) = s := by
  have hx : mixS s < 2^64 := mod64 _
  have h1 := xs27 hx
  have h2 : ((uOf s ^^^ (uOf s >>> 27)) ^^^ (uOf s >>> 54)) = mixS s := h1
  have hy : s ^^^ (s >>> 30) < 2^64 := Nat.xor_lt_two_pow hs (shr_lt hs _)
  rw [preL, h2, mixS, inv_m1 _ hy]
  exact xs30 hs
theorem uOf_window (s : Nat) : uOf s = 14873627383544574269 * (18446744073709551616 - postL s) % 18446744073709551616 := inv_m2 _ _ (uOf_lt s) rfl
theorem mod32_xor (x y : Nat) : (x ^^^ y) % 32 = Nat.xor (x % 32) (y % 32) := Nat.xor_mod_two_pow (n := 5)
theorem uOf_fields {s : Nat} (h : s % 32 = s / 1073741824 % 32) : uOf s % 32 = Nat.xor (uOf s / 134217728 % 32) (uOf s / 18014398509481984 % 32) := by
  have hx : mixS s < 2^64 := mod64 _
  have h1 : ((uOf s ^^^ (uOf s >>> 27)) ^^^ (uOf s >>> 54)) = mixS s := xs27 hx
  have h0 : (s ^^^ (s >>> 30)) % 32 = 0 := by
    rw [mod32_xor, Nat.shiftRight_eq_div_pow, show 2^30 = 1073741824 from rfl, ← h]
    exact Nat.xor_self _
  have h2 : mixS s % 32 = 0 := by
    rw [mixS]
    omega
  rw [← h1, mod32_xor, mod32_xor, Nat.shiftRight_eq_div_pow, Nat.shiftRight_eq_div_pow, show 2^27 = 134217728 from rfl, show 2^54 = 18014398509481984 from rfl] at h2
  generalize uOf s % 32 = a at *
  generalize uOf s / 134217728 % 32 = b at *
  generalize uOf s / 18014398509481984 % 32 = c at *
  have h3 : (a ^^^ b) ^^^ c = 0 := h2
  show a = b ^^^ c
  apply Nat.eq_of_testBit_eq
  intro i
  have h4 := congrArg (Nat.testBit · i) h3
  simp only [Nat.testBit_xor, Nat.zero_testBit] at h4
  rw [Nat.testBit_xor]
  revert h4
  cases a.testBit i <;> cases b.testBit i <;> cases c.testBit i <;> simp
/-- the word of a sum -/
def wordS (s : Nat) : Nat := (postL s ^^^ (postL s >>> 31)) / 4294967296
theorem wordS_high {s r : Nat} (hr : r < 2147483648) (h : 4294967296 - 2 * r ≤ wordS s) : 18446744073709551616 ≤ postL s + 2 * r * 4294967296 := by
  have hv : postL s < 2^64 := postL_lt
  have h1 : (postL s ^^^ (postL s >>> 31)) / 8589934592 = postL s / 8589934592 := by
    have h2 : (postL s ^^^ (postL s >>> 31)) >>> 33 = postL s >>> 33 := by
      rw [Nat.shiftRight_xor_distrib, ← Nat.shiftRight_add]
      rw [show postL s >>> (31 + 33) = 0 by rw [Nat.shiftRight_eq_div_pow]; exact Nat.div_eq_of_lt hv, Nat.xor_zero]
    rw [Nat.shiftRight_eq_div_pow _ 33, Nat.shiftRight_eq_div_pow _ 33] at h2
    exact h2
  rw [wordS] at h
  generalize postL s ^^^ (postL s >>> 31) = T at *
  generalize postL s = v at *
  have : v < 18446744073709551616 := hv
  omega
theorem hitL_of {n s : Nat} (hn : n < 2^64) (h : 18446744073709551616 ≤ postL s + n) : hitL n s = 18446744073709551616 := by
  have hv : postL s < 2^64 := postL_lt
  have hb : (postL s + n).testBit 64 = true := by
    rw [Nat.testBit_eq_decide_div_mod_eq]
    have h1 : postL s + n < 36893488147419103232 := Nat.lt_of_lt_of_le (Nat.add_lt_add hv hn) (by decide)
    have h2 : (postL s + n) / 2^64 % 2 = 1 := by
      generalize postL s + n = x at *
      omega
    rw [h2]
    rfl
  show (postL s + n) &&& 2^64 = 2^64
  apply Nat.eq_of_testBit_eq
  intro j
  rw [Nat.testBit_and, Nat.testBit_two_pow]
  by_cases e : 64 = j
  · subst e
    rw [hb]
    rfl
  · simp [e]
end SeedFact
namespace SeedFact
/-- the sum of the first n bits -/
def par : Nat → Nat → Bool
  | 0, _ => false
  | n+1, x => xor (par n x) (x.testBit n)
theorem par_xor (x y : Nat) : ∀ n, par n (x ^^^ y) = xor (par n x) (par n y)
  | 0 => rfl
  | n+1 => by
    rw [par, par, par, par_xor x y n, Nat.testBit_xor]
    cases par n x <;> cases par n y <;> cases x.testBit n <;> cases y.testBit n <;> rfl
theorem par_zero : ∀ n, par n 0 = false
  | 0 => rfl
  | n+1 => by rw [par, par_zero n, Nat.zero_testBit]; rfl
theorem par_one {x k : Nat} (hk : ∀ i, x.testBit i = decide (i = k)) : ∀ n, par n x = decide (k < n)
  | 0 => by simp [par]
  | n+1 => by
    rw [par, par_one hk n, hk n]
    by_cases h1 : k < n
    · simp [h1, show ¬ n = k by omega, show k < n + 1 by omega]
    · by_cases h2 : n = k
      · simp [h2]
      · simp [h1, h2, show ¬ k < n + 1 by omega]
/-- what a choice of bits of a state adds up to -/
def fm (m s : Nat) : Bool := par 128 (m &&& s)
theorem fm_xor (a b s : Nat) : fm (a ^^^ b) s = xor (fm a s) (fm b s) := by
  rw [fm, Nat.and_xor_distrib_right, par_xor]
  rfl
theorem fm_zero (s : Nat) : fm 0 s = false := by rw [fm, Nat.zero_and, par_zero]
theorem fm_bit (k s : Nat) (hk : k < 128) : fm (2^k) s = s.testBit k := by
  rw [fm]
  cases h : s.testBit k with
  | true =>
    rw [par_one (k := k), decide_eq_true hk]
    intro i
    rw [Nat.testBit_and, Nat.testBit_two_pow]
    by_cases e : k = i
    · subst e; simp [h]
    · simp [e, show ¬ i = k from fun h => e h.symm]
  | false =>
    have : 2^k &&& s = 0 := by
      apply Nat.eq_of_testBit_eq
      intro i
      rw [Nat.testBit_and, Nat.testBit_two_pow, Nat.zero_testBit]
      by_cases e : k = i
      · subst e; simp [h]
      · simp [e]
    rw [this, par_zero]
/-- an equation: a choice of bits, and in the lowest place what it adds up to -/
def eqOk (s e : Nat) : Prop := fm (e >>> 1) s = e.testBit 0
theorem eqOk_xor {s a b : Nat} (ha : eqOk s a) (hb : eqOk s b) : eqOk s (a ^^^ b) := by
  rw [eqOk, Nat.shiftRight_xor_distrib, fm_xor, ha, hb, Nat.testBit_xor]
theorem eqOk_zero (s : Nat) : eqOk s 0 := by rw [eqOk, Nat.zero_shiftRight, fm_zero]; rfl
theorem not_one (s : Nat) : ¬ eqOk s 1 := by
  intro h
  rw [eqOk, show 1 >>> 1 = 0 from rfl, fm_zero] at h
  exact absurd h (by decide)
/-- the sum of chosen equations -/
def sel : Nat → List Nat → Nat
  | _, [] => 0
  | c, e :: es => Nat.xor (sel (Nat.div c 2) es) (cond (Nat.beq (Nat.mod c 2) 1) e 0)
theorem sel_ok {s : Nat} : ∀ (c : Nat) (es : List Nat), (∀ e ∈ es, eqOk s e) → eqOk s (sel c es)
  | _, [], _ => eqOk_zero s
  | c, e :: es, h => by
    have h1 := sel_ok (c / 2) es (fun x hx => h x (List.mem_cons_of_mem _ hx))
    refine eqOk_xor h1 ?_
    cases Nat.beq (Nat.mod c 2) 1 with
    | true => exact h e List.mem_cons_self
    | false => exact eqOk_zero s
/-- bits of a number as choices of bits of the state -/
def Rep (s : Nat) (l : List Nat) (n : Nat) : Prop := l.length = 64 ∧ ∀ i, i < 64 → fm (l.getD i 0) s = n.testBit i
def xorL (a b : List Nat) : List Nat := List.zipWith Nat.xor a b
def rotL (k : Nat) (a : List Nat) : List Nat := a.drop k ++ a.take k
def shL (a : List Nat) : List Nat := List.replicate 16 0 ++ a.take 48
theorem Rep.xor {s n m : Nat} {a b : List Nat} (ha : Rep s a n) (hb : Rep s b m) : Rep s (xorL a b) (n ^^^ m) := by
  refine ⟨by simp [xorL, ha.1, hb.1], fun i hi => ?_⟩
  have h1 := ha.2 i hi
  have h2 := hb.2 i hi
  have e1 : a[i]? = some (a.getD i 0) := by rw [List.getD_eq_getElem?_getD, List.getElem?_eq_getElem (by rw [ha.1]; exact hi)]; rfl
  have e2 : b[i]? = some (b.getD i 0) := by rw [List.getD_eq_getElem?_getD, List.getElem?_eq_getElem (by rw [hb.1]; exact hi)]; rfl
  have e3 : (xorL a b).getD i 0 = (a.getD i 0) ^^^ (b.getD i 0) := by
    rw [List.getD_eq_getElem?_getD, xorL, List.getElem?_zipWith, e1, e2]
    rfl
  rw [e3, fm_xor, h1, h2, Nat.testBit_xor]
theorem Rep.rot {s n m k : Nat} {a : List Nat} (hk : k < 64) (ha : Rep s a n) (hm : ∀ i, i < 64 → m.testBit i = n.testBit ((i + k) % 64)) : Rep s (rotL k a) m := by
  refine ⟨by simp [rotL, ha.1]; omega, fun i hi => ?_⟩
  have e : (rotL k a).getD i 0 = a.getD ((i + k) % 64) 0 := by
    rw [List.getD_eq_getElem?_getD, List.getD_eq_getElem?_getD, rotL]
    congr 1
    by_cases h : i < 64 - k
    · rw [List.getElem?_append_left (by simp [ha.1]; omega), List.getElem?_drop, show (i + k) % 64 = k + i by omega]
    · rw [List.getElem?_append_right (by simp [ha.1]; omega), List.length_drop, ha.1, List.getElem?_take_of_lt (by omega), show (i + k) % 64 = i - (64 - k) by omega]
  rw [e, ha.2 _ (Nat.mod_lt _ (by omega)), hm i hi]
theorem Rep.sh {s n m : Nat} {a : List Nat} (ha : Rep s a n) (hm : ∀ i, i < 64 → m.testBit i = (decide (16 ≤ i) && n.testBit (i - 16))) : Rep s (shL a) m := by
  refine ⟨by simp [shL, ha.1], fun i hi => ?_⟩
  rw [hm i hi]
  by_cases h : 16 ≤ i
  · have e : (shL a).getD i 0 = a.getD (i - 16) 0 := by
      rw [List.getD_eq_getElem?_getD, List.getD_eq_getElem?_getD, shL]
      congr 1
      rw [List.getElem?_append_right (by simp; omega), List.length_replicate, List.getElem?_take_of_lt (by omega)]
    rw [e, ha.2 _ (by omega)]
    simp [h]
  · have e : (shL a).getD i 0 = 0 := by
      rw [List.getD_eq_getElem?_getD, shL, List.getElem?_append_left (by simp; omega), List.getElem?_replicate, if_pos (by omega)]
      rfl
    rw [e, fm_zero]
    simp [h]
def nextA (a b : List Nat) : List Nat := xorL (xorL (rotL 40 a) (xorL b a)) (shL (xorL b a))
def nextB (a b : List Nat) : List Nat := rotL 27 (xorL b a)
/-- the numbers behind a word -/
def pA (a b : Nat) : Nat := ((a * 16777216 % 18446744073709551616 ||| a / 1099511627776) ^^^ (b ^^^ a)) ^^^ ((b ^^^ a) * 65536 % 18446744073709551616)
def pB (a b : Nat) : Nat := (b ^^^ a) * 137438953472 % 18446744073709551616 ||| (b ^^^ a) / 134217728
theorem tb_mulmod (x k i : Nat) (hi : i < 64) : (x * 2^k % 18446744073709551616).testBit i = (decide (k ≤ i) && x.testBit (i - k)) := by
  rw [show 18446744073709551616 = 2^64 from rfl, Nat.testBit_mod_two_pow, ← Nat.shiftLeft_eq, Nat.testBit_shiftLeft]
  simp [hi]
theorem tb_div (x k i : Nat) : (x / 2^k).testBit i = x.testBit (k + i) := by rw [← Nat.shiftRight_eq_div_pow, Nat.testBit_shiftRight]
theorem rep_rot {x k i : Nat} (hx : x < 2^64) (hk : k ≤ 64) (hi : i < 64) : (x * 2^k % 18446744073709551616 ||| x / 2^(64-k)).testBit i = x.testBit ((i + (64 - k)) % 64) := by
  rw [Nat.testBit_or, tb_mulmod x k i hi, tb_div]
  by_cases h : k ≤ i
  · have : x.testBit (64 - k + i) = false := Nat.testBit_lt_two_pow (Nat.lt_of_lt_of_le hx (Nat.pow_le_pow_right (by omega) (by omega)))
    rw [this, show (i + (64 - k)) % 64 = i - k by omega]
    simp [h]
  · rw [show (i + (64 - k)) % 64 = 64 - k + i by omega]
    simp [h]
theorem Rep.nextA {s a b : Nat} {l r : List Nat} (ha : Rep s l a) (hb : Rep s r b) (hA : a < 2^64) : Rep s (SeedFact.nextA l r) (pA a b) :=
  ((ha.rot (k := 40) (by decide) (fun i hi => rep_rot (k := 24) hA (by decide) hi)).xor (hb.xor ha)).xor ((hb.xor ha).sh (fun i hi => tb_mulmod _ 16 i hi))
theorem Rep.nextB {s a b : Nat} {l r : List Nat} (ha : Rep s l a) (hb : Rep s r b) (hA : a < 2^64) (hB : b < 2^64) : Rep s (SeedFact.nextB l r) (pB a b) :=
  (hb.xor ha).rot (k := 27) (by decide) (fun i hi => rep_rot (k := 37) (Nat.xor_lt_two_pow hB hA) (by decide) hi)
theorem pA_lt (a b : Nat) (hA : a < 2^64) (hB : b < 2^64) : pA a b < 2^64 :=
  Nat.xor_lt_two_pow (Nat.xor_lt_two_pow (Nat.or_lt_two_pow (Nat.mod_lt _ (by decide)) (Nat.lt_of_le_of_lt (Nat.div_le_self _ _) hA)) (Nat.xor_lt_two_pow hB hA)) (Nat.mod_lt _ (by decide))
theorem pB_lt (a b : Nat) (hA : a < 2^64) (hB : b < 2^64) : pB a b < 2^64 :=
  Nat.or_lt_two_pow (Nat.mod_lt _ (by decide)) (Nat.lt_of_le_of_lt (Nat.div_le_self _ _) (Nat.xor_lt_two_pow hB hA))
/-- a word among the top ones -/
def top (a b : Nat) : Prop := 18446743798831644672 ≤ (a + b) % 18446744073709551616
theorem top_ways {a b : Nat} (hA : a < 18446744073709551616) (hB : b < 18446744073709551616) (h : top a b) :
    a / 2251799813685248 + b / 2251799813685248 = 8191 ∨ (a % 2251799813685248 / 274877906944 = 8191 ∧ b % 2251799813685248 / 274877906944 = 8191) := by
  rw [top] at h
  omega
def goodL (a b : List Nat) : List Nat := (xorL (a.drop 51) (b.drop 51)).map (fun m => Nat.add (Nat.mul m 2) 1)
def badL (a b : List Nat) : List Nat := ((a.drop 38).take 13 ++ (b.drop 38).take 13).map (fun m => Nat.add (Nat.mul m 2) 1)
theorem eqOk_of {s m : Nat} (h : fm m s = true) : eqOk s (m * 2 + 1) := by
  rw [eqOk, show (m * 2 + 1) >>> 1 = m by rw [Nat.shiftRight_eq_div_pow]; omega, h, Nat.testBit_zero]
  simp
theorem ones13 {x i : Nat} (h : x = 8191) (hi : i < 13) : x.testBit i = true := by
  rw [h, show 8191 = 2^13 - 1 from rfl, Nat.testBit_two_pow_sub_one]
  simp [hi]
theorem good_ok {s a b : Nat} {l r : List Nat} (ha : Rep s l a) (hb : Rep s r b) (hA : a < 18446744073709551616) (_hB : b < 18446744073709551616) (h : a / 2251799813685248 + b / 2251799813685248 = 8191) : ∀ e ∈ goodL l r, eqOk s e := by
  intro e he
  obtain ⟨m, hm, rfl⟩ := List.mem_map.mp he
  obtain ⟨i, hi, rfl⟩ := List.getElem_of_mem hm
  have hlen : i < 13 := by
    simp [xorL, ha.1, hb.1] at hi
    omega
  refine eqOk_of ?_
  have hx := (ha.xor hb).2 (51 + i) (by omega)
  have e1 : (xorL (l.drop 51) (r.drop 51))[i] = (xorL l r).getD (51 + i) 0 := by
    have h1 : (xorL (l.drop 51) (r.drop 51))[i]? = (xorL l r)[51 + i]? := by
      rw [xorL, xorL, List.getElem?_zipWith, List.getElem?_zipWith, List.getElem?_drop, List.getElem?_drop]
    rw [List.getD_eq_getElem?_getD, ← h1, List.getElem?_eq_getElem hi]
    rfl
  rw [e1, hx]
  have hc : b / 2251799813685248 = 8191 - a / 2251799813685248 := by omega
  have h2 : (a ^^^ b).testBit (51 + i) = ((a / 2^51) ^^^ (b / 2^51)).testBit i := by
    rw [Nat.testBit_xor, Nat.testBit_xor, tb_div, tb_div]
  rw [h2]
  have h3 : (a / 2^51) ^^^ (b / 2^51) = 8191 := by
    have hb2 : b / 2^51 = 2^13 - (a / 2^51 + 1) := by
      show b / 2251799813685248 = 8192 - (a / 2251799813685248 + 1)
      omega
    rw [hb2]
    apply Nat.eq_of_testBit_eq
    intro j
    rw [Nat.testBit_xor, Nat.testBit_two_pow_sub_succ (by show a / 2251799813685248 < 8192; omega), show 8191 = 2^13 - 1 from rfl, Nat.testBit_two_pow_sub_one]
    by_cases hj : j < 13
    · simp [hj]
    · have : (a / 2^51).testBit j = false := Nat.testBit_lt_two_pow (Nat.lt_of_lt_of_le (show a / 2^51 < 2^13 by show a / 2251799813685248 < 8192; omega) (Nat.pow_le_pow_right (by omega) (by omega)))
      simp [hj, this]
  exact ones13 h3 hlen
theorem bad_one {s a : Nat} {l : List Nat} (ha : Rep s l a) (h : a % 2251799813685248 / 274877906944 = 8191) : ∀ m ∈ (l.drop 38).take 13, fm m s = true := by
  intro m hm
  obtain ⟨i, hi, rfl⟩ := List.getElem_of_mem hm
  have hlen : i < 13 := by
    simp [ha.1] at hi
    exact hi
  have e1 : ((l.drop 38).take 13)[i] = l.getD (38 + i) 0 := by
    have h1 : ((l.drop 38).take 13)[i]? = l[38 + i]? := by rw [List.getElem?_take_of_lt hlen, List.getElem?_drop]
    rw [List.getD_eq_getElem?_getD, ← h1, List.getElem?_eq_getElem hi]
    rfl
  rw [e1, ha.2 _ (by omega)]
  have h2 : (a % 2^51 / 2^38).testBit i = a.testBit (38 + i) := by
    rw [tb_div, Nat.testBit_mod_two_pow]
    simp [show 38 + i < 51 by omega]
  rw [← h2]
  exact ones13 h hlen
theorem bad_ok {s a b : Nat} {l r : List Nat} (ha : Rep s l a) (hb : Rep s r b) (h : a % 2251799813685248 / 274877906944 = 8191) (h2 : b % 2251799813685248 / 274877906944 = 8191) : ∀ e ∈ badL l r, eqOk s e := by
  intro e he
  obtain ⟨m, hm, rfl⟩ := List.mem_map.mp he
  refine eqOk_of ?_
  rcases List.mem_append.mp hm with hm | hm
  · exact bad_one ha h m hm
  · exact bad_one hb h2 m hm
/-- what is left to be shown: bits of both numbers, the equations, and how many words are left -/
def Case : Type := List Nat × List Nat × List Nat × Nat
/-- cases one after another: 0 parts the first case, c + 1 ends it by the sum of the chosen equations -/
def check : List Nat → List Case → Bool
  | [], st => st.isEmpty
  | _ :: _, [] => false
  | 0 :: _, (_, _, _, 0) :: _ => false
  | 0 :: ts, (u, v, es, f+1) :: st => check ts ((nextA u v, nextB u v, es ++ goodL u v, f) :: (nextA u v, nextB u v, es ++ badL u v, f) :: st)
  | (c+1) :: ts, (_, _, es, _) :: st => and (Nat.beq (sel c es) 1) (check ts st)
/-- a step done so often -/
def iter {α : Type} (f : α → α) : Nat → α → α
  | 0, x => x
  | k+1, x => iter f k (f x)
theorem iter_zero {α : Type} (f : α → α) (x : α) : iter f 0 x = x := rfl
theorem iter_succ {α : Type} (f : α → α) (k : Nat) (x : α) : iter f (k+1) x = iter f k (f x) := rfl
/-- the numbers of a pair behind a word -/
def stP (x : Nat × Nat) : Nat × Nat := (pA x.1 x.2, pB x.1 x.2)
theorem stP_mk (a b : Nat) : stP (a, b) = (pA a b, pB a b) := rfl
/-- no state is as a case says -/
def Shut (x : Case) : Prop := ∀ (s a b : Nat), Rep s x.1 a → Rep s x.2.1 b → a < 18446744073709551616 → b < 18446744073709551616 → (∀ e ∈ x.2.2.1, eqOk s e) → ¬ ∀ k, k < x.2.2.2 → top (iter stP k (a, b)).1 (iter stP k (a, b)).2
theorem Shut.part {u v es : List Nat} {f : Nat} (hg : Shut (nextA u v, nextB u v, es ++ goodL u v, f)) (hb : Shut (nextA u v, nextB u v, es ++ badL u v, f)) : Shut (u, v, es, f+1) := by
  intro s a b ha hb' hA hB hes hall
  have h0 := hall 0 (Nat.succ_pos _)
  rw [iter_zero] at h0
  have hnext : ∀ k, k < f → top (iter stP k (pA a b, pB a b)).1 (iter stP k (pA a b, pB a b)).2 := by
    intro k hk
    have h1 := hall (k+1) (Nat.succ_lt_succ hk)
    rw [iter_succ, stP_mk] at h1
    exact h1
  rcases top_ways hA hB h0 with hw | ⟨hw, hw2⟩
  · refine hg s _ _ (ha.nextA hb' hA) (ha.nextB hb' hA hB) (pA_lt a b hA hB) (pB_lt a b hA hB) ?_ hnext
    intro e he
    rcases List.mem_append.mp he with he | he
    · exact hes e he
    · exact good_ok ha hb' hA hB hw e he
  · refine hb s _ _ (ha.nextA hb' hA) (ha.nextB hb' hA hB) (pA_lt a b hA hB) (pB_lt a b hA hB) ?_ hnext
    intro e he
    rcases List.mem_append.mp he with he | he
    · exact hes e he
    · exact bad_ok ha hb' hw hw2 e he
theorem Shut.leaf {u v es : List Nat} {f c : Nat} (h : Nat.beq (sel c es) 1 = true) : Shut (u, v, es, f) := by
  intro s a b _ _ _ _ hes _
  have h1 := sel_ok c es hes
  rw [Nat.eq_of_beq_eq_true h] at h1
  exact not_one s h1
theorem check_out : ∀ (ts : List Nat) (st : List Case), check ts st = true → ∀ x ∈ st, Shut x
  | [], [], _, x, hx => absurd hx List.not_mem_nil
  | [], _ :: _, h, x, hx => by cases h
  | _ :: _, [], h, x, hx => by cases h
  | 0 :: _, (_, _, _, 0) :: _, h, x, hx => by cases h
  | 0 :: ts, (u, v, es, f+1) :: st, h, x, hx => by
    rw [check] at h
    have h1 := check_out ts _ h
    rcases List.mem_cons.mp hx with rfl | hx
    · exact Shut.part (h1 _ List.mem_cons_self) (h1 _ (List.mem_cons_of_mem _ List.mem_cons_self))
    · exact h1 x (List.mem_cons_of_mem _ (List.mem_cons_of_mem _ hx))
  | (c+1) :: ts, (u, v, es, f) :: st, h, x, hx => by
    rw [check, Bool.and_eq_true] at h
    rcases List.mem_cons.mp hx with rfl | hx
    · exact Shut.leaf h.1
    · exact check_out ts st h.2 x hx
def m0 : List Nat := (List.range 64).map (fun i => Nat.pow 2 i)
def m1 : List Nat := (List.range 64).map (fun i => Nat.pow 2 (Nat.add 64 i))
theorem rep0 {a b : Nat} (ha : a < 2^64) : Rep (b * 2^64 + a) m0 a := by
  refine ⟨by simp [m0], fun i hi => ?_⟩
  have e : m0.getD i 0 = 2^i := by
    rw [List.getD_eq_getElem?_getD, m0, List.getElem?_map, List.getElem?_range hi]
    rfl
  rw [e, fm_bit _ _ (by omega), Nat.mul_comm, Nat.testBit_two_pow_mul_add _ ha]
  simp [hi]
theorem rep1 {a b : Nat} (ha : a < 2^64) : Rep (b * 2^64 + a) m1 b := by
  refine ⟨by simp [m1], fun i hi => ?_⟩
  have e : m1.getD i 0 = 2^(64 + i) := by
    rw [List.getD_eq_getElem?_getD, m1, List.getElem?_map, List.getElem?_range hi]
    rfl
  rw [e, fm_bit _ _ (by omega), Nat.mul_comm, Nat.testBit_two_pow_mul_add _ ha, if_neg (by omega), show 64 + i - 64 = i by omega]
def tree : List Nat := [0, 0, 0, 0, 0, 0, 0, 0, 0, 0, 0, 1374643670202562049132684440611470713479, 1625457623559923883092177264419333368016, 113552768198431716644004287931363048351, 10886723431624210944379934144356468805, 0, 685220829790412077600886958273471766250, 69588259744091944099342113056023678885, 0, 0, 227410602781519140906278046712207454932, 2997581197825540851950068626962034811991, 727826379139538879835397657853020031369, 0, 0, 0, 593072988993334853117886785225491010967, 5466735914832639059012863477165988231134, 171066999593600185401959935242293653428, 0, 0, 1460107984711054531614149457798179736154, 5520987048507690982909160749334179319962, 195968801258368901616456833995781154452, 0, 0, 0, 0, 310488981158759721351052834554938432702, 1248984854672441825281401767778291976281, 0, 2941130875596947006899249176182826942609, 1551251114486627952157349591201965307372, 0, 0, 21953165175368896453351371221386040623247, 1627628717083942087518448603111049698903, 5457301030549061155141579389734688349812, 0, 0, 619486069262360862593568535758593472891, 74963677334351125316108844344859449425, 631682766443507855879130878863671576984, 0, 0, 0, 0, 0, 479894210404577198551792087329694661088, 392749936709719577595103777953022833002, 606697856851011098481596136645151297454, 0, 0, 1582650977158774854263298937111858262967, 1579783073176535740295339168360150771184, 654918962591318357006247966535448521, 0, 0, 1209038308835236399815449601761349904772, 145509505777149949475176324435412681608, 312490519761219255746198152502330283709, 0, 0, 0, 0, 46381883983543069351617468034342666966788, 6946895215546538555913785075441794287991, 3019250903911024633568468404479578679837, 79049844830270108113105503848397668592, 0, 131120891714465173917342048928438294514, 261479260042330598511619200877060279522, 0, 0, 0, 0, 0, 0, 733088675449425881883050310269473958885, 782459694280957199951818256344167247074, 242710924589930149818082121762010510739, 0, 1172100457035937988410308439296387417467, 331307185330489824454373405258515847271, 0, 0, 474211269105025298653340788710233345301, 342729303332175334280951828255904239047, 1217920287818090048867735932358678747436, 0, 0, 0, 217795031643988649659098569357045853655, 827429531453714503446577045020174955775, 0, 1691234734437741622181865954638992063022, 5756011336064194944454131341669572187411, 0, 0, 1549790875740009573225493908023891808118, 2904899454013424805134934068841162312841, 210109511686912125244813105530030178657, 0, 0, 0, 0, 11910096979574862872255807131710944148, 1006103929122153747745900273661726447680, 401416056751853070122051966825328681314, 0, 191708778123369425902338828691465422600, 310730968462955827360776359094065806683, 0, 0, 592427416370512555333589197318124630335, 1046825910724484018389089631937808231281, 0, 2086417159771142523102662680362025184000, 1611093124571341853668382833121134210810, 0, 0, 0, 0, 0, 0, 0, 17904984339171508721414101523655737141, 1466814093277012596815721149715335084399, 247378036803267092083370133210485186197, 0, 48044424046409774318383069409072558421, 134389311172522493899157676480114612157, 0, 0, 576666472125126306126146789766674664088, 529713311412467417206341029310804689551, 215105088844184238826698110863710265027, 0, 0, 0, 231551596672999461554012162962100337111, 87325250125478724975700012325480295050803, 62609950338120970254320136112795576006, 0, 76318767739180487696785071653852772414, 65275933673056708354025001215718239030, 0, 0, 0, 0, 72101015791653781682556445103240479496, 149979748742723090291336732937867367445, 690055806017819602267719685322680849702, 0, 0, 5683044608326128881109110567719177585701, 2238859286938175746740898852087544392861, 537805645181173104295742432510331497330, 0, 0, 407662356798133068872073091347329179106, 748085417374645823142189139304903045644, 44073834183612213130529400057659013876, 0, 0, 0, 0, 0, 92651321296961642250145357133126917607, 176158112551209514263432572182002717551, 0, 2099064150981824192166436328549045119364, 3427839159259183088920193834854562486618, 0, 376996704662680781710629517716891569739, 1111240005226431297818196080790895803297, 0, 0, 260844348486759376462369524333476133844, 1519370793503294635325712454046066810355, 259059510778705463549889476115659657220, 0, 0, 0, 73782787362097556858043039593365660108, 775213758563810840190352067692553029882, 27913718458940266481837109770839710913, 0, 273685202679901328722125750645155587520, 11098093393514538128267835976424570917, 0, 0, 0, 0, 0, 0, 0, 0, 166948768833781168603699196227904794508, 151268991323650265744097108669175751992, 144500808326282621499299269319187221216, 0, 25304368546437268765445249460926880516, 561905893495130130672751501522487743378, 0, 0, 919342640086668853829372228093754201348, 4236926066036262493546751534058022811638, 266507473968658575550670253751035891049, 0, 0, 0, 111435717693764587996224051709864443309, 150129811107244701091745510523572055447, 127159019552663549520845868719134768296, 0, 139868489797127881784737957103146760218, 48433796018425101478536415901258882651, 0, 0, 0, 0, 187801976359398228006607904048587474367, 41563272327226733182768316559941675025, 0, 5570422879059389347934807498123752197357, 1813155676959990006518000545680352741242, 0, 109731991641251380932178561607917845069, 28885409118992722540848409438148119045, 0, 0, 319116470347324713712434949785119711128, 784364368231180069608445678653677132348, 745265817938335511552566353651713094431, 0, 0, 0, 0, 0, 54081238309189272010515042216475131172, 2763723182607063475815365814373218916017, 0, 1512316989244068503063982245511371210150, 1478717175437854822823573006662824389218, 0, 97072268551084974960918587879990503747, 1408169531222453027159125608061690263066, 0, 0, 69001226179341608677726706300772120981, 615493601721282803549603753424867733183, 29862844136634810386326507877097177291, 0, 0, 0, 405226362333325663960439738058900429023, 5797439795508058290804724828906719826502, 50984258511090983161401188554381851575, 0, 275895221624642366955990707564763597062, 680659493300421387934652369896596341761, 0, 0, 0, 0, 0, 0, 284783704595658297020371440829648434959, 960599719834519619384409105190768557853, 1208183733547911130028900447111008323081, 0, 1097430865673084002121224951170372836010, 297349994804144437037483106132293926410, 0, 0, 334837132724835143668881398825149865652, 568639749783890413995082910908562374463, 782219724276935030478084845207399174807, 0, 0, 0, 195094257684675682041910183793061007115, 5634330494688116687551435032018516355096, 1269360381363269666361537351159795118538, 0, 705577921538833419917854604373447973827, 42988316531560743717215079926377454071, 0, 0, 0, 0, 95680512493698375039322767707723868540, 84666896806925422385957047791126101316, 405056859463784150531348331970336417725, 0, 98636678854816776332535053233549572173, 212031669542398795082339787509541374795, 0, 0, 3001194390785393239339120707982344707, 1537087833988623003476263699141364233, 6687683444359567662430262690448935499]
set_option maxRecDepth 100000 in
theorem tree_ok : check tree [(m0, m1, [], 11)] = true := by decide +kernel
/-- no 11 words of a pair in a row are among the top ones -/
theorem pair_run {a b : Nat} (ha : a < 2^64) (hb : b < 2^64) : ¬ ∀ k, k < 11 → top (iter stP k (a, b)).1 (iter stP k (a, b)).2 := by
  exact check_out tree _ tree_ok _ List.mem_cons_self _ a b (rep0 (b := b) ha) (rep1 ha) ha hb (fun e he => absurd he List.not_mem_nil)
end SeedFact
namespace SeedFact
theorem small0 {x k : Int} (h : x = 18446744073709551616 * k) (a : -18446744073709551616 < x) (b : x < 18446744073709551616) : x = 0 := by omega
theorem dual0 {d0 d1 d2 t1 t2 : Int} (h1 : d1 = 6364136223846793005 * d0 - 18446744073709551616 * t1) (h2 : d2 = 6364136223846793005 * d1 - 18446744073709551616 * t2) (a0 : -274877906944 < d0) (b0 : d0 < 274877906944) (a1 : -274877906944 < d1) (b1 : d1 < 274877906944) (a2 : -274877906944 < d2) (b2 : d2 < 274877906944) :
    (-2498093) * d0 + (-397201) * d1 + 8218 * d2 = 0 := by
  have e : (-2498093) * d0 + (-397201) * d1 + 8218 * d2 = 18446744073709551616 * (18043689649964084197072 * d0 - 52300471487572944517889 * t1 - 8218 * t2) := by clear a0 b0 a1 b1 a2 b2; omega
  exact small0 e (by clear e h1 h2; omega) (by clear e h1 h2; omega)
theorem dual1 {d0 d1 d2 t1 t2 : Int} (h1 : d1 = 6364136223846793005 * d0 - 18446744073709551616 * t1) (h2 : d2 = 6364136223846793005 * d1 - 18446744073709551616 * t2) (a0 : -274877906944 < d0) (b0 : d0 < 274877906944) (a1 : -274877906944 < d1) (b1 : d1 < 274877906944) (a2 : -274877906944 < d2) (b2 : d2 < 274877906944) :
    993613 * d0 + (-1313894) * d1 + (-1941511) * d2 = 0 := by
  have e : 993613 * d0 + (-1313894) * d1 + (-1941511) * d2 = 18446744073709551616 * ((-4262840342661404154699527) * d0 - (-12356040484097010935244449) * t1 - (-1941511) * t2) := by clear a0 b0 a1 b1 a2 b2; omega
  exact small0 e (by clear e h1 h2; omega) (by clear e h1 h2; omega)
theorem dual2 {d0 d1 d2 t1 t2 : Int} (h1 : d1 = 6364136223846793005 * d0 - 18446744073709551616 * t1) (h2 : d2 = 6364136223846793005 * d1 - 18446744073709551616 * t2) (a0 : -274877906944 < d0) (b0 : d0 < 274877906944) (a1 : -274877906944 < d1) (b1 : d1 < 274877906944) (a2 : -274877906944 < d2) (b2 : d2 < 274877906944) :
    789167 * d0 + 2349913 * d1 + (-2090292) * d2 = 0 := by
  have e : 789167 * d0 + 2349913 * d1 + (-2090292) * d2 = 18446744073709551616 * ((-4589508411511648304240173) * d0 - (-13302903035617160641657547) * t1 - (-2090292) * t2) := by clear a0 b0 a1 b1 a2 b2; omega
  exact small0 e (by clear e h1 h2; omega) (by clear e h1 h2; omega)
theorem line_still {d0 d1 d2 t1 t2 : Int} (h1 : d1 = 6364136223846793005 * d0 - 18446744073709551616 * t1) (h2 : d2 = 6364136223846793005 * d1 - 18446744073709551616 * t2) (a0 : -274877906944 < d0) (b0 : d0 < 274877906944) (a1 : -274877906944 < d1) (b1 : d1 < 274877906944) (a2 : -274877906944 < d2) (b2 : d2 < 274877906944) : d0 = 0 := by
  have e0 := dual0 h1 h2 a0 b0 a1 b1 a2 b2
  have e1 := dual1 h1 h2 a0 b0 a1 b1 a2 b2
  have e2 := dual2 h1 h2 a0 b0 a1 b1 a2 b2
  clear h1 h2 a0 b0 a1 b1 a2 b2
  have h : (-18446744073709551616) * d0 = 7308804055591 * ((-2498093) * d0 + (-397201) * d1 + 8218 * d2) + (-810954487658) * (993613 * d0 + (-1313894) * d1 + (-1941511) * d2) + 781967691603 * (789167 * d0 + 2349913 * d1 + (-2090292) * d2) := by clear e0 e1 e2; omega
  rw [e0, e1, e2] at h
  clear e0 e1 e2
  omega
/-- four numbers of a line in the window: its step is even -/
theorem line_run {a0 a1 a2 a3 b : Int} (hb : b % 2 = 1) (h1 : a1 = (6364136223846793005 * a0 + b) % 18446744073709551616) (h2 : a2 = (6364136223846793005 * a1 + b) % 18446744073709551616) (h3 : a3 = (6364136223846793005 * a2 + b) % 18446744073709551616)
    (w0 : 18446743798831644672 ≤ a0) (v0 : a0 < 18446744073709551616) (w1 : 18446743798831644672 ≤ a1) (w2 : 18446743798831644672 ≤ a2) (w3 : 18446743798831644672 ≤ a3) : False := by
  have q1 := Int.emod_add_mul_ediv (6364136223846793005 * a0 + b) 18446744073709551616
  have q2 := Int.emod_add_mul_ediv (6364136223846793005 * a1 + b) 18446744073709551616
  have q3 := Int.emod_add_mul_ediv (6364136223846793005 * a2 + b) 18446744073709551616
  rw [← h1] at q1
  rw [← h2] at q2
  rw [← h3] at q3
  have e0 : a1 - a0 = 0 := line_still (d0 := a1 - a0) (d1 := a2 - a1) (d2 := a3 - a2) (t1 := (6364136223846793005 * a1 + b) / 18446744073709551616 - (6364136223846793005 * a0 + b) / 18446744073709551616) (t2 := (6364136223846793005 * a2 + b) / 18446744073709551616 - (6364136223846793005 * a1 + b) / 18446744073709551616)
    (by clear h1 h2 h3 w0 v0 w1 w2 w3 q3; omega) (by clear h1 h2 h3 w0 v0 w1 w2 w3 q1; omega) (by omega) (by omega) (by omega) (by omega) (by omega) (by omega)
  clear h1 h2 h3 q2 q3 w0 w1 w2 w3 v0
  omega
end SeedFact
namespace SeedFact
def stX (x : Nat) : Nat := (x ^^^ x * 8192) % 18446744073709551616
def stY (x : Nat) : Nat := x ^^^ (x >>> 7)
def stZ (x : Nat) : Nat := (x ^^^ x * 131072) % 18446744073709551616
def stL (x : Nat) : Nat := stZ (stY (stX x))
def hitS (w x : Nat) : Nat := (x * 2685821657736338717 % 18446744073709551616 + w) &&& 18446744073709551616
def shl1 (M X a : Nat) : Nat := Nat.land (Nat.xor X (Nat.shiftLeft X a)) M
def stV (M U : Nat) : Nat := shl1 M (xsh1 M (shl1 M U 13) 7) 17
def hitSV (O M B w S : Nat) : Nat := Nat.land (Nat.add (mulm M S 2685821657736338717) (Nat.mul O w)) B
theorem shl_lt {x a : Nat} (hx : x < 2^64) (ha : a ≤ 32) : x * 2^a < 2^128 := by
  have h1 : (2:Nat)^a ≤ 2^32 := Nat.pow_le_pow_right (by omega) ha
  have h2 : x * 2^a ≤ 2^64 * 2^32 := Nat.mul_le_mul (Nat.le_of_lt hx) h1
  exact Nat.lt_of_le_of_lt h2 (by decide)
theorem shl1_eq {f : Nat → Nat} (hf : ∀ i, f i < 2^64) (n a : Nat) (ha : a ≤ 32) : shl1 (mk n) (pack f n) a = pack (fun i => (f i ^^^ f i * 2^a) % 18446744073709551616) n := by
  show ((pack f n ^^^ (pack f n <<< a)) &&& mk n) = _
  rw [Nat.shiftLeft_eq, pack_mul, pack_xor (fun i => up128 (hf i)) (fun i => shl_lt (hf i) ha), mk, pack_and (fun i => Nat.xor_lt_two_pow (up128 (hf i)) (shl_lt (hf i) ha)) (fun _ => by decide)]
  exact pack_congr n (fun i _ => m64 _)
theorem stL_lt (x : Nat) : stL x < 2^64 := mod64 _
theorem stV_eq {f : Nat → Nat} (hf : ∀ i, f i < 2^64) (n : Nat) : stV (mk n) (pack f n) = pack (fun i => stL (f i)) n := by
  rw [stV, shl1_eq hf n 13 (by decide), xsh1_eq (fun i => mod64 _) n 7 (by decide), shl1_eq (fun i => Nat.xor_lt_two_pow (mod64 _) (shr_lt (mod64 _) _)) n 17 (by decide)]
  rfl
theorem hitSV_eq {f : Nat → Nat} (hf : ∀ i, f i < 2^64) (k w : Nat) (hw : w < 2^64) : hitSV (ones k) (mk (2^k)) (ones k * 18446744073709551616) w (pack f (2^k)) = pack (fun i => hitS w (f i)) (2^k) := by
  show ((mulm (mk (2^k)) (pack f (2^k)) 2685821657736338717 + ones k * w) &&& ones k * 18446744073709551616) = _
  rw [mulm_eq hf _ _ (by decide), ones_mul, ones_mul, pack_add, pack_and (fun i => add_lt128 (mod64 _) hw) (fun _ => by decide)]
  rfl
def chkS (O M B w U : Nat) : Bool :=
  cond (Nat.beq (hitSV O M B w (stV M U)) 0) true (Nat.beq (Nat.land (hitSV O M B w (stV M U)) (hitSV O M B w (stV M (stV M U)))) 0)
theorem chkS_sound {f : Nat → Nat} (hf : ∀ i, f i < 2^64) {k w : Nat} (hw : w < 2^64) (h : chkS (ones k) (mk (2^k)) (ones k * 18446744073709551616) w (pack f (2^k)) = true) {i : Nat} (hi : i < 2^k) :
    ¬ (hitS w (stL (f i)) = 18446744073709551616 ∧ hitS w (stL (stL (f i))) = 18446744073709551616) := by
  rintro ⟨h1, h2⟩
  rw [chkS, stV_eq hf, stV_eq (fun i => stL_lt _), hitSV_eq (fun i => stL_lt _) k w hw, hitSV_eq (fun i => stL_lt _) k w hw] at h
  have hz : ∀ g : Nat → Nat, Nat.beq (pack g (2^k)) 0 = true → g i = 0 := fun g hg => pack_zero _ (Nat.eq_of_beq_eq_true hg) i hi
  cases hb : Nat.beq (pack (fun i => hitS w (stL (f i))) (2^k)) 0 with
  | true =>
    have := hz _ hb
    rw [h1] at this
    exact absurd this (by decide)
  | false =>
    rw [hb] at h
    have h3 : Nat.beq (Nat.land (pack (fun i => hitS w (stL (f i))) (2^k)) (pack (fun i => hitS w (stL (stL (f i)))) (2^k))) 0 = true := h
    have hl : ∀ s, hitS w s < 2^128 := fun s => Nat.lt_of_le_of_lt Nat.and_le_right (by decide)
    have h4 := pack_and (f := fun i => hitS w (stL (f i))) (g := fun i => hitS w (stL (stL (f i)))) (fun i => hl _) (fun i => hl _) (2^k)
    have h5 : Nat.beq (pack (fun i => hitS w (stL (f i)) &&& hitS w (stL (stL (f i)))) (2^k)) 0 = true := by
      rw [← h4]
      exact h3
    have := hz _ h5
    rw [h1, h2] at this
    exact absurd this (by decide)

/- the lowest bits of a state and of those behind it -/
def shlL (k : Nat) (a : List Nat) : List Nat := List.replicate k 0 ++ a.take (64 - k)
def shrL (k : Nat) (a : List Nat) : List Nat := a.drop k ++ List.replicate k 0
theorem Rep.shl {s n m k : Nat} {a : List Nat} (hk : k ≤ 64) (ha : Rep s a n) (hm : ∀ i, i < 64 → m.testBit i = (decide (k ≤ i) && n.testBit (i - k))) : Rep s (shlL k a) m := by
  refine ⟨by simp [shlL, ha.1]; omega, fun i hi => ?_⟩
  rw [hm i hi]
  by_cases h : k ≤ i
  · have e : (shlL k a).getD i 0 = a.getD (i - k) 0 := by
      rw [List.getD_eq_getElem?_getD, List.getD_eq_getElem?_getD, shlL]
      congr 1
      rw [List.getElem?_append_right (by simp; omega), List.length_replicate, List.getElem?_take_of_lt (by omega)]
    rw [e, ha.2 _ (by omega)]
    simp [h]
  · have e : (shlL k a).getD i 0 = 0 := by
      rw [List.getD_eq_getElem?_getD, shlL, List.getElem?_append_left (by simp; omega), List.getElem?_replicate, if_pos (by omega)]
      rfl
    rw [e, fm_zero]
    simp [h]
theorem Rep.shr {s n m k : Nat} {a : List Nat} (hk : k ≤ 64) (hn : n < 2^64) (ha : Rep s a n) (hm : ∀ i, i < 64 → m.testBit i = n.testBit (k + i)) : Rep s (shrL k a) m := by
  refine ⟨by simp [shrL, ha.1]; omega, fun i hi => ?_⟩
  rw [hm i hi]
  by_cases h : i < 64 - k
  · have e : (shrL k a).getD i 0 = a.getD (k + i) 0 := by
      rw [List.getD_eq_getElem?_getD, List.getD_eq_getElem?_getD, shrL]
      congr 1
      rw [List.getElem?_append_left (by simp [ha.1]; omega), List.getElem?_drop]
    rw [e, ha.2 _ (by omega)]
  · have e : (shrL k a).getD i 0 = 0 := by
      rw [List.getD_eq_getElem?_getD, shrL, List.getElem?_append_right (by simp [ha.1]; omega), List.getElem?_replicate, if_pos (by simp [ha.1]; omega)]
      rfl
    rw [e, fm_zero, Nat.testBit_lt_two_pow (Nat.lt_of_lt_of_le hn (Nat.pow_le_pow_right (by omega) (by omega)))]
def nextS (a : List Nat) : List Nat :=
  (fun y => (fun z => xorL z (shlL 17 z)) (xorL y (shrL 7 y))) (xorL a (shlL 13 a))
theorem tb_xorshl {x k i : Nat} (hi : i < 64) : ((x ^^^ x * 2^k) % 18446744073709551616).testBit i = ((x ^^^ (x * 2^k % 18446744073709551616))).testBit i := by
  rw [show 18446744073709551616 = 2^64 from rfl, Nat.testBit_mod_two_pow, Nat.testBit_xor, Nat.testBit_xor, Nat.testBit_mod_two_pow]
  simp [hi]
theorem Rep.congr {s n m : Nat} {a : List Nat} (ha : Rep s a n) (h : ∀ i, i < 64 → n.testBit i = m.testBit i) : Rep s a m := ⟨ha.1, fun i hi => by rw [← h i hi]; exact ha.2 i hi⟩
theorem Rep.nextS {s x : Nat} {l : List Nat} (h : Rep s l x) : Rep s (SeedFact.nextS l) (stL x) := by
  have hX : Rep s (xorL l (shlL 13 l)) (stX x) := (h.xor (h.shl (k := 13) (by decide) (fun i hi => tb_mulmod x 13 i hi))).congr (fun i hi => (tb_xorshl (k := 13) hi).symm)
  have hY : Rep s (xorL (xorL l (shlL 13 l)) (shrL 7 (xorL l (shlL 13 l)))) (stY (stX x)) := hX.xor (hX.shr (k := 7) (by decide) (mod64 _) (fun i hi => Nat.testBit_shiftRight _))
  exact (hY.xor (hY.shl (k := 17) (by decide) (fun i hi => tb_mulmod _ 17 i hi))).congr (fun i hi => (tb_xorshl (k := 17) hi).symm)
/-- the choices of bits that are the lowest bits of so many states -/
def lows : Nat → List Nat → List Nat
  | 0, _ => []
  | n+1, l => Nat.mul (l.getD 0 0) 2 :: lows n (nextS l)
theorem lows_ok {D A C : Nat} : ∀ (n : Nat) (l : List Nat) (a c : Nat), Rep A l a → Rep C l c → D = A ^^^ C → (∀ k, k < n → iter stL k a % 2 = iter stL k c % 2) → ∀ e ∈ lows n l, eqOk D e
  | 0, _, _, _, _, _, _, _, e, he => absurd he List.not_mem_nil
  | n+1, l, a, c, ha, hc, hD, hb, e, he => by
    rw [lows] at he
    rcases List.mem_cons.mp he with rfl | he
    · have h0 := hb 0 (Nat.succ_pos n)
      rw [iter_zero, iter_zero] at h0
      have h1 := ha.2 0 (by decide)
      have h2 := hc.2 0 (by decide)
      have e1 : fm (l.getD 0 0) D = false := by
        have e2 : fm (l.getD 0 0) D = Bool.xor (fm (l.getD 0 0) A) (fm (l.getD 0 0) C) := by
          rw [hD, fm, Nat.and_xor_distrib_left, par_xor]
          rfl
        rw [e2, h1, h2, Nat.testBit_zero, Nat.testBit_zero, h0]
        simp
      show fm ((l.getD 0 0 * 2) >>> 1) D = (l.getD 0 0 * 2).testBit 0
      rw [show (l.getD 0 0 * 2) >>> 1 = l.getD 0 0 by rw [Nat.shiftRight_eq_div_pow]; omega, e1, Nat.testBit_zero]
      simp
    · exact lows_ok n (nextS l) (stL a) (stL c) ha.nextS hc.nextS hD (fun k hk => by
        have h1 := hb (k+1) (Nat.succ_lt_succ hk)
        rw [iter_succ, iter_succ] at h1
        exact h1) e he
def certs : List Nat := [1, 13601254513708018373, 9460280229760516376, 10044610014461302767, 6750573894132663505, 12769684284883095514, 1650731234745441231, 3, 14158527351483452750, 9575826408796221737, 11281644714690153008, 16641765244172406131, 15161312029823328879, 4267642027537951824, 13601254513708018368, 14911467538807301323, 537958687544948373, 17951510547049719936, 11176926452135422542, 7025073321427324799, 5569508463563224306, 13601254513708018378, 6161804686391013229, 2192320886090876512, 12754992456940831265, 13255994433243694829, 9943543751640438319, 9001523527860316682, 8479603932253629816, 2181634400460790718, 7697796842691059598, 12670499875657749337, 16427157701571640507, 16553136049662050433, 13628528604318701685, 14509944226713441481, 11394391627834977000, 9308128467603968659, 11895109982332275912, 5866465120941233419, 1204753136336289872, 18179667025152835119, 6820653554368068255, 1347938220658965016, 1296433924225589495, 8783443587266294584, 6317137879713815260, 16215698897401711057, 15720079313805787012, 9554426890796689841, 14272190309022469433, 17945358120551189757, 2250964236933959407, 10701564499054620182, 13877347422226196884, 16037973847269781481, 6490475979969554626, 2268886157596051719, 6832622871159617822, 18139334859955914339, 13053280460896174244, 16781534200918829578, 3481001818022597810, 5771284926220621598]
def certOk : List Nat → List Nat → Nat → Bool
  | [], _, _ => true
  | c :: cs, es, j => and (Nat.beq (sel c es) (Nat.pow 2 (Nat.succ j))) (certOk cs es (Nat.succ j))
set_option maxRecDepth 100000 in
theorem certs_ok : certOk certs (lows 64 m0) 0 = true := by decide +kernel
theorem certOk_out {es : List Nat} : ∀ (cs : List Nat) (j : Nat), certOk cs es j = true → ∀ i, i < cs.length → sel (cs.getD i 0) es = 2^(j + i + 1)
  | [], _, _, i, hi => absurd hi (Nat.not_lt_zero _)
  | c :: cs, j, h, i, hi => by
    rw [certOk, Bool.and_eq_true] at h
    cases i with
    | zero => exact Nat.eq_of_beq_eq_true h.1
    | succ i =>
      have h1 := certOk_out cs (j+1) h.2 i (Nat.lt_of_succ_lt_succ hi)
      rw [show j + (i + 1) + 1 = j + 1 + i + 1 by omega]
      exact h1
theorem rep_self {a : Nat} (ha : a < 2^64) : Rep a m0 a := by
  have h := rep0 (b := 0) ha
  rw [Nat.zero_mul, Nat.zero_add] at h
  exact h
/-- a state is known by 64 lowest bits -/
theorem same_lows {a c : Nat} (ha : a < 2^64) (hc : c < 2^64) (h : ∀ k, k < 64 → iter stL k a % 2 = iter stL k c % 2) : a = c := by
  have hl := lows_ok (D := a ^^^ c) 64 m0 a c (rep_self ha) (rep_self hc) rfl h
  have hz : a ^^^ c = 0 := by
    apply Nat.eq_of_testBit_eq
    intro j
    rw [Nat.zero_testBit]
    by_cases hj : j < 64
    · have h1 := certOk_out certs 0 certs_ok j hj
      have h2 := sel_ok (certs.getD j 0) (lows 64 m0) hl
      rw [h1, Nat.zero_add] at h2
      have h3 : fm (2^(j+1) >>> 1) (a ^^^ c) = (2^(j+1)).testBit 0 := h2
      rw [show 2^(j+1) >>> 1 = 2^j by rw [Nat.shiftRight_eq_div_pow, Nat.pow_succ]; omega, fm_bit _ _ (by omega), Nat.testBit_two_pow] at h3
      rw [h3]
      simp
    · exact Nat.testBit_lt_two_pow (Nat.lt_of_lt_of_le (Nat.xor_lt_two_pow ha hc) (Nat.pow_le_pow_right (by omega) (by omega)))
  apply Nat.eq_of_testBit_eq
  intro j
  have h4 := congrArg (Nat.testBit · j) hz
  simp only [Nat.testBit_xor, Nat.zero_testBit] at h4
  revert h4
  cases a.testBit j <;> cases c.testBit j <;> simp
def cands : List Nat := [0, 4102641269797740334, 765214667332754139, 3634709257857746421, 16550306482201363251, 15943026842040261661, 8347375775161782905, 5420175013198089559, 15513696559720333589, 17267991385755246139, 1379585786999844129, 3155553881298792975, 5457087194434220841, 8310537264710249479, 4765836171675257427, 8848487778708591997, 1439026267157072425, 3105215156250760455, 10754545628778496325, 12524598779983453803, 4435689889878496559, 387659262527605249, 17668675483357051927, 14833798079961932601, 15189639785842479477, 16871595362407599707, 1643002724273951549, 3324391249326099475, 3687920693387649343, 847136511798820369, 15567874807065399899, 16204991426046725493, 12427920874904816397, 10707125934755664931, 15616388542056775453, 16165403527791829043, 5308651485556995099, 8161538584535345973, 7861333384918800453, 6194300448789743467, 2327251542252022399, 1775417215362774353, 13992043686026162525, 18069070518093409907, 461488345578193183, 4505863844153597489, 13052567170191096871, 10217412805931082505, 6466148931844791667, 7013197870526857821, 2746082363619490409, 2230277026993399111, 69290620241477893, 4042448010400259627, 12447921590487674423, 10687152706978066713, 14525471863785242377, 17400595923913891879, 3140718782655936265, 1403312635650009127, 406788623424639555, 4416542935986965869, 7713564655478676793, 6044838196699087383, 4019458758822612323, 1092261510175167053, 5138396309136033031, 9196564051539106345, 6876339793137244009, 7458568890515376199, 1917914077709731365, 2482132994135611659, 1011081992508195683, 3956297685553126477, 16496006105531776607, 15853256009771622769, 11386083569485720681, 12028266682217493319, 11548927328132781611, 11000475610245040389, 16934963693048571685, 15270177737947150347, 8665316742522342525, 4660910969980769107, 9097580754196827681, 5093178658113442063, 6306084932286738987, 8028850141505137925, 18085125960877746197, 13985018528751089467, 4905152953828724047, 9006382184236159585, 16598396680885166667, 16048255842453568869, 14688495767557684825, 17525625374358921591, 8138525525007699461, 5196691796719980843, 11008327049452058411, 11541297991642982405, 7290528884858089243, 6756150524830429237, 13221747497732275235, 10345497542126150413, 18259500435677240695, 14233983520053068377, 8264351250257834071, 5359105244519903097, 5233642482656856879, 8092441195961193473, 3360125753912856673, 1607242928512094031, 163235222114983475, 4227877219593617693, 1755028907928714767, 2356683334962585889, 1715398047961466435, 3396227660324706669, 105860125290760465, 4149949712158643775, 3378035234638621963, 1589404919520408101, 17390736486638623097, 14535311508765918807, 9894668923036463451, 12808077402379497077, 2638276490037684299, 2049850325947594597]
def topS (x : Nat) : Bool := Nat.ble 18446743798831644672 (Nat.mod (Nat.mul x 2685821657736338717) 18446744073709551616)
/-- lowest bits: i times 1, then 0, the last one e -/
def okB : Nat → Nat → Nat → Nat → Bool
  | 0, x, _, e => Nat.beq (Nat.mod x 2) e
  | n+1, x, i, e => and (Nat.beq (Nat.mod x 2) (Nat.min i 1)) (okB n (stL x) (Nat.pred i) e)
theorem okB_out : ∀ (n x i e : Nat), okB n x i e = true → (∀ k, k < n → iter stL k x % 2 = Nat.min (i - k) 1) ∧ iter stL n x % 2 = e
  | 0, x, i, e, h => ⟨fun k hk => absurd hk (Nat.not_lt_zero _), Nat.eq_of_beq_eq_true h⟩
  | n+1, x, i, e, h => by
    rw [okB, Bool.and_eq_true] at h
    obtain ⟨h1, h2⟩ := okB_out n (stL x) (Nat.pred i) e h.2
    refine ⟨fun k hk => ?_, by rw [iter_succ]; exact h2⟩
    cases k with
    | zero => exact Nat.eq_of_beq_eq_true h.1
    | succ k =>
      rw [iter_succ, h1 k (Nat.lt_of_succ_lt_succ hk), show Nat.pred i - k = i - (k+1) by rw [Nat.pred_eq_sub_one]; omega]
def candOk : List Nat → Nat → Bool
  | [], _ => true
  | c :: cs, j => and (and (Nat.blt c 18446744073709551616) (and (okB 63 c (Nat.div j 2) (Nat.mod j 2)) (or (Nat.beq c 0) (not (and (topS c) (topS (stL c))))))) (candOk cs (Nat.succ j))
set_option maxRecDepth 100000 in
theorem cands_ok : candOk cands 0 = true := by decide +kernel
theorem candOk_out : ∀ (cs : List Nat) (j : Nat), candOk cs j = true → ∀ i, i < cs.length → ∃ c, c < 18446744073709551616 ∧ okB 63 c ((j + i) / 2) ((j + i) % 2) = true ∧ (c = 0 ∨ ¬ (topS c = true ∧ topS (stL c) = true))
  | [], _, _, i, hi => absurd hi (Nat.not_lt_zero _)
  | c :: cs, j, h, i, hi => by
    rw [candOk, Bool.and_eq_true, Bool.and_eq_true, Bool.and_eq_true, Bool.or_eq_true] at h
    cases i with
    | zero =>
      refine ⟨c, Nat.le_of_ble_eq_true h.1.1, h.1.2.1, ?_⟩
      rcases h.1.2.2 with h0 | h0
      · exact .inl (Nat.eq_of_beq_eq_true h0)
      · refine .inr fun ⟨x, y⟩ => ?_
        rw [x, y] at h0
        exact absurd h0 (by decide)
    | succ i =>
      have h1 := candOk_out cs (j+1) h.2 i (Nat.lt_of_succ_lt_succ hi)
      rw [show j + 1 + i = j + (i + 1) by omega] at h1
      exact h1
/-- bits that never go from 0 to 1 -/
theorem falls (b : Nat → Nat) (hb : ∀ k, b k < 2) : ∀ n, (∀ k, k + 1 < n → ¬ (b k = 0 ∧ b (k+1) = 1)) → ∃ i, i ≤ n ∧ ∀ k, k < n → b k = Nat.min (i - k) 1
  | 0, _ => ⟨0, Nat.le_refl _, fun k hk => absurd hk (Nat.not_lt_zero _)⟩
  | n+1, h => by
    obtain ⟨i, hi, hk⟩ := falls b hb n (fun k hk => h k (by omega))
    have hbn := hb n
    by_cases e : b n = 1
    · by_cases e2 : i = n
      · refine ⟨n+1, by omega, fun k h3 => ?_⟩
        have := hk k
        show b k = min (n + 1 - k) 1
        by_cases e3 : k = n
        · subst e3; omega
        · have h4 : b k = min (i - k) 1 := hk k (by omega)
          omega
      · exfalso
        have h4 : b (n-1) = min (i - (n-1)) 1 := hk (n-1) (by omega)
        have h5 := h (n-1) (by omega)
        rw [show n - 1 + 1 = n by omega] at h5
        exact h5 ⟨by omega, e⟩
    · refine ⟨i, by omega, fun k h3 => ?_⟩
      by_cases e3 : k = n
      · subst e3
        show b k = min (i - k) 1
        omega
      · exact hk k (by omega)
set_option maxRecDepth 100000 in
theorem cands_len : cands.length = 128 := by decide +kernel
/-- a state whose lowest bits never go from 0 to 1 is 0 or one of few: a word of its is not among the top ones -/
theorem never_rises {a : Nat} (ha : a < 2^64) (h0 : a ≠ 0) (h : ∀ k, k + 1 < 63 → ¬ (iter stL k a % 2 = 0 ∧ iter stL (k+1) a % 2 = 1)) : ¬ (topS a = true ∧ topS (stL a) = true) := by
  obtain ⟨i, hi, hb⟩ := falls (fun k => iter stL k a % 2) (fun k => Nat.mod_lt _ (by decide)) 63 h
  obtain ⟨c, hc, hok, hw⟩ := candOk_out cands 0 cands_ok (2 * i + iter stL 63 a % 2) (by rw [cands_len]; omega)
  rw [Nat.zero_add, show (2 * i + iter stL 63 a % 2) / 2 = i by omega, show (2 * i + iter stL 63 a % 2) % 2 = iter stL 63 a % 2 by omega] at hok
  obtain ⟨h1, h2⟩ := okB_out 63 c i _ hok
  have e : a = c := same_lows ha hc (fun k hk => by
    by_cases hk2 : k < 63
    · rw [h1 k hk2]
      exact hb k hk2
    · rw [show k = 63 by omega, h2])
  subst e
  rcases hw with hw | hw
  · exact absurd hw h0
  · exact hw
end SeedFact
