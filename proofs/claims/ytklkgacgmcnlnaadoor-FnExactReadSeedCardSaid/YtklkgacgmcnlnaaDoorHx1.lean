/-
  Numbers in base 16: plain.
-/
import Derived.Lib.Strings
import Derived.Test.YtklkgacgmcnlnaaDoorRc1
namespace Go.Proofs.YtklkgacgmcnlnaaDoor
open Go Go.RowKit

/-- the byte of a digit -/
def hexD (d : Nat) : UInt8 := UInt8.ofNat (if d < 10 then 48 + d else 87 + d)
/-- the lowest m digits of a number, the highest of them first -/
def hexL (x : Nat) : Nat → List UInt8
  | 0 => []
  | m + 1 => hexL (x / 16) m ++ [hexD (x % 16)]
theorem hexL_len (m : Nat) : ∀ x, (hexL x m).length = m := by
  induction m with
  | zero => intro x; rfl
  | succ m ih => intro x; rw [hexL, List.length_append, ih]; rfl
theorem hexL_cons (m : Nat) : ∀ x, hexL x (m + 1) = hexD (x / 16 ^ m % 16) :: hexL x m := by
  induction m with
  | zero => intro x; rw [Nat.pow_zero, Nat.div_one]; rfl
  | succ m ih =>
    intro x
    rw [hexL, ih, List.cons_append, Nat.div_div_eq_div_mul, show 16 * 16 ^ m = 16 ^ (m + 1) by rw [Nat.pow_succ, Nat.mul_comm]]
    rfl
theorem hexL_pad (x m : Nat) (h : x < 16 ^ m) : ∀ z, hexL x (m + z) = List.replicate z 48 ++ hexL x m := by
  intro z
  induction z with
  | zero => rfl
  | succ z ih =>
    have hlt : x < 16 ^ (m + z) := Nat.lt_of_lt_of_le h (Nat.pow_le_pow_right (by decide) (by omega))
    rw [show m + (z + 1) = (m + z) + 1 by omega, hexL_cons, Nat.div_eq_of_lt hlt, ih, List.replicate_succ]
    rfl
theorem hexL_step (x j m : Nat) : hexL (x / 16 ^ (j + 1)) m ++ [hexD (x / 16 ^ j % 16)] = hexL (x / 16 ^ j) (m + 1) := by
  rw [hexL, Nat.div_div_eq_div_mul, Nat.pow_succ]
/-- the table of digits -/
def hexT : List UInt8 := [48, 49, 50, 51, 52, 53, 54, 55, 56, 57, 97, 98, 99, 100, 101, 102]
theorem hexT_get : ∀ d : Fin 16, hexT[d.val]? = some (hexD d.val) := by decide
/-- the value of a digit, 16 if there is none -/
def unD (b : UInt8) : Nat := if 48 ≤ b.toNat ∧ b.toNat ≤ 57 then b.toNat - 48 else if 97 ≤ b.toNat ∧ b.toNat ≤ 102 then b.toNat - 87 else 16
theorem unD_hexD : ∀ d : Fin 16, unD (hexD d.val) = d.val := by decide
theorem hexD_unD {b : UInt8} (h : unD b < 16) : hexD (unD b) = b := by
  unfold unD at h ⊢
  refine UInt8.toNat_inj.1 ?_
  have hb := b.toNat_lt
  unfold hexD
  split
  · rename_i h1
    rw [if_pos (by omega)]
    show (48 + (b.toNat - 48)) % 256 = _
    omega
  · split
    · rename_i h1 h2
      rw [if_neg (by omega)]
      show (87 + (b.toNat - 87)) % 256 = _
      omega
    · rename_i h1 h2
      rw [if_neg h1, if_neg h2] at h
      omega
/-- the number of digits -/
def unL (l : List UInt8) : Nat := l.foldl (fun x b => 16 * x + unD b) 0
theorem unL_snoc (l : List UInt8) (b : UInt8) : unL (l ++ [b]) = 16 * unL l + unD b := by
  unfold unL
  rw [List.foldl_append]
  rfl
def digL (l : List UInt8) : Bool := l.all fun b => decide (unD b < 16)
theorem unL_hexL (m : Nat) : ∀ x, x < 16 ^ m → unL (hexL x m) = x ∧ digL (hexL x m) = true := by
  induction m with
  | zero => intro x h; rw [Nat.pow_zero] at h; obtain rfl : x = 0 := (by omega); exact ⟨rfl, rfl⟩
  | succ m ih =>
    intro x h
    rw [Nat.pow_succ] at h
    obtain ⟨h1, h2⟩ := ih (x / 16) (by omega)
    have hd := unD_hexD ⟨x % 16, Nat.mod_lt _ (by decide)⟩
    dsimp only at hd
    rw [hexL]
    refine ⟨?_, ?_⟩
    · rw [unL_snoc, h1, hd]; omega
    · unfold digL at h2 ⊢
      rw [List.all_append, h2]
      have : x % 16 < 16 := Nat.mod_lt _ (by decide)
      simp [hd, this]
theorem hexL_unL : ∀ (m : Nat) (l : List UInt8), l.length = m → digL l = true → unL l < 16 ^ m ∧ hexL (unL l) m = l := by
  intro m
  induction m with
  | zero => intro l hl _; rw [List.length_eq_zero_iff.1 hl]; exact ⟨by decide, rfl⟩
  | succ m ih =>
    intro l hl hd
    obtain ⟨l', b, rfl⟩ : ∃ l' b, l = l' ++ [b] := by
      rcases List.eq_nil_or_concat l with h | ⟨l', b, h⟩
      · rw [h] at hl; cases hl
      · exact ⟨l', b, by rw [h, List.concat_eq_append]⟩
    unfold digL at hd
    rw [List.all_append, Bool.and_eq_true] at hd
    obtain ⟨hd1, hd2⟩ := hd
    have hb : unD b < 16 := by simpa using hd2
    obtain ⟨h1, h2⟩ := ih l' (by simp at hl; omega) hd1
    rw [unL_snoc, Nat.pow_succ]
    refine ⟨by omega, ?_⟩
    rw [hexL, show (16 * unL l' + unD b) / 16 = unL l' by omega, show (16 * unL l' + unD b) % 16 = unD b by omega, h2, hexD_unD hb]
end Go.Proofs.YtklkgacgmcnlnaaDoor
