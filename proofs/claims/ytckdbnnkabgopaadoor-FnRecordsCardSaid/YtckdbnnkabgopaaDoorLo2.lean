/-
  A record that bytes tell: plain; spec.l07Long.
-/
import Derived.Test.YtckdbnnkabgopaaDoorLo1
namespace Go.Proofs.YtckdbnnkabgopaaDoor
open Go Go.RowKit

/-- the byte at a place -/
def byN (l : List UInt8) (i : Nat) : Nat := (l.getD i 0).toNat
theorem byN_lt (l : List UInt8) (i : Nat) : byN l i < 256 := UInt8.toNat_lt _
/-- where the seed begins; how many draws; where they end -/
def atL (l : List UInt8) : Nat := 5 + byN l 4
def manyL (l : List UInt8) : Nat := byN l (atL l + 17) + 256 * byN l (atL l + 18)
def endL (l : List UInt8) : Nat := atL l + 19 + 2 * manyL l
theorem manyL_lt (l : List UInt8) : manyL l ≤ 65535 := by
  have h1 := byN_lt l (atL l + 17)
  have h2 := byN_lt l (atL l + 18)
  unfold manyL
  omega
theorem atL_lt (l : List UInt8) : atL l ≤ 260 := by
  have h1 := byN_lt l 4
  unfold atL
  omega
/-- how long the first record is, 0 if there is none -/
def longL (l : List UInt8) : Nat := if l.length < 5 then 0 else if l.length < atL l + 19 then 0 else if l.length < endL l + 2 then 0 else endL l + 2
/-- the record's parts -/
def nmL (l : List UInt8) : List UInt8 := (l.drop 5).take (byN l 4)
def kL (l : List UInt8) : Int := byN l (atL l)
def aL (l : List UInt8) : Int := rdB ((l.drop (atL l + 1)).take 8)
def bL (l : List UInt8) : Int := rdB ((l.drop (atL l + 9)).take 8)
def dsL (l : List UInt8) : Nat → List Int
  | 0 => []
  | i + 1 => dsL l i ++ [((byN l (atL l + 19 + 2 * i) + 256 * byN l (atL l + 19 + 2 * i + 1) : Nat) : Int)]
theorem dsL_len (l : List UInt8) (i : Nat) : (dsL l i).length = i := by
  induction i with
  | zero => rfl
  | succ i ih => simp [dsL, ih]
theorem rdB_two {l : List UInt8} {i : Nat} (h : i + 2 ≤ l.length) : rdB ((l.drop i).take 2) = byN l i + 256 * byN l (i + 1) := by
  rw [rdB_front (by omega), rdB_front (by omega)]
  unfold byN
  rw [List.getD_eq_getElem?_getD, List.getD_eq_getElem?_getD, List.getElem?_eq_getElem (by omega), List.getElem?_eq_getElem (by omega)]
  show _ + 256 * (_ + 256 * rdB _) = _
  rw [List.take_zero]
  rfl
theorem kL_range (l : List UInt8) : 0 ≤ kL l ∧ kL l < 256 := by
  have := byN_lt l (atL l)
  unfold kL
  omega
theorem aL_range (l : List UInt8) : 0 ≤ aL l ∧ aL l < 18446744073709551616 := by
  have h := rdB_lt 8 ((l.drop (atL l + 1)).take 8) (by rw [List.length_take]; omega)
  unfold aL
  omega
theorem bL_range (l : List UInt8) : 0 ≤ bL l ∧ bL l < 18446744073709551616 := by
  have h := rdB_lt 8 ((l.drop (atL l + 9)).take 8) (by rw [List.length_take]; omega)
  unfold bL
  omega
theorem by_idx {s : ByteArray} {i : Nat} (h : i < s.size) : s[i].toNat = byN s.data.toList i := by
  unfold byN
  rw [List.getD_eq_getElem?_getD, List.getElem?_eq_getElem (by rw [← Lib.size_eq]; exact h)]
  rfl
theorem wi {x : Int} (h : 0 ≤ x ∧ x ≤ 9223372036854775807) : IntKind.i64.wrap x = x := by
  first | (rw [IntKind.wrap_i64]; exact w64_in h) | (rw [IntKind.wrap_i64]; omega) | (simp [go_sem]; omega)
end Go.Proofs.YtckdbnnkabgopaaDoor

