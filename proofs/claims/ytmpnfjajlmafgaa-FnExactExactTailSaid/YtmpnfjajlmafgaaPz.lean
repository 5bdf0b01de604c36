/-
  The weight of a table by its cells is the weight by its columns (plain).
-/
import Derived.Test.YtmpnfjajlmafgaaPt
import Derived.Test.YtmpnfjajlmafgaaGd
namespace Go.Proofs.Ytmpnfjajlmafgaa
open Go Go.RowKit

theorem wrap_off (a t : Int) : IntKind.i64.wrap (a + 18446744073709551616 * t) = IntKind.i64.wrap a := by
  unfold IntKind.wrap
  simp [IntKind.bits, IntKind.signed]
  try omega
theorem wrap_is (a : Int) : ∃ t, IntKind.i64.wrap a = a + 18446744073709551616 * t := by
  unfold IntKind.wrap
  refine ⟨-((a + 9223372036854775808) / 18446744073709551616), ?_⟩
  simp [IntKind.bits, IntKind.signed]
  omega
theorem wrapML (a b : Int) : IntKind.i64.wrap (IntKind.i64.wrap a * b) = IntKind.i64.wrap (a * b) := by
  obtain ⟨t, ht⟩ := wrap_is a
  rw [ht, Int.add_mul, Int.mul_assoc, wrap_off]
theorem wrapMR (a b : Int) : IntKind.i64.wrap (a * IntKind.i64.wrap b) = IntKind.i64.wrap (a * b) := by
  rw [Int.mul_comm, wrapML, Int.mul_comm]
theorem wrapI (a : Int) : IntKind.i64.wrap (IntKind.i64.wrap a) = IntKind.i64.wrap a := by
  obtain ⟨t, ht⟩ := wrap_is a
  rw [ht, wrap_off, ht]
theorem lw22 (a b c d : Nat) : lwTo [a, b, c, d] 2 2 2 = wOf 2 [a, b, c, d] := by
  simp [wOf, wTo, colsTo, lwTo, wyTo, colV, colF, preSum, List.range_succ, wrapML, wrapMR, wrapI]
  try simp only [Int.mul_comm, Int.mul_left_comm, Int.mul_assoc]
theorem lw23 (a b c d e f : Nat) : lwTo [a, b, c, d, e, f] 2 3 3 = wOf 3 [a, b, c, d, e, f] := by
  simp [wOf, wTo, colsTo, lwTo, wyTo, colV, colF, preSum, List.range_succ, wrapML, wrapMR, wrapI]
  try simp only [Int.mul_comm, Int.mul_left_comm, Int.mul_assoc]
theorem lw32 (a b c d e f : Nat) : lwTo [a, b, c, d, e, f] 3 2 2 = wOf 2 [a, b, c, d, e, f] := by
  simp [wOf, wTo, colsTo, lwTo, wyTo, colV, colF, preSum, List.range_succ, wrapML, wrapMR, wrapI]
  try simp only [Int.mul_comm, Int.mul_left_comm, Int.mul_assoc]
theorem lw33 (a b c d e f g h i : Nat) : lwTo [a, b, c, d, e, f, g, h, i] 3 3 3 = wOf 3 [a, b, c, d, e, f, g, h, i] := by
  simp [wOf, wTo, colsTo, lwTo, wyTo, colV, colF, preSum, List.range_succ, wrapML, wrapMR, wrapI]
  try simp only [Int.mul_comm, Int.mul_left_comm, Int.mul_assoc]
end Go.Proofs.Ytmpnfjajlmafgaa
