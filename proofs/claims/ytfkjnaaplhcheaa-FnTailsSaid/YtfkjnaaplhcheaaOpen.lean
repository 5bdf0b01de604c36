/-
  Arguments opened: lists of single numbers, of integers, chains, seeds.
-/
import Derived.Test.YtfkjnaaplhcheaaLift
import Derived.Test.YtfkjnaaplhcheaaClosed
namespace Go.Proofs.Ytfkjnaaplhcheaa
open Go.ChangeShapes Go.WideShapes Go.ChangeAt Go.RowKit Go.Joins

theorem f32_bd {b : Nat} (h : (Lit.float .f32 b).wf = true) : b < 4294967296 := by
  simp [Lit.wf] at h
  exact h
theorem open_fl {H : Type} {enc : TypeId × Value → H} {W : World} {v : Value} {d : DataW H} {ps : List MemPlace} (h : DataW.Trod enc Try.prog W 0 (fun _ => true) true 46 v d ps)
    (hv : ∃ a len cap, v = .slice a len cap) : ∃ (A : Option Addr) (xs : List Nat) (c : Nat), v = .slice A xs.length c ∧ xs.length ≤ 9223372036854775807 ∧ Rd W W.heap.size A (fl xs) ∧ ∀ x ∈ xs, x < 4294967296 := by
  obtain ⟨fuel, hf⟩ := h
  obtain ⟨a, len, cap, rfl⟩ := hv
  obtain ⟨A, xs, c, he, hc, hm, hr, hok⟩ := open_row (v := .slice a len cap) (Value.float .f32) (fun b => (Lit.float .f32 b).wf = true) Try.underlying46 (show Try.prog.cellsOf 50 = 1 by kernel_rfl)
    (fun n cs y hy => trod_float Try.underlying50 hy) (by simpa [Value.cells] using hf)
  exact ⟨A, xs, c, he, by unfold maxLen at hm; omega, hr, fun x hx => f32_bd (hok x hx)⟩


theorem int_bd {n : Int} (h : (Lit.int .i64 n).wf = true) : -9223372036854775808 ≤ n ∧ n ≤ 9223372036854775807 := by
  simp [Lit.wf, IntKind.min, IntKind.max, IntKind.signed, IntKind.bits] at h
  omega
theorem u64_bd {n : Int} (h : (Lit.int .u64 n).wf = true) : 0 ≤ n ∧ n < 18446744073709551616 := by
  simp [Lit.wf, IntKind.min, IntKind.max, IntKind.signed, IntKind.bits] at h
  omega
theorem open_il {H : Type} {enc : TypeId × Value → H} {W : World} {v : Value} {d : DataW H} {ps : List MemPlace} (h : DataW.Trod enc Try.prog W 0 (fun _ => true) true 25 v d ps)
    (hv : ∃ a len cap, v = .slice a len cap) : ∃ (A : Option Addr) (xs : List Int) (c : Nat), v = .slice A xs.length c ∧ xs.length ≤ 9223372036854775807 ∧ Rd W W.heap.size A (il xs) ∧ ∀ x ∈ xs, -9223372036854775808 ≤ x ∧ x ≤ 9223372036854775807 := by
  obtain ⟨fuel, hf⟩ := h
  obtain ⟨a, len, cap, rfl⟩ := hv
  obtain ⟨A, xs, c, he, hc, hm, hr, hok⟩ := open_row (v := .slice a len cap) (Value.int .i64) (fun n => (Lit.int .i64 n).wf = true) Try.underlying25 (show Try.prog.cellsOf 2 = 1 by kernel_rfl)
    (fun n cs y hy => by obtain ⟨z, hz, _, hw⟩ := DataW.trod_int Try.underlying2 hy; exact ⟨z, hz, hw⟩) (by simpa [Value.cells] using hf)
  exact ⟨A, xs, c, he, by unfold maxLen at hm; omega, hr, fun x hx => int_bd (hok x hx)⟩
set_option maxRecDepth 100000 in
theorem open_seed {H : Type} {enc : TypeId × Value → H} {W : World} {r : Reach} {b0 : Nat} {v : Value} {d : DataW H} {ps : List MemPlace} (hv : Value.okWide Try.prog W r b0 61 v) (h : DataW.Trod enc Try.prog W 0 (fun _ => true) true 61 v d ps) :
    ∃ (k a b : Int), v = .agg #[.int .i64 k, .int .u64 a, .int .u64 b] ∧ (-9223372036854775808 ≤ k ∧ k ≤ 9223372036854775807) ∧ (0 ≤ a ∧ a < 18446744073709551616) ∧ (0 ≤ b ∧ b < 18446744073709551616) := by
  obtain ⟨c0, c1, c2, y0, y1, y2, m, rfl, rfl, rfl, hy0, hy1, hy2⟩ := open_agg3 Try.underlying61 (by kernel_rfl) (show Try.prog.cellsOf 61 = 3 by kernel_rfl) hv h
  obtain ⟨k, e0, _, hk⟩ := DataW.trod_int Try.underlying2 hy0
  obtain ⟨a, e1, _, ha⟩ := DataW.trod_int Try.underlying35 hy1
  obtain ⟨b, e2, _, hb⟩ := DataW.trod_int Try.underlying35 hy2
  obtain rfl : c0 = .int .i64 k := by simpa using e0
  obtain rfl : c1 = .int .u64 a := by simpa using e1
  obtain rfl : c2 = .int .u64 b := by simpa using e2
  exact ⟨k, a, b, rfl, int_bd hk, u64_bd ha, u64_bd hb⟩
end Go.Proofs.Ytfkjnaaplhcheaa

