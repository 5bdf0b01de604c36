/-
  Arguments opened: lists of single numbers, of integers, chains, seeds.
-/
import Derived.Test.YtlhepgdheopgaaaLift
import Derived.Test.YtlhepgdheopgaaaClosed
namespace Go.Proofs.Ytlhepgdheopgaaa
open Go.ChangeShapes Go.WideShapes Go.ChangeAt Go.RowKit Go.Joins

theorem f32_bd {b : Nat} (h : (Lit.float .f32 b).wf = true) : b < 4294967296 := by
  simp [Lit.wf] at h
  exact h
theorem open_fl {H : Type} {enc : TypeId × Value → H} {W : World} {v : Value} {d : DataW H} {ps : List MemPlace} (h : DataW.Trod enc Try.prog W 0 (fun _ => true) true 24 v d ps)
    (hv : ∃ a len cap, v = .slice a len cap) : ∃ (A : Option Addr) (xs : List Nat) (c : Nat), v = .slice A xs.length c ∧ xs.length ≤ 9223372036854775807 ∧ Rd W W.heap.size A (fl xs) ∧ ∀ x ∈ xs, x < 4294967296 := by
  obtain ⟨fuel, hf⟩ := h
  obtain ⟨a, len, cap, rfl⟩ := hv
  obtain ⟨A, xs, c, he, hc, hm, hr, hok⟩ := open_row (v := .slice a len cap) (Value.float .f32) (fun b => (Lit.float .f32 b).wf = true) Try.underlying24 (show Try.prog.cellsOf 31 = 1 by kernel_rfl)
    (fun n cs y hy => trod_float Try.underlying31 hy) (by simpa [Value.cells] using hf)
  exact ⟨A, xs, c, he, by unfold maxLen at hm; omega, hr, fun x hx => f32_bd (hok x hx)⟩


theorem int_bd {n : Int} (h : (Lit.int .i64 n).wf = true) : -9223372036854775808 ≤ n ∧ n ≤ 9223372036854775807 := by
  simp [Lit.wf, IntKind.min, IntKind.max, IntKind.signed, IntKind.bits] at h
  omega
theorem u64_bd {n : Int} (h : (Lit.int .u64 n).wf = true) : 0 ≤ n ∧ n < 18446744073709551616 := by
  simp [Lit.wf, IntKind.min, IntKind.max, IntKind.signed, IntKind.bits] at h
  omega
theorem open_il {H : Type} {enc : TypeId × Value → H} {W : World} {v : Value} {d : DataW H} {ps : List MemPlace} (h : DataW.Trod enc Try.prog W 0 (fun _ => true) true 49 v d ps)
    (hv : ∃ a len cap, v = .slice a len cap) : ∃ (A : Option Addr) (xs : List Int) (c : Nat), v = .slice A xs.length c ∧ xs.length ≤ 9223372036854775807 ∧ Rd W W.heap.size A (il xs) ∧ ∀ x ∈ xs, -9223372036854775808 ≤ x ∧ x ≤ 9223372036854775807 := by
  obtain ⟨fuel, hf⟩ := h
  obtain ⟨a, len, cap, rfl⟩ := hv
  obtain ⟨A, xs, c, he, hc, hm, hr, hok⟩ := open_row (v := .slice a len cap) (Value.int .i64) (fun n => (Lit.int .i64 n).wf = true) Try.underlying49 (show Try.prog.cellsOf 2 = 1 by kernel_rfl)
    (fun n cs y hy => by obtain ⟨z, hz, _, hw⟩ := DataW.trod_int Try.underlying2 hy; exact ⟨z, hz, hw⟩) (by simpa [Value.cells] using hf)
  exact ⟨A, xs, c, he, by unfold maxLen at hm; omega, hr, fun x hx => int_bd (hok x hx)⟩
end Go.Proofs.Ytlhepgdheopgaaa

