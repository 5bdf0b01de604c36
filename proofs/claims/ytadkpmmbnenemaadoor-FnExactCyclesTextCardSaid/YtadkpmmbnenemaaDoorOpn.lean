/-
  A list of integers as an argument.
-/
import Derived.Test.YtadkpmmbnenemaaDoorLift
namespace Go.Proofs.YtadkpmmbnenemaaDoor
open Go.ChangeShapes Go.WideShapes Go.ChangeAt Go.RowKit

theorem int_bd {n : Int} (h : (Lit.int .i64 n).wf = true) : -9223372036854775808 ≤ n ∧ n ≤ 9223372036854775807 := by
  simp [Lit.wf, IntKind.min, IntKind.max, IntKind.signed, IntKind.bits] at h
  omega
theorem open_il {H : Type} {enc : TypeId × Value → H} {W : World} {v : Value} {d : DataW H} {ps : List MemPlace} (h : DataW.Trod enc Tryd.prog W 0 (fun _ => true) true 22 v d ps)
    (hv : ∃ a len cap, v = .slice a len cap) : ∃ (A : Option Addr) (xs : List Int) (c : Nat), v = .slice A xs.length c ∧ xs.length ≤ 9223372036854775807 ∧ Rd W W.heap.size A (il xs) ∧ ∀ x ∈ xs, -9223372036854775808 ≤ x ∧ x ≤ 9223372036854775807 := by
  obtain ⟨fuel, hf⟩ := h
  obtain ⟨a, len, cap, rfl⟩ := hv
  obtain ⟨A, xs, c, he, hc, hm, hr, hok⟩ := open_row (v := .slice a len cap) (Value.int .i64) (fun n => (Lit.int .i64 n).wf = true) Tryd.underlying22 (show Tryd.prog.cellsOf 2 = 1 by kernel_rfl)
    (fun n cs y hy => by obtain ⟨z, hz, _, hw⟩ := DataW.trod_int Tryd.underlying2 hy; exact ⟨z, hz, hw⟩) (by simpa [Value.cells] using hf)
  exact ⟨A, xs, c, he, by unfold maxLen at hm; omega, hr, fun x hx => int_bd (hok x hx)⟩
end Go.Proofs.YtadkpmmbnenemaaDoor
