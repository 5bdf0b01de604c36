/-
  Arguments opened: lists of strings; the table of powers of ten.
-/
import Derived.Test.YthfkibecbbkhlaaDoorLift
import Derived.Test.YthfkibecbbkhlaaDoorJr2
import Derived.Stop.LaidErr
import Derived.MakeChecks
namespace Go.Proofs.YthfkibecbbkhlaaDoor
open Go.ChangeShapes Go.WideShapes Go.ChangeAt Go.RowKit Go.Joins

theorem open_sl {H : Type} {enc : TypeId × Value → H} {W : World} {v : Value} {d : DataW H} {ps : List MemPlace} (h : DataW.Trod enc Tryd.prog W 0 (fun _ => true) true 22 v d ps)
    (hv : ∃ a len cap, v = .slice a len cap) : ∃ (A : Option Addr) (xs : List ByteArray) (c : Nat), v = .slice A xs.length c ∧ xs.length ≤ 9223372036854775807 ∧ Rd W W.heap.size A (sl xs) ∧ ∀ k, (xs.getD k ByteArray.empty).size ≤ 9223372036854775807 := by
  obtain ⟨fuel, hf⟩ := h
  obtain ⟨a, len, cap, rfl⟩ := hv
  obtain ⟨A, xs, c, he, hc, hm, hr, hok⟩ := open_row (v := .slice a len cap) Value.string (fun s => s.size ≤ maxLen) Tryd.underlying22 (show Tryd.prog.cellsOf 9 = 1 by kernel_rfl)
    (fun n cs y hy => by obtain ⟨z, hz, _, hw⟩ := DataW.trod_string Tryd.underlying9 hy; exact ⟨z, hz, hw⟩) (by simpa [Value.cells] using hf)
  refine ⟨A, xs, c, he, by unfold maxLen at hm; omega, hr, fun k => ?_⟩
  rcases Nat.lt_or_ge k xs.length with h1 | h1
  · rw [List.getD_eq_getElem?_getD, List.getElem?_eq_getElem h1]
    have := hok _ (List.getElem_mem h1)
    unfold maxLen at this
    exact Nat.le_trans this (by omega)
  · rw [List.getD_eq_getElem?_getD, List.getElem?_eq_none h1]
    decide
theorem tab_of_laid {laid : List (String × DataW Unit)} {x y : String × DataW Unit} {w w' : World} (hl : laid = [x, y, ("internal/strconv.uint64pow10", Lib.tabData .u64 Lib.pow10Tab)]) (hp : ∀ w, laidMetH Tryd.prog laid w = laidMet Tryd.prog laid w) (h : laidMetH Tryd.prog laid w) (he : w'.heap = w.heap) : Tab w' := by
  rw [hp, hl] at h
  have h3 := Lib.tabIs_of_head (P := Tryd.prog) (g := 1) (by kernel_rfl) (by kernel_rfl) Tryd.underlying65 Tryd.underlying56 (by kernel_rfl) (by kernel_rfl) (laidMet.tail (laidMet.tail h))
  unfold Tab Lib.TabIs World.var? at *
  rw [he]
  exact h3
end Go.Proofs.YthfkibecbbkhlaaDoor
