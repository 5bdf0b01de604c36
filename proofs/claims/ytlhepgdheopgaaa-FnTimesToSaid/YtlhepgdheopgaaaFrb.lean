/-
  Byte slices as arguments, opened.
-/
import Derived.Test.YtlhepgdheopgaaaOpen
namespace Go.Proofs.Ytlhepgdheopgaaa
open Go.ChangeShapes Go.WideShapes Go.ChangeAt Go.RowKit Go.Joins

/-- n bytes lie there -/
def BR (W : World) (A : Option Addr) (n : Nat) : Prop := ∀ a, a < n → ∃ b off v, A = some ⟨b, off, none⟩ ∧ b < W.heap.size ∧ (v : Nat) ≤ 255 ∧ W.cell? ⟨b, off + a, none⟩ = some (.int .u8 (v : Nat))
theorem BR.keep {W W' : World} {A : Option Addr} {n : Nat} (h : BR W A n) (hb : Below W.heap.size W W') : BR W' A n := fun a ha => by
  obtain ⟨b, off, v, e, h1, h2, h3⟩ := h a ha
  exact ⟨b, off, v, e, Nat.lt_of_lt_of_le h1 hb.size, h2, keepC hb h3⟩
theorem u8_bd' {n : Int} (h : (Lit.int .u8 n).wf = true) : 0 ≤ n ∧ n ≤ 255 := by
  simp [Lit.wf, IntKind.min, IntKind.max, IntKind.signed, IntKind.bits] at h
  omega
theorem open_bytes {H : Type} {enc : TypeId × Value → H} {W : World} {v : Value} {d : DataW H} {ps : List MemPlace} (h : DataW.Trod enc Try.prog W 0 (fun _ => true) true 22 v d ps)
    (hv : ∃ a len cap, v = .slice a len cap) : ∃ (A : Option Addr) (n c : Nat), v = .slice A n c ∧ n ≤ 9223372036854775807 ∧ BR W A n := by
  obtain ⟨fuel, hf⟩ := h
  obtain ⟨a, len, cap, rfl⟩ := hv
  obtain ⟨A, xs, c, he, hc, hm, hr, hok⟩ := open_row (v := .slice a len cap) (Value.int .u8) (fun n => (Lit.int .u8 n).wf = true) Try.underlying22 (show Try.prog.cellsOf 5 = 1 by kernel_rfl)
    (fun n cs y hy => by obtain ⟨z, hz, _, hw⟩ := DataW.trod_int Try.underlying5 hy; exact ⟨z, hz, hw⟩) (by simpa [Value.cells] using hf)
  refine ⟨A, xs.length, c, he, by unfold maxLen at hm; omega, fun i hi => ?_⟩
  obtain ⟨b, off, e, hb, hcl⟩ := hr (by rw [List.length_map]; omega)
  have hk := u8_bd' (hok xs[i] (List.getElem_mem hi))
  refine ⟨b, off, xs[i].toNat, e, hb, by omega, ?_⟩
  rw [hcl i (by rw [List.length_map]; exact hi), List.getElem_map]
  congr 2
  omega
end Go.Proofs.Ytlhepgdheopgaaa

