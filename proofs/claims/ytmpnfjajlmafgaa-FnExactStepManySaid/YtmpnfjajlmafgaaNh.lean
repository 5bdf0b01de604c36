/-
  The row that impl.numbersFrom gives, as the sort's own row.
-/
import Derived.Test.YtmpnfjajlmafgaaNf
namespace Go.Proofs.Ytmpnfjajlmafgaa
open Go Go.RowKit Go.Sort

theorem range_at {n p : Nat} (h : p < n) : (Array.range n)[p]! = p := by
  rw [getElem!_pos (Array.range n) p (by simpa using h)]
  simp
theorem own_holds {w : World} {base n c : Nat} {A : Option Addr} (h : w.ownsRow base 2 1 (.slice A n c) n (il (upsN n))) (hn : 1 ≤ n) :
    ∃ g, A = some ⟨g, 0, none⟩ ∧ base ≤ g ∧ g < w.heap.size ∧ Holds eN w g 0 (Array.range n) := by
  have h' := h
  rcases h.2 with ⟨hv, hz⟩ | ⟨g, cap, cur, hv, hb, hg, h1, h2, h3⟩
  · omega
  · cases hv
    refine ⟨g, rfl, hb, ?_, fun j hj => ⟨?_, ?_⟩⟩
    · rcases Nat.lt_or_ge g w.heap.size with hlt | hge
      · exact hlt
      · rw [Array.getElem?_eq_none hge] at hg
        cases hg
    · have hj' : j < n := by simpa using hj
      rw [range_at hj', Nat.zero_add]
      refine own_cellAt h' ?_
      simp [il, upsN, hj', eN]
    · simp [World.frozen?, hg]
end Go.Proofs.Ytmpnfjajlmafgaa
