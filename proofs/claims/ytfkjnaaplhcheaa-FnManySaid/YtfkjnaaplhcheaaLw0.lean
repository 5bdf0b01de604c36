/-
  Helpers of the law FnMany (printed by many18.py).
-/
import Derived.Test.YtfkjnaaplhcheaaNx
import Derived.Test.YtfkjnaaplhcheaaNv
import Derived.Test.YtfkjnaaplhcheaaNw
import Derived.Test.YtfkjnaaplhcheaaNr
namespace Go.Proofs.Ytfkjnaaplhcheaa
open Go Go.RowKit Go.Sort Ieee

/-- what is left of a sequence behind its first k statements -/
def tailC : Nat → Code → Code
  | 0, c => c
  | k + 1, .seq _ b => tailC k b
  | _ + 1, c => c
theorem fl_cells {w : World} {B : Nat} {A : Option Addr} {xs : List Nat} (h : Rd w B A (fl xs)) (h1 : 1 ≤ xs.length) : ∃ b off, A = some ⟨b, off, none⟩ ∧ b < B ∧ ∀ i, i < xs.length → w.cell? ⟨b, off + i, none⟩ = some (.float .f32 (xs.getD i 0)) := by
  obtain ⟨b, off, e, hb, hc⟩ := rd_cells h h1
  refine ⟨b, off, e, hb, fun i hi => ?_⟩
  rw [hc i hi, List.getD_eq_getElem?_getD, List.getElem?_eq_getElem hi]
  rfl
theorem bol_cells {w : World} {B : Nat} {A : Option Addr} {bs : List Bool} (h : Rd w B A (bol bs)) (h1 : 1 ≤ bs.length) : ∃ b off, A = some ⟨b, off, none⟩ ∧ b < B ∧ ∀ i, i < bs.length → w.cell? ⟨b, off + i, none⟩ = some (.bool (bs.getD i false)) := by
  have hlen : (bol bs).length = bs.length := by simp [bol]
  obtain ⟨b, off, e, hb2, hc⟩ := h (by rw [hlen]; omega)
  refine ⟨b, off, e, hb2, fun i hi => ?_⟩
  rw [hc i (by rw [hlen]; exact hi), List.getD_eq_getElem?_getD, List.getElem?_eq_getElem hi]
  simp [bol]
theorem rwL_at {bs : List Bool} {i : Nat} (h : i < bs.length) : (rwL bs).getD i 0 = rwS bs (i + 1) := getD_range_map h
theorem bwL_at {bs : List Bool} {i : Nat} (h : i < bs.length) : (bwL bs).getD i 0 = bwS bs (i + 1) := getD_range_map h
theorem rwL_len (bs : List Bool) : (rwL bs).length = bs.length := by simp [rwL]
theorem bwL_len (bs : List Bool) : (bwL bs).length = bs.length := by simp [bwL]
/-- what the last loop leans on -/
structure Wk (W w : World) (A28 A29 A34 : Option Addr) (bs : List Bool) (at_ : Nat) (side : Int) : Prop where
  bw : Below W.heap.size W w
  r28 : Rd w w.heap.size A28 (bol bs)
  r29 : Rd w w.heap.size A29 (fl (rwL bs))
  r34 : Rd w w.heap.size A34 (fl (bwL bs))
  st : StopAt (rwL bs) at_ side
  h1 : 1 ≤ bs.length
  h2 : bs.length ≤ 20
end Go.Proofs.Ytfkjnaaplhcheaa
