/-
  Rows of records that are owned, read; how many records a text gives.
-/
import Derived.Test.YtckdbnnkabgopaaDoorRv3
namespace Go.Proofs.YtckdbnnkabgopaaDoor
open Go Go.RowKit Go.Joins

theorem rcvs_ds : ∀ (n : Nat) (l : List UInt8) (r : Rc), r ∈ rcvs n l → r.ds.length ≤ 65535
  | 0, _, _, h => absurd h (by simp [rcvs])
  | n + 1, l, r, h => by
    unfold rcvs at h
    split at h
    · rename_i hf
      rw [List.mem_cons] at h
      rcases h with rfl | h
      · unfold frR
        rw [if_pos hf]
        show (dsL l (manyL l)).length ≤ 65535
        rw [dsL_len]
        exact manyL_lt l
      · exact rcvs_ds n _ r h
    · exact absurd h (by simp)
theorem rcvs_len : ∀ (n : Nat) (l : List UInt8), (rcvs n l).length ≤ n
  | 0, _ => Nat.le_refl _
  | n + 1, l => by
    unfold rcvs
    split
    · rw [List.length_cons]
      have := rcvs_len n (l.drop (frN l))
      omega
    · exact Nat.zero_le _
theorem rowC_len (ts : List Rt) : (rowC ts).length = ts.length * 5 := by
  induction ts with
  | nil => rfl
  | cons t ts ih =>
    rw [show rowC (t :: ts) = t.cells ++ rowC ts from rfl, List.length_append, ih, List.length_cons]
    show 5 + _ = _
    omega
theorem rowC_at (ts us : List Rt) (t : Rt) (q : Nat) (hq : q < 5) : (rowC (ts ++ t :: us))[ts.length * 5 + q]? = t.cells[q]? := by
  rw [show rowC (ts ++ t :: us) = rowC ts ++ (t.cells ++ rowC us) by simp [rowC], List.getElem?_append_right (by rw [rowC_len]; omega), rowC_len, show ts.length * 5 + q - ts.length * 5 = q by omega, List.getElem?_append_left hq]
theorem rowC_set (ts us : List Rt) (t t' : Rt) (q : Nat) (v : Value) (hq : q < 5) (hc : t.cells.set q v = t'.cells) : (rowC (ts ++ t :: us)).set (ts.length * 5 + q) v = rowC (ts ++ t' :: us) := by
  rw [show rowC (ts ++ t :: us) = rowC ts ++ (t.cells ++ rowC us) by simp [rowC], show rowC (ts ++ t' :: us) = rowC ts ++ (t'.cells ++ rowC us) by simp [rowC], List.set_append_right _ _ (by rw [rowC_len]; omega), rowC_len, show ts.length * 5 + q - ts.length * 5 = q by omega, List.set_append_left _ _ hq, hc]
/-- an owned row of records, read -/
theorem OR.row {W : World} {base c : Nat} {A : Option Addr} {ts : List Rt} (h : OR W base (.slice A ts.length c) ts) : RRow W W.heap.size A (ts.map (·.1)) := fun h0 => by
  rw [List.length_map] at h0
  obtain ⟨g, cap, hv, hb, hlt⟩ := h.1.form h0
  injection hv with hA _ _
  subst hA
  refine ⟨g, 0, rfl, hlt, fun i hi => ?_⟩
  have hi' : i < ts.length := by rw [List.length_map] at hi; exact hi
  have he : (ts.map (·.1))[i] = ts[i].1 := by simp
  rw [he]
  refine ⟨ts[i].2.1, ts[i].2.2, ?_, Rd.of_own (h.2.1 ts[i] (List.getElem_mem hi')).1⟩
  have hsp : ts = ts.take i ++ ts[i] :: ts.drop (i + 1) := by rw [← List.drop_eq_getElem_cons hi', List.take_append_drop]
  have hcell : ∀ q, q < 5 → W.cell? ⟨g, 0 + i * 5 + q, none⟩ = ts[i].cells[q]? := fun q hq => by
    have h1 := rowC_at (ts.take i) (ts.drop (i + 1)) ts[i] q hq
    rw [← hsp, List.length_take, Nat.min_eq_left (by omega)] at h1
    rw [Nat.zero_add, ← h1]
    have h2 := h.1.cellAt (i * 5 + q) (by omega)
    exact h2
  exact ⟨hcell 0 (by omega), hcell 1 (by omega), hcell 2 (by omega), hcell 3 (by omega), hcell 4 (by omega)⟩
end Go.Proofs.YtckdbnnkabgopaaDoor
