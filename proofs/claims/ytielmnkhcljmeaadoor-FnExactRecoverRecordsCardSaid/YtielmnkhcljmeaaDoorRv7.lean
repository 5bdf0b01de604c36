/-
  markRecordS on an owned row of records.
-/
import Derived.Test.YtielmnkhcljmeaaDoorRv6
namespace Go.Proofs.YtielmnkhcljmeaaDoor
open Go Go.RowKit Go.Joins

theorem OR.put {W : World} {base g n c : Nat} {ts us : List Rt} {t t' : Rt} {u : Value} (q : Nat) (h : OR W base (.slice (some ⟨g, 0, none⟩) n c) (ts ++ t :: us)) (hn : n = (ts ++ t :: us).length) (hq : q < 5) (h2 : t'.2 = t.2) (hd : t'.1.ds = t.1.ds) (hc : t.cells.set q u = t'.cells) :
    OR (W.setCell ⟨g, ts.length * 5 + q, none⟩ u) base (.slice (some ⟨g, 0, none⟩) n c) (ts ++ t' :: us) := by
  subst hn
  have hrow : t'.row = t.row := by unfold Rt.row; rw [h2, hd]
  obtain ⟨h1, h3, h4⟩ := h
  obtain ⟨s1, s2⟩ := h1.stored (ts.length * 5 + q) u
  rw [rowC_set ts us t t' q u hq hc] at s1
  have hlen : (ts ++ t' :: us).length = (ts ++ t :: us).length := by simp
  refine ⟨by rw [hlen]; exact s1, fun x hx => ?_, ?_⟩
  · have hx' : x ∈ ts ++ t :: us ∨ x = t' := by
      simp only [List.mem_append, List.mem_cons] at hx ⊢
      rcases hx with hx | hx | hx
      · exact .inl (.inl hx)
      · exact .inr hx
      · exact .inl (.inr (.inr hx))
    rcases hx' with hx' | rfl
    · obtain ⟨k1, k2⟩ := h3 x hx'
      exact ⟨k1.kept s2 k2, k2⟩
    · obtain ⟨k1, k2⟩ := h3 t (by simp)
      rw [hrow, hd]
      exact ⟨k1.kept s2 k2, k2⟩
  · rw [List.pairwise_append] at h4 ⊢
    obtain ⟨p1, p2, p3⟩ := h4
    rw [List.pairwise_cons] at p2 ⊢
    refine ⟨p1, ⟨fun x hx => by rw [hrow]; exact p2.1 x hx, p2.2⟩, fun x hx y hy => ?_⟩
    rw [List.mem_cons] at hy
    rcases hy with rfl | hy
    · rw [hrow]; exact p3 x hx t (by simp)
    · exact p3 x hx y (by simp [hy])
theorem OR.marks {W W' : World} {base g n c : Nat} {ts us : List Rt} {t t' : Rt} (h : OR W base (.slice (some ⟨g, 0, none⟩) n c) (ts ++ t :: us)) (hg : W.grownBy W' t.row.ownBlock)
    (ho : W'.ownsRow base 2 1 t.row t.1.ds.length (il t'.1.ds)) (hr : t'.row = t.row) (hl : t'.1.ds.length = t.1.ds.length) (hc : t'.cells = t.cells) : OR W' base (.slice (some ⟨g, 0, none⟩) n c) (ts ++ t' :: us) := by
  obtain ⟨h1, h3, h4⟩ := h
  have hlen : (ts ++ t' :: us).length = (ts ++ t :: us).length := by simp
  have hrc : rowC (ts ++ t' :: us) = rowC (ts ++ t :: us) := by simp [rowC, hc]
  have flip : ∀ {o q : Option Nat}, (o = none ∨ o ≠ q) → q = none ∨ q ≠ o := fun {o q} hh => by
    cases q with
    | none => exact .inl rfl
    | some j =>
      refine .inr fun e => ?_
      rcases hh with hh | hh
      · rw [hh] at e; cases e
      · exact hh e.symm
  have hp := h4
  rw [List.pairwise_append] at h4
  obtain ⟨p1, p2, p3⟩ := h4
  rw [List.pairwise_cons] at p2
  refine ⟨by rw [hlen, hrc]; exact h1.kept hg (flip (h3 t (by simp)).2), fun x hx => ?_, ?_⟩
  · rw [List.mem_append, List.mem_cons] at hx
    rcases hx with hx | rfl | hx
    · obtain ⟨k1, k2⟩ := h3 x (by simp [hx])
      exact ⟨k1.kept hg (p3 x hx t (by simp)), k2⟩
    · rw [hr, hl]
      exact ⟨ho, (h3 t (by simp)).2⟩
    · obtain ⟨k1, k2⟩ := h3 x (by simp [hx])
      exact ⟨k1.kept hg (flip (p2.1 x hx)), k2⟩
  · rw [List.pairwise_append, List.pairwise_cons]
    refine ⟨p1, ⟨fun x hx => by rw [hr]; exact p2.1 x hx, p2.2⟩, fun x hx y hy => ?_⟩
    rw [List.mem_cons] at hy
    rcases hy with rfl | hy
    · rw [hr]; exact p3 x hx t (by simp)
    · exact p3 x hx y (by simp [hy])
end Go.Proofs.YtielmnkhcljmeaaDoor
