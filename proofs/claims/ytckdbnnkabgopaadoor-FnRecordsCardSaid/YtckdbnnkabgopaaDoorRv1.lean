/-
  RecoverRecords, plain: the records that a text begins with; a record is read out of its own piece as out of the whole rest.
-/
import Derived.Test.YtckdbnnkabgopaaDoorLo9
import Derived.Test.YtckdbnnkabgopaaDoorRq6
namespace Go.Proofs.YtckdbnnkabgopaaDoor
open Go Go.RowKit

theorem byN_take {l : List UInt8} {n i : Nat} (h : i < n) : byN (l.take n) i = byN l i := by
  unfold byN
  rw [List.getD_eq_getElem?_getD, List.getD_eq_getElem?_getD, List.getElem?_take_of_lt h]
theorem drop_take {l : List UInt8} {a k n : Nat} (h : a + k ≤ n) : ((l.take n).drop a).take k = (l.drop a).take k := by
  rw [List.drop_take, List.take_take]
  congr 1
  omega
/-- what a piece of l that is no shorter than the record says, l says -/
theorem piece_same {l : List UInt8} {n : Nat} (hn : endL l ≤ n) :
    atL (l.take n) = atL l ∧ manyL (l.take n) = manyL l ∧ endL (l.take n) = endL l ∧ nmL (l.take n) = nmL l ∧ kL (l.take n) = kL l ∧ aL (l.take n) = aL l ∧ bL (l.take n) = bL l ∧ ∀ i, i ≤ manyL l → dsL (l.take n) i = dsL l i := by
  have hE : endL l = atL l + 19 + 2 * manyL l := rfl
  have h5 : 5 ≤ atL l := by unfold atL; omega
  have hat : atL (l.take n) = atL l := by unfold atL; rw [byN_take (by omega)]
  have hm : manyL (l.take n) = manyL l := by unfold manyL; rw [hat, byN_take (by omega), byN_take (by omega)]
  refine ⟨hat, hm, ?_, ?_, ?_, ?_, ?_, ?_⟩
  · unfold endL; rw [hat, hm]
  · unfold nmL
    rw [byN_take (by omega), drop_take (by show 5 + byN l 4 ≤ n; have : atL l = 5 + byN l 4 := rfl; omega)]
  · unfold kL; rw [hat, byN_take (by omega)]
  · unfold aL; rw [hat, drop_take (by omega)]
  · unfold bL; rw [hat, drop_take (by omega)]
  · intro i
    induction i with
    | zero => intro _; rfl
    | succ i ih =>
      intro hi
      rw [dsL_succ, dsL_succ, ih (by omega), hat, byN_take (by omega), byN_take (by omega)]
theorem long_le {l : List UInt8} : longL l ≤ l.length := by
  by_cases h : longL l = 0
  · omega
  · have := long_facts h
    omega
theorem long_piece {l : List UInt8} (h : longL l ≠ 0) : longL (l.take (longL l)) = longL l := by
  obtain ⟨h1, h2, h3, h4⟩ := long_facts h
  obtain ⟨p1, _, p3, _⟩ := piece_same (l := l) (n := longL l) (by omega)
  have hl : (l.take (longL l)).length = longL l := by rw [List.length_take]; omega
  have hE : endL l = atL l + 19 + 2 * manyL l := rfl
  rw [long_is (by rw [p1, hl]; omega) (by rw [p3, hl]; omega), p3]
  omega
theorem ok_piece {l : List UInt8} (h : longL l ≠ 0) : okL (l.take (longL l)) = okL l := by
  obtain ⟨h1, h2, h3, h4⟩ := long_facts h
  obtain ⟨_, p2, _, p4, p5, p6, p7, p8⟩ := piece_same (l := l) (n := longL l) (by omega)
  unfold okL
  rw [long_piece h, p2, p4, p5, p6, p7, p8 _ (Nat.le_refl _), List.take_take, Nat.min_self]
/-- spec.LoadRecord on a record's own piece says what impl.firstRecord says on the rest -/
theorem ld_piece {l : List UInt8} (h : longL l ≠ 0) : ldB (l.take (longL l)) = frB l ∧ ldR (l.take (longL l)) = frR l := by
  obtain ⟨h1, h2, h3, h4⟩ := long_facts h
  have hl : (l.take (longL l)).length = longL l := by rw [List.length_take]; omega
  have hB : ldB (l.take (longL l)) = frB l := by
    unfold ldB frB
    rw [long_piece h, ok_piece h, hl, decide_eq_true (rfl : longL l = longL l), Bool.and_true]
  refine ⟨hB, ?_⟩
  unfold ldR frR
  rw [hB]
  obtain ⟨_, p2, _, p4, p5, p6, p7, p8⟩ := piece_same (l := l) (n := longL l) (by omega)
  have ho : Rc.of (l.take (longL l)) = Rc.of l := by
    unfold Rc.of nmS
    rw [p2, p4, p5, p6, p7, p8 _ (Nat.le_refl _)]
  rw [ho]
/-- the records that a text begins with, at most n; how many bytes they take -/
def rcvs : Nat → List UInt8 → List Rc
  | 0, _ => []
  | n + 1, l => if frB l then frR l :: rcvs n (l.drop (frN l)) else []
def plc : Nat → List UInt8 → Nat
  | 0, _ => 0
  | n + 1, l => if frB l then frN l + plc n (l.drop (frN l)) else 0
theorem rcvs_yes {l : List UInt8} (n : Nat) (h : frB l = true) : rcvs (n + 1) l = frR l :: rcvs n (l.drop (frN l)) := if_pos h
theorem plc_yes {l : List UInt8} (n : Nat) (h : frB l = true) : plc (n + 1) l = frN l + plc n (l.drop (frN l)) := if_pos h
theorem fr_long {l : List UInt8} (h : frB l = true) : longL l ≠ 0 ∧ frN l = longL l := by
  refine ⟨fun h0 => ?_, frN_fr h⟩
  rw [frB_zero h0] at h
  cases h
/-- i records are read, p bytes behind -/
def RvAt (l : List UInt8) (i p : Nat) (out : List Rc) : Prop := i ≤ 8 ∧ p ≤ l.length ∧ out.length = i ∧ rcvs 8 l = out ++ rcvs (8 - i) (l.drop p) ∧ plc 8 l = p + plc (8 - i) (l.drop p)
theorem RvAt.start (l : List UInt8) : RvAt l 0 0 [] := ⟨by omega, by omega, rfl, by simp, by simp⟩
theorem RvAt.step {l : List UInt8} {i p : Nat} {out : List Rc} (h : RvAt l i p out) (hi : i < 8) (hf : frB (l.drop p) = true) : RvAt l (i + 1) (p + frN (l.drop p)) (out ++ [frR (l.drop p)]) := by
  obtain ⟨h1, h2, h3, h4, h5⟩ := h
  have hN := (fr_long hf).2
  have hL := long_le (l := l.drop p)
  rw [List.length_drop] at hL
  rw [show 8 - i = (8 - (i + 1)) + 1 by omega] at h4 h5
  rw [rcvs_yes _ hf, List.drop_drop] at h4
  rw [plc_yes _ hf, List.drop_drop] at h5
  exact ⟨by omega, by omega, by simp [h3], by rw [h4]; simp, by omega⟩
theorem RvAt.stop {l : List UInt8} {i p : Nat} {out : List Rc} (h : RvAt l i p out) (hi : i = 8 ∨ frB (l.drop p) = false) : rcvs 8 l = out ∧ plc 8 l = p := by
  obtain ⟨h1, h2, h3, h4, h5⟩ := h
  have hz : rcvs (8 - i) (l.drop p) = [] ∧ plc (8 - i) (l.drop p) = 0 := by
    rcases hi with rfl | hf
    · exact ⟨rfl, rfl⟩
    · cases hk : 8 - i with
      | zero => exact ⟨rfl, rfl⟩
      | succ n =>
        unfold rcvs plc
        rw [hf]
        exact ⟨rfl, rfl⟩
  rw [hz.1, List.append_nil] at h4
  rw [hz.2, Nat.add_zero] at h5
  exact ⟨h4, h5⟩
end Go.Proofs.YtckdbnnkabgopaaDoor

