/-
  Journals: plain.
-/
import Derived.Test.YthfkibecbbkhlaaDoorDc1
import Derived.Lib.IndexAny
import Derived.WideShapes
namespace Go.Proofs.YthfkibecbbkhlaaDoor
open Go Go.RowKit

/-- a line of a journal -/
def lineJ (c : Int) (p : List UInt8) : List UInt8 := Lib.itoa c ++ [32] ++ p ++ [10]
theorem lineJ_len {c : Int} (h : 0 ≤ c ∧ c < 65003) (p : List UInt8) : p.length + 3 ≤ (lineJ c p).length ∧ (lineJ c p).length ≤ p.length + 23 := by
  have := itoa_len (n := c) (by omega)
  unfold lineJ
  simp
  omega
/-- the i-th line -/
def ln (ps : List ByteArray) (k : Nat) : List UInt8 := (ps.getD k ByteArray.empty).data.toList
/-- the journal of the first k lines, and its check number -/
def jst (ps : List ByteArray) : Nat → List UInt8 × Int
  | 0 => ([], 0)
  | k + 1 => ((jst ps k).1 ++ lineJ (chk (jst ps k).2 (ln ps k)) (ln ps k), chk (jst ps k).2 (ln ps k))
theorem jst_range (ps : List ByteArray) : ∀ k, 0 ≤ (jst ps k).2 ∧ (jst ps k).2 < 65003 := by
  intro k
  induction k with
  | zero => exact ⟨Int.le_refl 0, show (0 : Int) < 65003 by omega⟩
  | succ k ih => exact chk_range _ _ ih
/-- lengths with three more, summed up -/
def totJ (ps : List ByteArray) : Nat → Nat
  | 0 => 0
  | k + 1 => totJ ps k + ((ps.getD k ByteArray.empty).size + 3)
theorem tot_le (ps : List ByteArray) : ∀ k, totJ ps k ≤ (jst ps k).1.length := by
  intro k
  induction k with
  | zero => exact Nat.le_refl _
  | succ k ih =>
    have h1 := (lineJ_len (chk_range (ln ps k) _ (jst_range ps k)) (ln ps k)).1
    show totJ ps k + _ ≤ ((jst ps k).1 ++ _).length
    rw [List.length_append]
    have : (ps.getD k ByteArray.empty).size = (ln ps k).length := Lib.size_eq _
    omega
theorem tot_mono (ps : List ByteArray) {a b : Nat} (h : a ≤ b) : totJ ps a ≤ totJ ps b := by
  induction b with
  | zero => obtain rfl : a = 0 := by omega
            exact Nat.le_refl _
  | succ b ih =>
    rcases Nat.lt_or_ge a (b + 1) with h1 | h1
    · exact Nat.le_trans (ih (by omega)) (Nat.le_add_right _ _)
    · obtain rfl : a = b + 1 := by omega
      exact Nat.le_refl _
theorem jst_mono (ps : List ByteArray) {a b : Nat} (h : a ≤ b) : (jst ps a).1.length ≤ (jst ps b).1.length := by
  induction b with
  | zero => obtain rfl : a = 0 := by omega
            exact Nat.le_refl _
  | succ b ih =>
    rcases Nat.lt_or_ge a (b + 1) with h1 | h1
    · refine Nat.le_trans (ih (by omega)) ?_
      show _ ≤ ((jst ps b).1 ++ _).length
      rw [List.length_append]
      omega
    · obtain rfl : a = b + 1 := by omega
      exact Nat.le_refl _
/-- a newline is there -/
def nlB (l : List UInt8) : Bool := decide (0 ≤ Lib.indexByte l 10)
theorem nlB_any (l : List UInt8) : nlB l = l.any (· == 10) := by
  unfold nlB
  rw [← Lib.contains_iff_indexByte]
  induction l with
  | nil => rfl
  | cons b l ih =>
    rw [List.contains_cons, List.any_cons, ih]
    congr 1
    exact Bool.beq_comm
def okJ (ps : List ByteArray) : Bool := ps.all (fun p => !nlB p.data.toList) && decide ((jst ps ps.length).1.length ≤ 16000)
def textJ (ps : List ByteArray) : ByteArray := if okJ ps then ⟨(jst ps ps.length).1.toArray⟩ else ⟨#[]⟩
theorem textJ_no {ps : List ByteArray} (h : okJ ps = false) : textJ ps = ⟨#[]⟩ := by unfold textJ; rw [h]; rfl
theorem textJ_yes {ps : List ByteArray} (h : okJ ps = true) : textJ ps = ⟨(jst ps ps.length).1.toArray⟩ := by unfold textJ; rw [h]; rfl
theorem okJ_nl {ps : List ByteArray} {k : Nat} (h : k < ps.length) (hn : nlB (ln ps k) = true) : okJ ps = false := by
  unfold okJ
  have : ps.all (fun p => !nlB p.data.toList) = false := by
    rw [List.all_eq_false]
    refine ⟨ps[k], List.getElem_mem h, ?_⟩
    have e : ln ps k = ps[k].data.toList := by unfold ln; rw [List.getD_eq_getElem?_getD, List.getElem?_eq_getElem h]; rfl
    rw [← e, hn]
    decide
  rw [this, Bool.false_and]
theorem okJ_long {ps : List ByteArray} {k : Nat} (h : k ≤ ps.length) (hn : 16000 < (jst ps k).1.length) : okJ ps = false := by
  unfold okJ
  have := jst_mono ps h
  rw [decide_eq_false (by omega), Bool.and_false]
theorem okJ_tot {ps : List ByteArray} {k : Nat} (h : k ≤ ps.length) (hn : 16000 < totJ ps k) : okJ ps = false := by
  refine okJ_long (Nat.le_refl _) ?_
  have h1 := tot_mono ps h
  have h2 := tot_le ps ps.length
  omega
theorem okJ_end {ps : List ByteArray} (h : ∀ k, k < ps.length → nlB (ln ps k) = false) : okJ ps = decide ((jst ps ps.length).1.length ≤ 16000) := by
  unfold okJ
  have : ps.all (fun p => !nlB p.data.toList) = true := by
    rw [List.all_eq_true]
    intro p hp
    obtain ⟨k, hk, rfl⟩ := List.mem_iff_getElem.1 hp
    have := h k hk
    have e : ln ps k = ps[k].data.toList := by unfold ln; rw [List.getD_eq_getElem?_getD, List.getElem?_eq_getElem hk]; rfl
    rw [e] at this
    rw [this]
    rfl
  rw [this, Bool.true_and]
/-- strings as cells -/
def sl (ps : List ByteArray) : List Value := ps.map Value.string
theorem sl_len (ps : List ByteArray) : (sl ps).length = ps.length := by simp [sl]
theorem Rd.slAt {w : World} {B : Nat} {A : Option Addr} {ps : List ByteArray} (h : Rd w B A (sl ps)) {k : Nat} (hk : k < ps.length) : ∃ b off, A = some ⟨b, off, none⟩ ∧ b < B ∧ w.cell? ⟨b, off + k, none⟩ = some (.string (ps.getD k ByteArray.empty)) := by
  have hl : (sl ps).length = ps.length := sl_len ps
  obtain ⟨b, off, e, hb, hc⟩ := h (by omega)
  refine ⟨b, off, e, hb, ?_⟩
  rw [hc k (by omega)]
  simp [sl, List.getD_eq_getElem?_getD, List.getElem?_eq_getElem hk]
theorem str_of {s : ByteArray} {l : List UInt8} (h : s.data.toList = l) : s = ⟨l.toArray⟩ := WideShapes.bytes_inj (by rw [h])
theorem app_data (a b : ByteArray) : (a ++ b).data.toList = a.data.toList ++ b.data.toList := by simp [ByteArray.data_append]
end Go.Proofs.YthfkibecbbkhlaaDoor
