/-
  Rows of records: plain; what their bytes are.
-/
import Derived.Test.YtckdbnnkabgopaaDoorRq1
import Derived.Test.YtckdbnnkabgopaaDoorOpr
import Derived.Deep.Slices
namespace Go.Proofs.YtckdbnnkabgopaaDoor
open Go Go.RowKit Go.ChangeShapes Go.WideShapes Go.ChangeAt Go.Joins

/-- a row of records -/
def RRow (w : World) (B : Nat) (A : Option Addr) (xs : List Rc) : Prop :=
  0 < xs.length → ∃ p off, A = some ⟨p, off, none⟩ ∧ p < B ∧ ∀ i (h : i < xs.length), ∃ A' c', RcO w p (off + i * 5) xs[i].nm xs[i].k xs[i].a xs[i].b A' xs[i].ds.length c' ∧ Rd w B A' (il xs[i].ds)
theorem RRow.at_ {w w' : World} {A : Option Addr} {xs : List Rc} (h : RRow w w.heap.size A xs) (hb : Below w.heap.size w w') : RRow w' w'.heap.size A xs := fun h0 => by
  obtain ⟨p, off, rfl, hp, hr⟩ := h h0
  exact ⟨p, off, rfl, Nat.lt_of_lt_of_le hp hb.size, fun i hi => by
    obtain ⟨A', c', h1, h2⟩ := hr i hi
    exact ⟨A', c', h1.keep hb, h2.at_ hb⟩⟩
/-- bounds of a record's numbers -/
def Rc.ok (r : Rc) : Prop := r.nm.size ≤ 9223372036854775807 ∧ (0 ≤ r.a ∧ r.a < 18446744073709551616) ∧ (0 ≤ r.b ∧ r.b < 18446744073709551616) ∧ r.ds.length ≤ 9223372036854775807
def Rc.valid (r : Rc) : Bool := recB r.nm.data.toList r.k r.a r.b r.ds
def Rc.bytes (r : Rc) : List UInt8 := storeL r.nm.data.toList r.k r.a r.b r.ds
def stL (xs : List Rc) : List UInt8 := (xs.map Rc.bytes).flatten
def stB (xs : List Rc) : Bool := decide (xs.length ≤ 8) && xs.all Rc.valid
def stS (xs : List Rc) : ByteArray := if stB xs then ⟨(stL xs).toArray⟩ else ⟨#[]⟩
theorem stL_succ {xs : List Rc} {i : Nat} (h : i < xs.length) : stL (xs.take (i + 1)) = stL (xs.take i) ++ xs[i].bytes := by
  unfold stL
  rw [List.take_succ_eq_append_getElem h, List.map_append, List.flatten_append]
  simp
theorem valid_facts {r : Rc} (h : r.valid = true) : r.nm.size ≤ 8 ∧ (0 ≤ r.k ∧ r.k ≤ 3) ∧ r.ds.length ≤ 256 ∧ r.ds.all numB = true := recB_facts h
theorem bytes_len {r : Rc} (h : r.valid = true) : r.bytes.length ≤ 546 := by
  obtain ⟨h1, h2, h3, h4⟩ := valid_facts h
  unfold Rc.bytes
  rw [storeL_len, ← Lib.size_eq]
  omega
theorem stL_len {xs : List Rc} (h : xs.all Rc.valid = true) : (stL xs).length ≤ 546 * xs.length := by
  induction xs with
  | nil => simp [stL]
  | cons r xs ih =>
    rw [List.all_cons, Bool.and_eq_true] at h
    have h1 := bytes_len h.1
    have h2 := ih h.2
    have : stL (r :: xs) = r.bytes ++ stL xs := by unfold stL; rw [List.map_cons, List.flatten_cons]
    rw [this, List.length_append, List.length_cons]
    omega
theorem all_upto {xs : List Rc} {i : Nat} (h : i < xs.length) (ha : (xs.take i).all Rc.valid = true) (hv : xs[i].valid = true) : (xs.take (i + 1)).all Rc.valid = true := by
  rw [List.take_succ_eq_append_getElem h, List.all_append, ha]
  simp [hv]
theorem stB_no {xs : List Rc} {i : Nat} (h : i < xs.length) (hv : xs[i].valid = false) : stB xs = false := by
  unfold stB
  cases ha : xs.all Rc.valid with
  | false => rw [Bool.and_false]
  | true =>
    have := List.all_eq_true.1 ha _ (List.getElem_mem h)
    rw [hv] at this
    cases this
theorem stB_big {xs : List Rc} (h : 8 < xs.length) : stB xs = false := by
  unfold stB
  rw [decide_eq_false (by omega), Bool.false_and]
theorem stB_yes {xs : List Rc} (h : xs.length ≤ 8) (ha : (xs.take xs.length).all Rc.valid = true) : stB xs = true := by
  rw [List.take_length] at ha
  unfold stB
  rw [decide_eq_true h, ha]
  rfl
theorem stS_no {xs : List Rc} (h : stB xs = false) : stS xs = ⟨#[]⟩ := by unfold stS; rw [h]; rfl
theorem stS_yes {xs : List Rc} (h : stB xs = true) : stS xs = ⟨(stL (xs.take xs.length)).toArray⟩ := by unfold stS; rw [h, List.take_length]; rfl
theorem st_cat {xs : List Rc} {i : Nat} (h : i < xs.length) : (⟨(stL (xs.take i)).toArray⟩ : ByteArray) ++ ⟨(xs[i].bytes).toArray⟩ = ⟨(stL (xs.take (i + 1))).toArray⟩ := str_of (by
  rw [show ((⟨(stL (xs.take i)).toArray⟩ : ByteArray) ++ ⟨(xs[i].bytes).toArray⟩).data.toList = stL (xs.take i) ++ xs[i].bytes by simp [ByteArray.data_append]]
  exact (stL_succ h).symm)
end Go.Proofs.YtckdbnnkabgopaaDoor

