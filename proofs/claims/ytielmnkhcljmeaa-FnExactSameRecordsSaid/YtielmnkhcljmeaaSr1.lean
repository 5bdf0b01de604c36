/-
  Records and rows of records: what is said of them (SameRecords).
-/
import Derived.Test.YtielmnkhcljmeaaTi
import Derived.Test.YtielmnkhcljmeaaLift
import Derived.Deep.Slices
import Derived.Deep.DeepCutAuto
import Derived.WideShapes
namespace Go.Proofs.Ytielmnkhcljmeaa
open Go Go.RowKit Go.ChangeShapes Go.WideShapes Go.ChangeAt Go.Joins

def BoolOut (b : Bool) (w : World) (e : Ending) (w' : World) : Prop := e = .returned (.bool b) ∧ Below w.heap.size w w'
def SameOut (v : Value) (w : World) (e : Ending) (w' : World) : Prop := e = .returned v ∧ w = w'
theorem retB {a b : Bool} (h : a = b) : Ending.returned (.bool a) = .returned (.bool b) := by rw [h]
def rcV (nm : ByteArray) (k a b : Int) (A : Option Addr) (n c : Nat) : Value := .agg #[.string nm, .int .i64 k, .int .u64 a, .int .u64 b, .slice A n c]
def RcAt (w : World) (p : Nat) (nm : ByteArray) (k a b : Int) (A : Option Addr) (n c : Nat) : Prop :=
  w.cell? ⟨p, 0, none⟩ = some (.string nm) ∧ w.cell? ⟨p, 1, none⟩ = some (.int .i64 k) ∧ w.cell? ⟨p, 2, none⟩ = some (.int .u64 a) ∧ w.cell? ⟨p, 3, none⟩ = some (.int .u64 b) ∧ w.cell? ⟨p, 4, none⟩ = some (.slice A n c)
theorem RcAt.keep {w w' : World} {p : Nat} {nm : ByteArray} {k a b : Int} {A : Option Addr} {n c : Nat} (h : RcAt w p nm k a b A n c) (hb : Below w.heap.size w w') : RcAt w' p nm k a b A n c :=
  ⟨keepC hb h.1, keepC hb h.2.1, keepC hb h.2.2.1, keepC hb h.2.2.2.1, keepC hb h.2.2.2.2⟩
theorem RcAt.lt {w : World} {p : Nat} {nm : ByteArray} {k a b : Int} {A : Option Addr} {n c : Nat} (h : RcAt w p nm k a b A n c) : p < w.heap.size := lt_of_cell (a := ⟨p, 0, none⟩) h.1
structure Rc where
  nm : ByteArray
  k : Int
  a : Int
  b : Int
  ds : List Int
def RcO (w : World) (p o : Nat) (nm : ByteArray) (k a b : Int) (A : Option Addr) (n c : Nat) : Prop :=
  w.cell? ⟨p, o, none⟩ = some (.string nm) ∧ w.cell? ⟨p, o + 1, none⟩ = some (.int .i64 k) ∧ w.cell? ⟨p, o + 2, none⟩ = some (.int .u64 a) ∧ w.cell? ⟨p, o + 3, none⟩ = some (.int .u64 b) ∧ w.cell? ⟨p, o + 4, none⟩ = some (.slice A n c)
theorem RcO.keep {w w' : World} {p o : Nat} {nm : ByteArray} {k a b : Int} {A : Option Addr} {n c : Nat} (h : RcO w p o nm k a b A n c) (hb : Below w.heap.size w w') : RcO w' p o nm k a b A n c :=
  ⟨keepC hb h.1, keepC hb h.2.1, keepC hb h.2.2.1, keepC hb h.2.2.2.1, keepC hb h.2.2.2.2⟩
theorem RcO.lt {w : World} {p o : Nat} {nm : ByteArray} {k a b : Int} {A : Option Addr} {n c : Nat} (h : RcO w p o nm k a b A n c) : p < w.heap.size := lt_of_cell (a := ⟨p, o, none⟩) h.1
/-- a row of records -/
def RRow (w : World) (B : Nat) (A : Option Addr) (xs : List Rc) : Prop :=
  0 < xs.length → ∃ p off, A = some ⟨p, off, none⟩ ∧ p < B ∧ ∀ i (h : i < xs.length), ∃ A' c', RcO w p (off + i * 5) xs[i].nm xs[i].k xs[i].a xs[i].b A' xs[i].ds.length c' ∧ Rd w B A' (il xs[i].ds)
theorem RRow.at_ {w w' : World} {A : Option Addr} {xs : List Rc} (h : RRow w w.heap.size A xs) (hb : Below w.heap.size w w') : RRow w' w'.heap.size A xs := fun h0 => by
  obtain ⟨p, off, rfl, hp, hr⟩ := h h0
  exact ⟨p, off, rfl, Nat.lt_of_lt_of_le hp hb.size, fun i hi => by
    obtain ⟨A', c', h1, h2⟩ := hr i hi
    exact ⟨A', c', h1.keep hb, h2.at_ hb⟩⟩
/-- bounds of a record's numbers -/
def Rc.ok (r : Rc) : Prop := r.nm.size ≤ 9223372036854775807 ∧ (0 ≤ r.a ∧ r.a < 18446744073709551616) ∧ (0 ≤ r.b ∧ r.b < 18446744073709551616) ∧ r.ds.length ≤ 9223372036854775807
end Go.Proofs.Ytielmnkhcljmeaa
