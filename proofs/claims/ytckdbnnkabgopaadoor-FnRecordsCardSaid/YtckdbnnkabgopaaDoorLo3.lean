/-
  spec.l07Load.
-/
import Derived.Test.YtckdbnnkabgopaaDoorLo2
import Derived.Test.YtckdbnnkabgopaaDoorRc7
import Derived.Test.YtckdbnnkabgopaaDoorTi
import Derived.Deep.RegionHeld3
import Derived.Deep.AppendLies
import Derived.Deep.RegionLaw
import Derived.WideShapes
namespace Go.Proofs.YtckdbnnkabgopaaDoor
open Go Go.RowKit

theorem str_of {s : ByteArray} {l : List UInt8} (h : s.data.toList = l) : s = ⟨l.toArray⟩ := WideShapes.bytes_inj (by rw [h])
theorem ext_bytes (s : ByteArray) (a b : Nat) : (s.extract a b).data.toList = (s.data.toList.drop a).take (b - a) := Lib.extract_data ..
/-- a record that is being read lies in block p; its row behind it -/
def RB (W1 : World) (p : Nat) (nm : ByteArray) (k a b : Int) (m : Nat) (ds : List Int) (wr : World) : Prop :=
  ∃ A c, Below p W1 wr ∧ p + 1 ≤ wr.heap.size ∧ RcAt wr p nm k a b A m c ∧ (∀ o, wr.frozen? ⟨p, o, none⟩ = false) ∧ wr.ownsRow (p + 1) 2 1 (.slice A m c) m (il ds)
theorem RB_step {W1 wr w2 w3 : World} {p m c g cap : Nat} {nm : ByteArray} {k a b x : Int} {A : Option Addr} {ds ds' : List Int} {o : Obj}
    (hbw : Below p W1 wr) (hsz : p + 1 ≤ wr.heap.size) (hc : RcAt wr p nm k a b A m c) (hfr : ∀ o, wr.frozen? ⟨p, o, none⟩ = false)
    (hown : wr.ownsRow (p + 1) 2 1 (.slice A m c) m (il ds)) (hk2 : Below wr.heap.size wr w2)
    (hgrow : (w2.alloc o).grownBy w3 (Value.slice A m c).ownBlock)
    (hown3 : w3.ownsRow (p + 1) 2 1 (.slice (some ⟨g, 0, none⟩) (m + 1) cap) (m + 1) (il ds ++ [.int .i64 x])) (hx : ds' = ds ++ [x]) :
    w3.cell? ⟨p, 4, none⟩ = some (.slice A m c) ∧ (∀ o, w3.frozen? ⟨p, o, none⟩ = false) ∧ RB W1 p nm k a b (m + 1) ds' (w3.setCell ⟨p, 4, none⟩ (.slice (some ⟨g, 0, none⟩) (m + 1) cap)) := by
  have hs2 := hk2.size
  have hk3 : Below wr.heap.size wr (w2.alloc o) := hk2.alloc hs2 o
  have hb3 : Below (p + 1) wr w3 := Below.grown (hk3.mono hsz) hgrow (by simp; omega) (fun j hj => (hown.lt _ hj).1)
  have hcl : ∀ i, w3.cell? ⟨p, i, none⟩ = wr.cell? ⟨p, i, none⟩ := fun i => hb3.cell (show p < p + 1 by omega)
  have hf : ∀ i, w3.frozen? ⟨p, i, none⟩ = false := fun i => (hb3.frozen (show p < p + 1 by omega)).trans (hfr i)
  obtain ⟨c0, c1, c2, c3, c4⟩ := hc
  have h4 := (hcl 4).trans c4
  refine ⟨h4, hf, some ⟨g, 0, none⟩, cap, (hbw.trans (hb3.mono (by omega))).setCell (Nat.le_refl _) _, ?_, ⟨?_, ?_, ?_, ?_, ?_⟩, ?_, ?_⟩
  · have := hb3.size
    simp [World.setCell]
    omega
  · exact ((World.cell?_setCell_other _ _ _ _ (by simp)).trans (hcl 0)).trans c0
  · exact ((World.cell?_setCell_other _ _ _ _ (by simp)).trans (hcl 1)).trans c1
  · exact ((World.cell?_setCell_other _ _ _ _ (by simp)).trans (hcl 2)).trans c2
  · exact ((World.cell?_setCell_other _ _ _ _ (by simp)).trans (hcl 3)).trans c3
  · exact World.cell?_setCell_same _ _ _ h4
  · intro o; rw [World.frozen?_setCell]; exact hf o
  · rw [hx]
    have := ownsRow_setCell_below hown3 (a := ⟨p, 4, none⟩) (show p < p + 1 by omega) (.slice (some ⟨g, 0, none⟩) (m + 1) cap)
    simpa [il] using this
/-- what a text tells as a record -/
def nmS (l : List UInt8) : ByteArray := ⟨(nmL l).toArray⟩
def okL (l : List UInt8) : Bool := recB (nmL l) (kL l) (aL l) (bL l) (dsL l (manyL l)) && decide (storeL (nmL l) (kL l) (aL l) (bL l) (dsL l (manyL l)) = l.take (longL l))
def ldB (l : List UInt8) : Bool := decide (longL l ≠ 0) && decide (longL l = l.length) && okL l
structure Rc where
  nm : ByteArray
  k : Int
  a : Int
  b : Int
  ds : List Int
def Rc.zero : Rc := ⟨⟨#[]⟩, 0, 0, 0, []⟩
def Rc.of (l : List UInt8) : Rc := ⟨nmS l, kL l, aL l, bL l, dsL l (manyL l)⟩
def ldR (l : List UInt8) : Rc := if ldB l then Rc.of l else Rc.zero
def Rc.val (r : Rc) (A : Option Addr) (c : Nat) : Value := rcV r.nm r.k r.a r.b A r.ds.length c
def LdOut (s : ByteArray) (w : World) (e : Ending) (w' : World) : Prop :=
  ∃ A c, e = .returned (.tuple #[(ldR s.data.toList).val A c, .bool (ldB s.data.toList)]) ∧ w'.ownsRow w.heap.size 2 1 (.slice A (ldR s.data.toList).ds.length c) (ldR s.data.toList).ds.length (il (ldR s.data.toList).ds) ∧ Below w.heap.size w w'
theorem long_facts {l : List UInt8} (h : longL l ≠ 0) : 5 ≤ l.length ∧ atL l + 19 ≤ l.length ∧ endL l + 2 ≤ l.length ∧ longL l = endL l + 2 := by
  unfold longL at h ⊢
  split
  · rename_i h1; rw [if_pos h1] at h; omega
  · rename_i h1
    rw [if_neg h1] at h
    split
    · rename_i h2; rw [if_pos h2] at h; omega
    · rename_i h2
      rw [if_neg h2] at h
      split
      · rename_i h3; rw [if_pos h3] at h; omega
      · exact ⟨by omega, by omega, by omega, rfl⟩
theorem nm_ext (s : ByteArray) (h : atL s.data.toList ≤ s.size) : s.extract 5 (atL s.data.toList) = nmS s.data.toList := str_of (by
  rw [ext_bytes]
  unfold nmL atL
  rw [show 5 + byN s.data.toList 4 - 5 = byN s.data.toList 4 by omega])
theorem nmS_size {l : List UInt8} (h : atL l ≤ l.length) : (nmS l).size ≤ 255 := by
  rw [Lib.size_eq]
  show (nmL l).length ≤ 255
  unfold nmL
  rw [List.length_take]
  have := byN_lt l 4
  omega
end Go.Proofs.YtckdbnnkabgopaaDoor

