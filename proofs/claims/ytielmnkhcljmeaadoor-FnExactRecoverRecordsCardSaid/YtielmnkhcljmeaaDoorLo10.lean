/-
  Marks on records: markRecord, heldRecord.
-/
import Derived.Test.YtielmnkhcljmeaaDoorLo9
import Derived.Test.YtielmnkhcljmeaaDoorTr
namespace Go.Proofs.YtielmnkhcljmeaaDoor
open Go Go.RowKit

theorem grown_after {w w1 w2 : World} {row : Option Nat} (hb : Below w.heap.size w w1) (h : w1.grownBy w2 row) : w.grownBy w2 row :=
  ⟨h.os.trans hb.os, h.tape.trans hb.tape, h.output.trans hb.output, Nat.le_trans hb.size h.size, fun k hk hne => (h.block k (Nat.lt_of_lt_of_le hk hb.size) hne).trans (hb.block k hk)⟩
set_option maxHeartbeats 800000 in
theorem markRecord_any (nm : ByteArray) (k a b : Int) (A : Option Addr) (base n : Nat) (vs : List Value) (c : Nat) (w : World) (hx : n ≤ 1048576) (ho : w.ownsRow base 2 1 (.slice A n c) n vs) :
    Calls Tryd.prog 22 #[rcV nm k a b A n c, .int .i64 1] w (fun e w' => e = .returned (.int .i64 (1 + n)) ∧ w'.ownsRow base 2 1 (.slice A n c) n (il (marksI 1 n)) ∧ w.grownBy w' (Value.slice A n c).ownBlock) := by
  have HM := Lib.hid fun w ho => markInt64S_any A base n vs c 1 w hx (by omega) (by omega) ho
  have HO := Lib.hid ho
  unfold rcV
  clear ho
  go_enter Tryd.func22, Tryd.ntmps22
  go_wp2_with fail
  generalize hW1 : World.alloc w _ = W1
  have b1 : Below w.heap.size w W1 := by rw [← hW1]; exact below_al (Below.refl _ _) _
  clear hW1
  refine (HM.out _ (own_below HO.out b1)).mono ?_
  rintro e w2 ⟨rfl, ho2, hg2⟩
  have O2 := Lib.hid ho2
  have G2 := Lib.hid (grown_after b1 hg2)
  clear ho2 hg2
  go_wp2_with fail
  go_ret
  exact ⟨rfl, O2.out, G2.out⟩
set_option maxHeartbeats 800000 in
theorem heldRecord_any (nm : ByteArray) (k a b : Int) (A : Option Addr) (n c : Nat) (w : World) (hx : n ≤ 1048576) (hr : Rd w w.heap.size A (il (marksI 1 n))) :
    Calls Tryd.prog 23 #[rcV nm k a b A n c, .int .i64 1] w (fun e w' => e = .returned (.int .i64 (1 + n)) ∧ Below w.heap.size w w') := by
  have HM := Lib.hid fun w ho => heldInt64S_any A n c 1 w hx (by omega) (by omega) ho
  have HR := Lib.hid hr
  unfold rcV
  unfold Quiet at HM
  clear hr
  go_enter Tryd.func23, Tryd.ntmps23
  go_wp2_with fail
  generalize hW1 : World.alloc w _ = W1
  have b1 : Below w.heap.size w W1 := by rw [← hW1]; exact below_al (Below.refl _ _) _
  clear hW1
  refine (HM.out _ (HR.out.at_ b1)).mono ?_
  rintro e w2 ⟨rfl, m, rfl⟩
  go_wp2_with fail
  go_ret
  exact ⟨rfl, below_drewN b1 m⟩
theorem grown_cell {w w' : World} {row : Option Nat} (h : w.grownBy w' row) {p : Addr} (hp : p.block < w.heap.size) (hne : some p.block ≠ row) : w'.cell? p = w.cell? p := World.cell?_of_block (a := p) (h.block p.block hp hne)
theorem RcAt.grown {w w' : World} {p : Nat} {nm : ByteArray} {k a b : Int} {A : Option Addr} {n c : Nat} {row : Option Nat} (h : RcAt w p nm k a b A n c) (hg : w.grownBy w' row) (hne : some p ≠ row) : RcAt w' p nm k a b A n c := by
  have hl := h.lt
  obtain ⟨h0, h1, h2, h3, h4⟩ := h
  exact ⟨(grown_cell (p := ⟨p, 0, none⟩) hg hl hne).trans h0, (grown_cell (p := ⟨p, 1, none⟩) hg hl hne).trans h1, (grown_cell (p := ⟨p, 2, none⟩) hg hl hne).trans h2, (grown_cell (p := ⟨p, 3, none⟩) hg hl hne).trans h3, (grown_cell (p := ⟨p, 4, none⟩) hg hl hne).trans h4⟩
end Go.Proofs.YtielmnkhcljmeaaDoor
