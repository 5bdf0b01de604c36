/-
  Contracts of the laws' helpers on records: size, copy, compare.
-/
import Derived.Test.YtielmnkhcljmeaaDoorTi
import Derived.Test.YtielmnkhcljmeaaDoorRc3
namespace Go.Proofs.YtielmnkhcljmeaaDoor
open Go Go.RowKit

theorem toSeed_any (k a b : Int) (w : World) : Calls Tryd.prog 30 #[.agg #[.int .i64 k, .int .u64 a, .int .u64 b]] w (fun e w' => e = .returned (.agg #[.int .i64 k, .int .u64 a, .int .u64 b]) ∧ Below w.heap.size w w') := by
  go_enter Tryd.func30, Tryd.ntmps30
  go_wp2
  refine bodyPost_ret (v := .agg #[.int .i64 k, .int .u64 a, .int .u64 b]) (by simp [results, Tryd.results30, go_sem]) rfl ⟨rfl, ?_⟩
  exact below_al (below_al (below_al (Below.refl _ _) _) _) _
theorem eqSeed_yes (k a b : Int) (w : World) : Calls Tryd.prog 37 #[.agg #[.int .i64 k, .int .u64 a, .int .u64 b], .agg #[.int .i64 k, .int .u64 a, .int .u64 b]] w (fun e w' => e = .returned (.bool true) ∧ Below w.heap.size w w') := by
  go_enter Tryd.func37, Tryd.ntmps37
  go_wp2
  go_ret
  exact ⟨rfl, below_al (below_al (Below.refl _ _) _) _⟩
/-- what is left of a size behind n more -/
def lessL (left n : Int) : Int := if left - n < 0 then -1 else left - n
theorem szInt64S_any (A : Option Addr) (n c : Nat) (left : Int) (w : World) (hn : n ≤ 9223372036854775807) (hl0 : 0 ≤ left) (hl : left ≤ 1048576) :
    Calls Tryd.prog 28 #[.slice A n c, .int .i64 left] w (SameOut (.int .i64 (lessL left n)) w) := by
  have hlo : lessL left n = if left - n < 0 then -1 else left - n := rfl
  generalize lessL left n = r at *
  by_cases h : left - n < 0
  · rw [if_pos h] at hlo
    have HL := Lib.hid hlo
    clear hlo
    go_enter Tryd.func28, Tryd.ntmps28
    go_wp2
    go_ret
    rw [HL.out]
    exact ⟨rfl, rfl⟩
  · rw [if_neg h] at hlo
    have HL := Lib.hid hlo
    clear hlo
    go_enter Tryd.func28, Tryd.ntmps28
    go_wp2
    go_ret
    rw [HL.out]
    exact ⟨rfl, rfl⟩
def recLess (left : Int) (s : ByteArray) (n : Nat) : Int := if lessL left s.size < 0 then -1 else lessL (lessL left s.size) n
theorem szRecord_any (nm : ByteArray) (k a b : Int) (A : Option Addr) (n c : Nat) (left : Int) (w : World) (hs : nm.size ≤ 9223372036854775807) (hn : n ≤ 9223372036854775807) (hl0 : 0 ≤ left) (hl : left ≤ 1048576) :
    Calls Tryd.prog 8 #[rcV nm k a b A n c, .int .i64 left] w (fun e w' => e = .returned (.int .i64 (recLess left nm n)) ∧ Below w.heap.size w w') := by
  have hr : recLess left nm n = if lessL left nm.size < 0 then -1 else lessL (lessL left nm.size) n := rfl
  have hlo : lessL left nm.size = if left - nm.size < 0 then -1 else left - nm.size := rfl
  unfold rcV
  generalize recLess left nm n = r at *
  by_cases h : left - nm.size < 0
  · rw [if_pos h] at hlo
    rw [hlo, if_pos (by decide)] at hr
    have HR := Lib.hid hr
    clear hr hlo
    go_enter Tryd.func8, Tryd.ntmps8
    go_wp2
    go_ret
    rw [HR.out]
    exact ⟨rfl, below_al (Below.refl _ _) _⟩
  · rw [if_neg h] at hlo
    rw [hlo, if_neg h] at hr
    have HS := Lib.hid fun w => szInt64S_any A n c (left - nm.size) w hn (by omega) (by omega)
    have hlo2 : lessL (left - nm.size) n = if left - nm.size - n < 0 then -1 else left - nm.size - n := rfl
    have hneg : -1 ≤ lessL (left - nm.size) n ∧ lessL (left - nm.size) n ≤ 1048576 ∧ (lessL (left - nm.size) n < 0 → lessL (left - nm.size) n = -1) := by
      rw [hlo2]
      split <;> omega
    have HR := Lib.hid hr
    unfold SameOut at HS
    clear hr hlo hlo2
    generalize lessL (left - nm.size) n = r2 at *
    obtain ⟨n1, n2, n3⟩ := hneg
    have N3 := Lib.hid n3
    clear n3
    by_cases hr2 : r2 < 0
    · go_enter Tryd.func8, Tryd.ntmps8
      go_wp2_with (go_at_call 28; refine (HS.out _).mono ?_; rintro e w1 ⟨rfl, rfl⟩)
      go_ret
      rw [HR.out, N3.out hr2]
      exact ⟨rfl, below_al (Below.refl _ _) _⟩
    · go_enter Tryd.func8, Tryd.ntmps8
      go_wp2_with (go_at_call 28; refine (HS.out _).mono ?_; rintro e w1 ⟨rfl, rfl⟩)
      go_ret
      rw [HR.out]
      exact ⟨rfl, below_al (Below.refl _ _) _⟩
/-- a box of five cells that can be written -/
def B5 (W : World) (p : Nat) (v0 v1 v2 v3 v4 : Value) : Prop :=
  (W.cell? ⟨p, 0, none⟩ = some v0 ∧ W.cell? ⟨p, 1, none⟩ = some v1 ∧ W.cell? ⟨p, 2, none⟩ = some v2 ∧ W.cell? ⟨p, 3, none⟩ = some v3 ∧ W.cell? ⟨p, 4, none⟩ = some v4) ∧ ∀ o, W.frozen? ⟨p, o, none⟩ = false
theorem B5.lt {W : World} {p : Nat} {v0 v1 v2 v3 v4 : Value} (h : B5 W p v0 v1 v2 v3 v4) : p < W.heap.size := lt_of_cell (a := ⟨p, 0, none⟩) h.1.1
theorem B5.keep {W W' : World} {p : Nat} {v0 v1 v2 v3 v4 : Value} (h : B5 W p v0 v1 v2 v3 v4) (hb : Below W.heap.size W W') : B5 W' p v0 v1 v2 v3 v4 :=
  ⟨⟨keepC hb h.1.1, keepC hb h.1.2.1, keepC hb h.1.2.2.1, keepC hb h.1.2.2.2.1, keepC hb h.1.2.2.2.2⟩, fun o => (hb.frozen (p := ⟨p, o, none⟩) h.lt).trans (h.2 o)⟩
set_option maxRecDepth 100000 in
set_option maxHeartbeats 3200000 in
theorem toRecord_any (nm : ByteArray) (k a b : Int) (A : Option Addr) (ds : List Int) (c : Nat) (w : World) (hx : ds.length ≤ 1048576) (h : Rd w w.heap.size A (il ds)) :
    Calls Tryd.prog 10 #[rcV nm k a b A ds.length c] w (fun e w' => ∃ A', e = .returned (rcV nm k a b A' ds.length ds.length) ∧ w'.ownsRow w.heap.size 2 1 (.slice A' ds.length ds.length) ds.length (il ds) ∧ Below w.heap.size w w') := by
  have HT := Lib.hid fun w => toSeed_any k a b w
  have HI := Lib.hid fun w h => toInt64S_any A ds c w hx h
  have HH := Lib.hid h
  unfold rcV
  clear h
  go_enter Tryd.func10, Tryd.ntmps10
  go_wp2_with fail
  generalize hW0 : World.alloc (World.alloc (World.alloc w _) _) _ = W0
  have z0 : w.heap.size + 2 < W0.heap.size := by rw [← hW0]; simp
  have B0 : Below w.heap.size w W0 := by rw [← hW0]; exact below_al (below_al (below_al (Below.refl _ _) _) _) _
  have k0 : W0.cell? ⟨w.heap.size, 4, none⟩ = some (.slice A ds.length c) := by rw [← hW0]; simp [go_sem]
  have P0 : B5 W0 (w.heap.size + 1) (.string ⟨#[]⟩) (.int .i64 0) (.int .u64 0) (.int .u64 0) (.slice none 0 0) := by rw [← hW0]; simp [B5, go_sem]
  have Q0 : B5 W0 (w.heap.size + 1 + 1) (.string nm) (.int .i64 0) (.int .u64 0) (.int .u64 0) (.slice none 0 0) := by rw [← hW0]; simp [B5, go_sem]
  clear hW0
  refine (HT.out _).mono ?_
  rintro e w1 ⟨rfl, hb1⟩
  have k1 := keepC hb1 k0
  have P1 := Lib.hid (P0.keep hb1)
  have Q1 := Q0.keep hb1
  have Q1' := Lib.hid Q1
  have B1 := Lib.hid (below_next B0 hb1)
  have z1 : w.heap.size + 2 < w1.heap.size := by have := hb1.size; omega
  clear hb1 k0 P0 Q0 B0 z0
  obtain ⟨⟨q0, q1, q2, q3, q4⟩, qf⟩ := Q1
  go_wp2_with fail
  generalize hW2 : World.setCell (World.setCell (World.setCell _ _ _) _ _) _ _ = W2
  have k2 : W2.cell? ⟨w.heap.size, 4, none⟩ = some (.slice A ds.length c) := by rw [← hW2]; simpa [go_sem] using k1
  have P2 : B5 W2 (w.heap.size + 1) (.string ⟨#[]⟩) (.int .i64 0) (.int .u64 0) (.int .u64 0) (.slice none 0 0) := by rw [← hW2]; obtain ⟨⟨p0, p1, p2, p3, p4⟩, pf⟩ := P1.out; simp [B5, go_sem, p0, p1, p2, p3, p4, pf]
  have Q2 : B5 W2 (w.heap.size + 1 + 1) (.string nm) (.int .i64 k) (.int .u64 a) (.int .u64 b) (.slice none 0 0) := by rw [← hW2]; simp [B5, go_sem, q0, q1, q2, q3, q4, qf]
  have B2 : Below w.heap.size w W2 := by rw [← hW2]; exact below_set (below_set (below_set B1.out _ _ (by simp; omega)) _ _ (by simp; omega)) _ _ (by simp; omega)
  have z2 : w.heap.size + 2 < W2.heap.size := lt_of_cell (a := ⟨w.heap.size + 1 + 1, 0, none⟩) Q2.1.1
  clear hW2 k1 P1 Q1' B1 z1 q0 q1 q2 q3 q4 qf
  refine (HI.out _ (HH.out.at_ B2)).mono ?_
  rintro e w3 ⟨A', rfl, hown, hb3⟩
  have P3 := P2.keep hb3
  have Q3 := Q2.keep hb3
  have P3' := Lib.hid P3
  have Q3' := Lib.hid Q3
  have B3 := Lib.hid (below_next B2 hb3)
  have O3 := Lib.hid (own_base hown (show w.heap.size + 3 ≤ W2.heap.size by omega))
  have z3 : w.heap.size + 2 < w3.heap.size := by have := hb3.size; omega
  clear hb3 hown k2 P2 Q2 B2 z2
  obtain ⟨⟨p0, p1, p2, p3, p4⟩, pf⟩ := P3
  obtain ⟨⟨q0, q1, q2, q3, q4⟩, qf⟩ := Q3
  go_wp2_with fail
  refine bodyPost_ret (v := .agg #[.string nm, .int .i64 k, .int .u64 a, .int .u64 b, .slice A' ds.length ds.length]) (by simp [results, Tryd.results10, go_sem, p0, p1, p2, p3, p4]) rfl ⟨A', rfl, ?_, ?_⟩
  · refine own_base (base := w.heap.size + 3) ?_ (by omega)
    repeat (first | (with_reducible exact O3.out) | (with_reducible refine ownsRow_setCell_below ?_ (by simp; try omega) _))
  · repeat (first | (with_reducible exact B3.out) | (with_reducible refine below_set ?_ _ _ (by simp; try omega)))
set_option maxHeartbeats 1600000 in
theorem eqRecord_yes (nm : ByteArray) (k a b : Int) (A B : Option Addr) (ds : List Int) (c d : Nat) (w : World) (hx : ds.length ≤ 9223372036854775807) (hA : Rd w w.heap.size A (il ds)) (hB : Rd w w.heap.size B (il ds)) :
    Calls Tryd.prog 12 #[rcV nm k a b A ds.length c, rcV nm k a b B ds.length d] w (fun e w' => e = .returned (.bool true) ∧ Below w.heap.size w w') := by
  have HS := Lib.hid fun w => eqSeed_yes k a b w
  have HI := Lib.hid fun w hA hB => eqInt64S_yes A B ds c d w hx hA hB
  have HA := Lib.hid hA
  have HB := Lib.hid hB
  unfold rcV
  clear hA hB
  go_enter Tryd.func12, Tryd.ntmps12
  go_wp2_with fail
  generalize hW0 : World.alloc (World.alloc w _) _ = W0
  have B0 : Below w.heap.size w W0 := by rw [← hW0]; exact below_al (below_al (Below.refl _ _) _) _
  have k0 : W0.cell? ⟨w.heap.size, 4, none⟩ = some (.slice A ds.length c) := by rw [← hW0]; simp [go_sem]
  have k1 : W0.cell? ⟨w.heap.size + 1, 4, none⟩ = some (.slice B ds.length d) := by rw [← hW0]; simp [go_sem]
  clear hW0
  refine (HS.out _).mono ?_
  rintro e w1 ⟨rfl, hb1⟩
  have c0 := keepC hb1 k0
  have c1 := keepC hb1 k1
  have B1 := Lib.hid (below_next B0 hb1)
  clear hb1 k0 k1 B0
  go_wp2_with (go_at_call 38; refine (HI.out _ (HA.out.at_ B1.out) (HB.out.at_ B1.out)).mono ?_; rintro e w2 ⟨rfl, m, rfl⟩)
  go_ret
  exact ⟨rfl, below_dn B1.out m⟩
end Go.Proofs.YtielmnkhcljmeaaDoor
