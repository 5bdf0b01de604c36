/-
  Contracts of the laws' helpers on tables: size, copy, compare; an argument opened; the table of powers of ten.
-/
import Derived.Test.YtklkgacgmcnlnaaDoorTi
import Derived.Test.YtklkgacgmcnlnaaDoorTb3
import Derived.Test.YtklkgacgmcnlnaaDoorLift
import Derived.Stop.LaidErr
import Derived.MakeChecks
namespace Go.Proofs.YtklkgacgmcnlnaaDoor
open Go Go.RowKit Go.ChangeShapes Go.WideShapes Go.ChangeAt Go.Joins

/-- what is left of a size behind n more -/
def lessL (left n : Int) : Int := if left - n < 0 then -1 else left - n
theorem szInt64S_any (A : Option Addr) (n c : Nat) (left : Int) (w : World) (hn : n ≤ 9223372036854775807) (hl0 : 0 ≤ left) (hl : left ≤ 1048576) :
    Calls Tryd.prog 32 #[.slice A n c, .int .i64 left] w (SameOut (.int .i64 (lessL left n)) w) := by
  have hlo : lessL left n = if left - n < 0 then -1 else left - n := rfl
  generalize lessL left n = r at *
  by_cases h : left - n < 0
  · rw [if_pos h] at hlo
    have HL := Lib.hid hlo
    clear hlo
    go_enter Tryd.func32, Tryd.ntmps32
    go_wp2
    go_ret
    rw [HL.out]
    exact ⟨rfl, rfl⟩
  · rw [if_neg h] at hlo
    have HL := Lib.hid hlo
    clear hlo
    go_enter Tryd.func32, Tryd.ntmps32
    go_wp2
    go_ret
    rw [HL.out]
    exact ⟨rfl, rfl⟩
theorem szTable_any (r l : Int) (A : Option Addr) (n c : Nat) (left : Int) (w : World) (hn : n ≤ 9223372036854775807) (hl0 : 0 ≤ left) (hl : left ≤ 1048576) :
    Calls Tryd.prog 11 #[tbV r l A n c, .int .i64 left] w (fun e w' => e = .returned (.int .i64 (lessL left n)) ∧ Below w.heap.size w w') := by
  have HS := Lib.hid fun w => szInt64S_any A n c left w hn hl0 hl
  have hneg : -1 ≤ lessL left n ∧ lessL left n ≤ 1048576 ∧ (lessL left n < 0 → lessL left n = -1) := by
    unfold lessL
    split <;> omega
  unfold SameOut at HS
  unfold tbV
  generalize lessL left n = r2 at *
  obtain ⟨n1, n2, n3⟩ := hneg
  have N3 := Lib.hid n3
  clear n3
  by_cases hr2 : r2 < 0
  · go_enter Tryd.func11, Tryd.ntmps11
    go_wp2_with (go_at_call 32; refine (HS.out _).mono ?_; rintro e w1 ⟨rfl, rfl⟩)
    go_ret
    rw [N3.out hr2]
    exact ⟨rfl, below_al (Below.refl _ _) _⟩
  · go_enter Tryd.func11, Tryd.ntmps11
    go_wp2_with (go_at_call 32; refine (HS.out _).mono ?_; rintro e w1 ⟨rfl, rfl⟩)
    go_ret
    exact ⟨rfl, below_al (Below.refl _ _) _⟩
/-- a box of three cells that can be written -/
def B3 (W : World) (p : Nat) (v0 v1 v2 : Value) : Prop :=
  (W.cell? ⟨p, 0, none⟩ = some v0 ∧ W.cell? ⟨p, 1, none⟩ = some v1 ∧ W.cell? ⟨p, 2, none⟩ = some v2) ∧ ∀ o, W.frozen? ⟨p, o, none⟩ = false
theorem B3.lt {W : World} {p : Nat} {v0 v1 v2 : Value} (h : B3 W p v0 v1 v2) : p < W.heap.size := lt_of_cell (a := ⟨p, 0, none⟩) h.1.1
theorem B3.keep {W W' : World} {p : Nat} {v0 v1 v2 : Value} (h : B3 W p v0 v1 v2) (hb : Below W.heap.size W W') : B3 W' p v0 v1 v2 :=
  ⟨⟨keepC hb h.1.1, keepC hb h.1.2.1, keepC hb h.1.2.2⟩, fun o => (hb.frozen (p := ⟨p, o, none⟩) h.lt).trans (h.2 o)⟩
set_option maxRecDepth 100000 in
set_option maxHeartbeats 3200000 in
theorem toTable_any (r l : Int) (A : Option Addr) (ds : List Int) (c : Nat) (w : World) (hx : ds.length ≤ 1048576) (h : Rd w w.heap.size A (il ds)) :
    Calls Tryd.prog 13 #[tbV r l A ds.length c] w (fun e w' => ∃ A', e = .returned (tbV r l A' ds.length ds.length) ∧ w'.ownsRow w.heap.size 2 1 (.slice A' ds.length ds.length) ds.length (il ds) ∧ Below w.heap.size w w') := by
  have HI := Lib.hid fun w h => toInt64S_any A ds c w hx h
  have HH := Lib.hid h
  unfold tbV
  clear h
  go_enter Tryd.func13, Tryd.ntmps13
  go_wp2_with fail
  generalize hW2 : World.alloc (World.alloc (World.alloc w _) _) _ = W2
  have k2 : W2.cell? ⟨w.heap.size, 2, none⟩ = some (.slice A ds.length c) := by rw [← hW2]; simp [go_sem]
  have P2 : B3 W2 (w.heap.size + 1) (.int .i64 0) (.int .i64 0) (.slice none 0 0) := by rw [← hW2]; simp [B3, go_sem]
  have Q2 : B3 W2 (w.heap.size + 1 + 1) (.int .i64 r) (.int .i64 l) (.slice none 0 0) := by rw [← hW2]; simp [B3, go_sem]
  have B2 : Below w.heap.size w W2 := by rw [← hW2]; exact below_al (below_al (below_al (Below.refl _ _) _) _) _
  have z2 : w.heap.size + 2 < W2.heap.size := lt_of_cell (a := ⟨w.heap.size + 1 + 1, 0, none⟩) Q2.1.1
  clear hW2
  refine (HI.out _ (HH.out.at_ B2)).mono ?_
  rintro e w3 ⟨A', rfl, hown, hb3⟩
  have P3 := P2.keep hb3
  have Q3 := Q2.keep hb3
  have B3' := Lib.hid (below_next B2 hb3)
  have O3 := Lib.hid (own_base hown (show w.heap.size + 3 ≤ W2.heap.size by omega))
  have z3 : w.heap.size + 2 < w3.heap.size := by have := hb3.size; omega
  clear hb3 hown k2 P2 Q2 B2 z2
  obtain ⟨⟨p0, p1, p2⟩, pf⟩ := P3
  obtain ⟨⟨q0, q1, q2⟩, qf⟩ := Q3
  go_wp2_with fail
  refine bodyPost_ret (v := .agg #[.int .i64 r, .int .i64 l, .slice A' ds.length ds.length]) (by simp [results, Tryd.results13, go_sem, p0, p1, p2]) rfl ⟨A', rfl, ?_, ?_⟩
  · refine own_base (base := w.heap.size + 3) ?_ (by omega)
    repeat (first | (with_reducible exact O3.out) | (with_reducible refine ownsRow_setCell_below ?_ (by simp; try omega) _))
  · repeat (first | (with_reducible exact B3'.out) | (with_reducible refine below_set ?_ _ _ (by simp; try omega)))
set_option maxHeartbeats 1600000 in
theorem eqTable_yes (r l : Int) (A B : Option Addr) (ds : List Int) (c d : Nat) (w : World) (hx : ds.length ≤ 9223372036854775807) (hA : Rd w w.heap.size A (il ds)) (hB : Rd w w.heap.size B (il ds)) :
    Calls Tryd.prog 15 #[tbV r l A ds.length c, tbV r l B ds.length d] w (fun e w' => e = .returned (.bool true) ∧ Below w.heap.size w w') := by
  have HI := Lib.hid fun w hA hB => eqInt64S_yes A B ds c d w hx hA hB
  have HA := Lib.hid hA
  have HB := Lib.hid hB
  unfold tbV
  unfold Quiet at HI
  clear hA hB
  go_enter Tryd.func15, Tryd.ntmps15
  go_wp2_with fail
  generalize hW1 : World.alloc (World.alloc w _) _ = W1
  have B1 : Below w.heap.size w W1 := by rw [← hW1]; exact below_al (below_al (Below.refl _ _) _) _
  clear hW1
  refine (HI.out _ (HA.out.at_ B1) (HB.out.at_ B1)).mono ?_
  rintro e w2 ⟨rfl, m, rfl⟩
  go_wp2_with fail
  go_ret
  exact ⟨rfl, below_drewN B1 m⟩
set_option maxRecDepth 100000 in
theorem open_table {H : Type} {enc : TypeId × Value → H} {W : World} {rc : Reach} {b0 : Nat} {v : Value} {d : DataW H} {ps : List MemPlace} (hv : Value.okWide Tryd.prog W rc b0 32 v) (h : DataW.Trod enc Tryd.prog W 0 (fun _ => true) true 32 v d ps) :
    ∃ (r l : Int) (A : Option Addr) (xs : List Int) (c : Nat), v = tbV r l A xs.length c ∧ xs.length ≤ 9223372036854775807 ∧ Rd W W.heap.size A (il xs) := by
  obtain ⟨cs, rfl, hsz⟩ := okWide_struct Tryd.underlying32 hv
  rw [show Tryd.prog.cellsOf 32 = 3 by kernel_rfl] at hsz
  obtain ⟨cl⟩ := cs
  match cl, hsz with
  | [c0, c1, c2], _ =>
    obtain ⟨fuel, hf⟩ := h
    obtain ⟨ys, n, _, _, _, hlen, hg⟩ := DataW.trod_struct Tryd.underlying32 hf
    have h0 : DataW.trod enc Tryd.prog W 0 (fun _ => true) true n 2 ((([c0, c1, c2] : List Value).drop 0).take (Tryd.prog.cellsOf 2)) = ys[0]? := hg 0 _ rfl
    have h1 : DataW.trod enc Tryd.prog W 0 (fun _ => true) true n 2 ((([c0, c1, c2] : List Value).drop 1).take (Tryd.prog.cellsOf 2)) = ys[1]? := hg 1 _ rfl
    have h2 : DataW.trod enc Tryd.prog W 0 (fun _ => true) true n 30 ((([c0, c1, c2] : List Value).drop 2).take (Tryd.prog.cellsOf 30)) = ys[2]? := hg 2 _ rfl
    rw [show Tryd.prog.cellsOf 2 = 1 by kernel_rfl] at h0 h1
    rw [show Tryd.prog.cellsOf 30 = 1 by kernel_rfl] at h2
    match ys, hlen with
    | [y0, y1, y2], _ =>
      have e0 : DataW.trod enc Tryd.prog W 0 (fun _ => true) true n 2 [c0] = some y0 := h0
      have e1 : DataW.trod enc Tryd.prog W 0 (fun _ => true) true n 2 [c1] = some y1 := h1
      have e2 : DataW.trod enc Tryd.prog W 0 (fun _ => true) true n 30 [c2] = some y2 := h2
      obtain ⟨r, er, _, hr⟩ := DataW.trod_int Tryd.underlying2 e0
      obtain ⟨l, el, _, hl⟩ := DataW.trod_int Tryd.underlying2 e1
      obtain rfl : c0 = .int .i64 r := by simpa using er
      obtain rfl : c1 = .int .i64 l := by simpa using el
      obtain ⟨A, xs, c, rfl, hc, hm, hr, hok⟩ := open_row (Value.int .i64) (fun n => (Lit.int .i64 n).wf = true) Tryd.underlying30 (show Tryd.prog.cellsOf 2 = 1 by kernel_rfl)
        (fun n cs y hy => by obtain ⟨z, hz, _, hw⟩ := DataW.trod_int Tryd.underlying2 hy; exact ⟨z, hz, hw⟩) e2
      exact ⟨r, l, A, xs, c, rfl, by unfold maxLen at hm; omega, hr⟩
theorem tab_in_laid {laid : List (String × DataW Unit)} {pre suf : List (String × DataW Unit)} {w w' : World} (hl : laid = pre ++ ("internal/strconv.uint64pow10", Lib.tabData .u64 Lib.pow10Tab) :: suf) (hp : ∀ w, laidMetH Tryd.prog laid w = laidMet Tryd.prog laid w) (h : laidMetH Tryd.prog laid w) (he : w'.heap = w.heap) : Tab w' := by
  rw [hp, hl] at h
  have h2 : ∀ pre : List (String × DataW Unit), laidMet Tryd.prog (pre ++ ("internal/strconv.uint64pow10", Lib.tabData .u64 Lib.pow10Tab) :: suf) w → laidMet Tryd.prog (("internal/strconv.uint64pow10", Lib.tabData .u64 Lib.pow10Tab) :: suf) w := by
    intro pre
    induction pre with
    | nil => exact id
    | cons x xs ih => intro h; exact ih (laidMet.tail h)
  have h3 := Lib.tabIs_of_head (P := Tryd.prog) (g := 0) (by kernel_rfl) (by kernel_rfl) Tryd.underlying128 Tryd.underlying22 (by kernel_rfl) (by kernel_rfl) (h2 pre h)
  unfold Tab Lib.TabIs World.var? at *
  rw [he]
  exact h3
end Go.Proofs.YtklkgacgmcnlnaaDoor
