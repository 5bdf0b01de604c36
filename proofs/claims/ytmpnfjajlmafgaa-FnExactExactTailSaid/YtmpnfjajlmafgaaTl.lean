/-
  Contracts of the laws' helpers on tables: size, copy, compare; an argument opened (out of tpl9's XTt).
-/
import Derived.Test.YtmpnfjajlmafgaaGb
import Derived.Test.YtmpnfjajlmafgaaToi
import Derived.Test.YtmpnfjajlmafgaaOpen
import Derived.Test.YtmpnfjajlmafgaaOut
namespace Go.Proofs.Ytmpnfjajlmafgaa
open Go Go.RowKit Go.ChangeShapes Go.WideShapes Go.ChangeAt

/-- what is left of a size behind n more -/
def lessL (left n : Int) : Int := if left - n < 0 then -1 else left - n
theorem szInt64S_any (A : Option Addr) (n c : Nat) (left : Int) (w : World) (hn : n ≤ 9223372036854775807) (hl0 : 0 ≤ left) (hl : left ≤ 1048576) :
    Calls Try.prog 30 #[.slice A n c, .int .i64 left] w (SameOut (.int .i64 (lessL left n)) w) := by
  have hlo : lessL left n = if left - n < 0 then -1 else left - n := rfl
  generalize lessL left n = r at *
  by_cases h : left - n < 0
  · rw [if_pos h] at hlo
    have HL := Lib.hid hlo
    clear hlo
    go_enter Try.func30, Try.ntmps30
    go_wp2
    go_ret
    rw [HL.out]
    exact ⟨rfl, rfl⟩
  · rw [if_neg h] at hlo
    have HL := Lib.hid hlo
    clear hlo
    go_enter Try.func30, Try.ntmps30
    go_wp2
    go_ret
    rw [HL.out]
    exact ⟨rfl, rfl⟩
theorem szTable_any (r l : Int) (A : Option Addr) (n c : Nat) (left : Int) (w : World) (hn : n ≤ 9223372036854775807) (hl0 : 0 ≤ left) (hl : left ≤ 1048576) :
    Calls Try.prog 9 #[tbV r l A n c, .int .i64 left] w (fun e w' => e = .returned (.int .i64 (lessL left n)) ∧ Below w.heap.size w w') := by
  have HS := Lib.hid fun w => szInt64S_any A n c left w hn hl0 hl
  have hneg : -1 ≤ lessL left n ∧ lessL left n ≤ 1048576 ∧ (lessL left n < 0 → lessL left n = -1) := by
    unfold lessL
    split <;> omega
  unfold SameOut at HS
  unfold tbV
  generalize lessL left n = r2 at *
  obtain ⟨n1, n2, n3⟩ := hneg
  have N3 := Lib.hid n3
  clear n3
  by_cases hr2 : r2 < 0
  · go_enter Try.func9, Try.ntmps9
    go_wp2_with (go_at_call 30; refine (HS.out _).mono ?_; rintro e w1 ⟨rfl, rfl⟩)
    go_ret
    rw [N3.out hr2]
    exact ⟨rfl, below_al (Below.refl _ _) _⟩
  · go_enter Try.func9, Try.ntmps9
    go_wp2_with (go_at_call 30; refine (HS.out _).mono ?_; rintro e w1 ⟨rfl, rfl⟩)
    go_ret
    exact ⟨rfl, below_al (Below.refl _ _) _⟩
/-- a box of three cells that can be written -/
def B3 (W : World) (p : Nat) (v0 v1 v2 : Value) : Prop :=
  (W.cell? ⟨p, 0, none⟩ = some v0 ∧ W.cell? ⟨p, 1, none⟩ = some v1 ∧ W.cell? ⟨p, 2, none⟩ = some v2) ∧ ∀ o, W.frozen? ⟨p, o, none⟩ = false
theorem B3.lt {W : World} {p : Nat} {v0 v1 v2 : Value} (h : B3 W p v0 v1 v2) : p < W.heap.size := lt_of_cell (a := ⟨p, 0, none⟩) h.1.1
theorem B3.keep {W W' : World} {p : Nat} {v0 v1 v2 : Value} (h : B3 W p v0 v1 v2) (hb : Below W.heap.size W W') : B3 W' p v0 v1 v2 :=
  ⟨⟨keepC hb h.1.1, keepC hb h.1.2.1, keepC hb h.1.2.2⟩, fun o => (hb.frozen (p := ⟨p, o, none⟩) h.lt).trans (h.2 o)⟩
set_option maxRecDepth 100000 in
set_option maxHeartbeats 3200000 in
theorem toTable_any (r l : Int) (A : Option Addr) (ds : List Int) (c : Nat) (w : World) (hx : ds.length ≤ 1048576) (h : Rd w w.heap.size A (il ds)) :
    Calls Try.prog 11 #[tbV r l A ds.length c] w (fun e w' => ∃ A', e = .returned (tbV r l A' ds.length ds.length) ∧ w'.ownsRow w.heap.size 2 1 (.slice A' ds.length ds.length) ds.length (il ds) ∧ Below w.heap.size w w') := by
  have HI := Lib.hid fun w h => toInt64S_any A ds c w hx h
  have HH := Lib.hid h
  unfold tbV
  clear h
  go_enter Try.func11, Try.ntmps11
  go_wp2_with fail
  generalize hW2 : World.alloc (World.alloc (World.alloc w _) _) _ = W2
  have k2 : W2.cell? ⟨w.heap.size, 2, none⟩ = some (.slice A ds.length c) := by rw [← hW2]; simp [go_sem]
  have P2 : B3 W2 (w.heap.size + 1) (.int .i64 0) (.int .i64 0) (.slice none 0 0) := by rw [← hW2]; simp [B3, go_sem]
  have Q2 : B3 W2 (w.heap.size + 1 + 1) (.int .i64 r) (.int .i64 l) (.slice none 0 0) := by rw [← hW2]; simp [B3, go_sem]
  have B2 : Below w.heap.size w W2 := by rw [← hW2]; exact below_al (below_al (below_al (Below.refl _ _) _) _) _
  have z2 : w.heap.size + 2 < W2.heap.size := lt_of_cell (a := ⟨w.heap.size + 1 + 1, 0, none⟩) Q2.1.1
  clear hW2
  refine (HI.out _ (HH.out.at_ B2)).mono ?_
  rintro e w3 ⟨A', rfl, hown, hb3⟩
  have P3 := P2.keep hb3
  have Q3 := Q2.keep hb3
  have B3' := Lib.hid (below_next B2 hb3)
  have O3 := Lib.hid (own_base hown (show w.heap.size + 3 ≤ W2.heap.size by omega))
  have z3 : w.heap.size + 2 < w3.heap.size := by have := hb3.size; omega
  clear hb3 hown k2 P2 Q2 B2 z2
  obtain ⟨⟨p0, p1, p2⟩, pf⟩ := P3
  obtain ⟨⟨q0, q1, q2⟩, qf⟩ := Q3
  go_wp2_with fail
  refine bodyPost_ret (v := .agg #[.int .i64 r, .int .i64 l, .slice A' ds.length ds.length]) (by simp [results, Try.results11, go_sem, p0, p1, p2]) rfl ⟨A', rfl, ?_, ?_⟩
  · refine own_base (base := w.heap.size + 3) ?_ (by omega)
    repeat (first | (with_reducible exact O3.out) | (with_reducible refine ownsRow_setCell_below ?_ (by simp; try omega) _))
  · repeat (first | (with_reducible exact B3'.out) | (with_reducible refine below_set ?_ _ _ (by simp; try omega)))
set_option maxHeartbeats 1600000 in
theorem eqTable_yes (r l : Int) (A B : Option Addr) (ds : List Int) (c d : Nat) (w : World) (hx : ds.length ≤ 9223372036854775807) (hA : Rd w w.heap.size A (il ds)) (hB : Rd w w.heap.size B (il ds)) :
    Calls Try.prog 13 #[tbV r l A ds.length c, tbV r l B ds.length d] w (fun e w' => e = .returned (.bool true) ∧ Below w.heap.size w w') := by
  have HI := Lib.hid fun w hA hB => eqInt64S_yes A B ds c d w hx hA hB
  have HA := Lib.hid hA
  have HB := Lib.hid hB
  unfold tbV
  unfold Quiet at HI
  clear hA hB
  go_enter Try.func13, Try.ntmps13
  go_wp2_with fail
  generalize hW1 : World.alloc (World.alloc w _) _ = W1
  have B1 : Below w.heap.size w W1 := by rw [← hW1]; exact below_al (below_al (Below.refl _ _) _) _
  clear hW1
  refine (HI.out _ (HA.out.at_ B1) (HB.out.at_ B1)).mono ?_
  rintro e w2 ⟨rfl, m, rfl⟩
  go_wp2_with fail
  go_ret
  exact ⟨rfl, below_drewN B1 m⟩
set_option maxRecDepth 100000 in
theorem open_table {H : Type} {enc : TypeId × Value → H} {W : World} {rc : Reach} {b0 : Nat} {v : Value} {d : DataW H} {ps : List MemPlace} (hv : Value.okWide Try.prog W rc b0 24 v) (h : DataW.Trod enc Try.prog W 0 (fun _ => true) true 24 v d ps) :
    ∃ (r l : Int) (A : Option Addr) (xs : List Int) (c : Nat), v = tbV r l A xs.length c ∧ xs.length ≤ 9223372036854775807 ∧ Rd W W.heap.size A (il xs) := by
  obtain ⟨cs, rfl, hsz⟩ := okWide_struct Try.underlying24 hv
  rw [show Try.prog.cellsOf 24 = 3 by kernel_rfl] at hsz
  obtain ⟨cl⟩ := cs
  match cl, hsz with
  | [c0, c1, c2], _ =>
    obtain ⟨fuel, hf⟩ := h
    obtain ⟨ys, n, _, _, _, hlen, hg⟩ := DataW.trod_struct Try.underlying24 hf
    have h0 : DataW.trod enc Try.prog W 0 (fun _ => true) true n 2 ((([c0, c1, c2] : List Value).drop 0).take (Try.prog.cellsOf 2)) = ys[0]? := hg 0 _ rfl
    have h1 : DataW.trod enc Try.prog W 0 (fun _ => true) true n 2 ((([c0, c1, c2] : List Value).drop 1).take (Try.prog.cellsOf 2)) = ys[1]? := hg 1 _ rfl
    have h2 : DataW.trod enc Try.prog W 0 (fun _ => true) true n 22 ((([c0, c1, c2] : List Value).drop 2).take (Try.prog.cellsOf 22)) = ys[2]? := hg 2 _ rfl
    rw [show Try.prog.cellsOf 2 = 1 by kernel_rfl] at h0 h1
    rw [show Try.prog.cellsOf 22 = 1 by kernel_rfl] at h2
    match ys, hlen with
    | [y0, y1, y2], _ =>
      have e0 : DataW.trod enc Try.prog W 0 (fun _ => true) true n 2 [c0] = some y0 := h0
      have e1 : DataW.trod enc Try.prog W 0 (fun _ => true) true n 2 [c1] = some y1 := h1
      have e2 : DataW.trod enc Try.prog W 0 (fun _ => true) true n 22 [c2] = some y2 := h2
      obtain ⟨r, er, _, hr⟩ := DataW.trod_int Try.underlying2 e0
      obtain ⟨l, el, _, hl⟩ := DataW.trod_int Try.underlying2 e1
      obtain rfl : c0 = .int .i64 r := by simpa using er
      obtain rfl : c1 = .int .i64 l := by simpa using el
      obtain ⟨A, xs, c, rfl, hc, hm, hr, hok⟩ := open_row (Value.int .i64) (fun n => (Lit.int .i64 n).wf = true) Try.underlying22 (show Try.prog.cellsOf 2 = 1 by kernel_rfl)
        (fun n cs y hy => by obtain ⟨z, hz, _, hw⟩ := DataW.trod_int Try.underlying2 hy; exact ⟨z, hz, hw⟩) e2
      exact ⟨r, l, A, xs, c, rfl, by unfold maxLen at hm; omega, hr⟩
theorem tab_no {n : Nat} (h : ¬ lessL 1048576 n < 0) : n ≤ 1048576 := by
  unfold lessL at h
  split at h <;> omega
end Go.Proofs.Ytmpnfjajlmafgaa
