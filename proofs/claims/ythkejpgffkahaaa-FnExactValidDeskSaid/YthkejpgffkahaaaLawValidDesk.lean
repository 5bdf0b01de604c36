/-
  impl.ValidDesk returns what spec.ValidDesk returns, for all desks (the law FnExactValidDesk returns true), and leaves them as they were. No condition.
-/
import Derived.Test.YthkejpgffkahaaaVd
import Derived.Test.YthkejpgffkahaaaOpen
import Derived.Deep.RegionHeld3
namespace Go.Proofs.Ythkejpgffkahaaa.lawValidDesk
open Go Go.ChangeShapes Go.WideShapes Go.ChangeAt Go.RowKit Go.Joins

set_option maxRecDepth 100000 in
theorem open_desk {H : Type} {enc : TypeId × Value → H} {W : World} {rc : Reach} {b0 : Nat} {v : Value} {d : DataW H} {ps : List MemPlace} (hv : Value.okWide Try.prog W rc b0 30 v) (h : DataW.Trod enc Try.prog W 0 (fun _ => true) true 30 v d ps) :
    ∃ (k a b r l : Int) (A B C : Option Addr) (xs ys : List Int) (zs : List Nat) (c1 c2 c3 : Nat), v = dkA A B C xs.length ys.length zs.length c1 c2 c3 k a b r l ∧ xs.length ≤ 9223372036854775807 ∧ ys.length ≤ 9223372036854775807 ∧ zs.length ≤ 9223372036854775807 ∧ (0 ≤ b ∧ b < 18446744073709551616) ∧ Rd W W.heap.size A (il xs) ∧ Rd W W.heap.size B (il ys) ∧ Rd W W.heap.size C (fl zs) := by
  obtain ⟨cs, rfl, hsz⟩ := okWide_struct Try.underlying30 hv
  rw [show Try.prog.cellsOf 30 = 8 by kernel_rfl] at hsz
  obtain ⟨cl⟩ := cs
  match cl, hsz with
  | [e0, e1, e2, e3, e4, e5, e6, e7], _ =>
    obtain ⟨fuel, hf⟩ := h
    obtain ⟨ys, n, _, _, _, hlen, hg⟩ := DataW.trod_struct Try.underlying30 hf
    have h0 : DataW.trod enc Try.prog W 0 (fun _ => true) true n 24 ((([e0, e1, e2, e3, e4, e5, e6, e7] : List Value).drop 0).take (Try.prog.cellsOf 24)) = ys[0]? := hg 0 _ rfl
    have h1 : DataW.trod enc Try.prog W 0 (fun _ => true) true n 27 ((([e0, e1, e2, e3, e4, e5, e6, e7] : List Value).drop 3).take (Try.prog.cellsOf 27)) = ys[1]? := hg 1 _ rfl
    have h2 : DataW.trod enc Try.prog W 0 (fun _ => true) true n 25 ((([e0, e1, e2, e3, e4, e5, e6, e7] : List Value).drop 6).take (Try.prog.cellsOf 25)) = ys[2]? := hg 2 _ rfl
    have h3 : DataW.trod enc Try.prog W 0 (fun _ => true) true n 28 ((([e0, e1, e2, e3, e4, e5, e6, e7] : List Value).drop 7).take (Try.prog.cellsOf 28)) = ys[3]? := hg 3 _ rfl
    rw [show Try.prog.cellsOf 24 = 3 by kernel_rfl] at h0
    rw [show Try.prog.cellsOf 27 = 3 by kernel_rfl] at h1
    rw [show Try.prog.cellsOf 25 = 1 by kernel_rfl] at h2
    rw [show Try.prog.cellsOf 28 = 1 by kernel_rfl] at h3
    match ys, hlen with
    | [y0, y1, y2, y3], _ =>
      have f0 : DataW.trod enc Try.prog W 0 (fun _ => true) true n 24 [e0, e1, e2] = some y0 := h0
      have f1 : DataW.trod enc Try.prog W 0 (fun _ => true) true n 27 [e3, e4, e5] = some y1 := h1
      have f2 : DataW.trod enc Try.prog W 0 (fun _ => true) true n 25 [e6] = some y2 := h2
      have f3 : DataW.trod enc Try.prog W 0 (fun _ => true) true n 28 [e7] = some y3 := h3
      obtain ⟨zs, m, _, _, _, hzl, hz⟩ := DataW.trod_struct Try.underlying24 f0
      have g0 : DataW.trod enc Try.prog W 0 (fun _ => true) true m 2 ((([e0, e1, e2] : List Value).drop 0).take (Try.prog.cellsOf 2)) = zs[0]? := hz 0 _ rfl
      have g1 : DataW.trod enc Try.prog W 0 (fun _ => true) true m 22 ((([e0, e1, e2] : List Value).drop 1).take (Try.prog.cellsOf 22)) = zs[1]? := hz 1 _ rfl
      have g2 : DataW.trod enc Try.prog W 0 (fun _ => true) true m 22 ((([e0, e1, e2] : List Value).drop 2).take (Try.prog.cellsOf 22)) = zs[2]? := hz 2 _ rfl
      rw [show Try.prog.cellsOf 2 = 1 by kernel_rfl] at g0
      rw [show Try.prog.cellsOf 22 = 1 by kernel_rfl] at g1 g2
      obtain ⟨ts, m2, _, _, _, htl, ht⟩ := DataW.trod_struct Try.underlying27 f1
      have j0 : DataW.trod enc Try.prog W 0 (fun _ => true) true m2 2 ((([e3, e4, e5] : List Value).drop 0).take (Try.prog.cellsOf 2)) = ts[0]? := ht 0 _ rfl
      have j1 : DataW.trod enc Try.prog W 0 (fun _ => true) true m2 2 ((([e3, e4, e5] : List Value).drop 1).take (Try.prog.cellsOf 2)) = ts[1]? := ht 1 _ rfl
      have j2 : DataW.trod enc Try.prog W 0 (fun _ => true) true m2 25 ((([e3, e4, e5] : List Value).drop 2).take (Try.prog.cellsOf 25)) = ts[2]? := ht 2 _ rfl
      rw [show Try.prog.cellsOf 2 = 1 by kernel_rfl] at j0 j1
      rw [show Try.prog.cellsOf 25 = 1 by kernel_rfl] at j2
      match zs, hzl with
      | [z0, z1, z2], _ =>
        match ts, htl with
        | [t0, t1, t2], _ =>
          have k0 : DataW.trod enc Try.prog W 0 (fun _ => true) true m 2 [e0] = some z0 := g0
          have k1 : DataW.trod enc Try.prog W 0 (fun _ => true) true m 22 [e1] = some z1 := g1
          have k2 : DataW.trod enc Try.prog W 0 (fun _ => true) true m 22 [e2] = some z2 := g2
          have k3 : DataW.trod enc Try.prog W 0 (fun _ => true) true m2 2 [e3] = some t0 := j0
          have k4 : DataW.trod enc Try.prog W 0 (fun _ => true) true m2 2 [e4] = some t1 := j1
          have k5 : DataW.trod enc Try.prog W 0 (fun _ => true) true m2 25 [e5] = some t2 := j2
          obtain ⟨k, ek, _, _⟩ := DataW.trod_int Try.underlying2 k0
          obtain ⟨a, ea, _, _⟩ := DataW.trod_int Try.underlying22 k1
          obtain ⟨b, eb, _, wb⟩ := DataW.trod_int Try.underlying22 k2
          obtain ⟨r, er, _, _⟩ := DataW.trod_int Try.underlying2 k3
          obtain ⟨l, el, _, _⟩ := DataW.trod_int Try.underlying2 k4
          obtain rfl : e0 = .int .i64 k := by simpa using ek
          obtain rfl : e1 = .int .u64 a := by simpa using ea
          obtain rfl : e2 = .int .u64 b := by simpa using eb
          obtain rfl : e3 = .int .i64 r := by simpa using er
          obtain rfl : e4 = .int .i64 l := by simpa using el
          have hint : ∀ (n : Nat) (cs : List Value) y, DataW.trod enc Try.prog W 0 (fun _ => true) true n 2 cs = some y → ∃ z, cs = [.int .i64 z] ∧ (Lit.int .i64 z).wf = true := fun n cs y hy => by obtain ⟨z, hz, _, hw⟩ := DataW.trod_int Try.underlying2 hy; exact ⟨z, hz, hw⟩
          obtain ⟨A, xs, c1, rfl, _, hm1, hr1, _⟩ := open_row (Value.int .i64) (fun n => (Lit.int .i64 n).wf = true) Try.underlying25 (show Try.prog.cellsOf 2 = 1 by kernel_rfl) (fun n cs y hy => hint n cs y hy) k5
          obtain ⟨B, ws, c2, rfl, _, hm2, hr2, _⟩ := open_row (Value.int .i64) (fun n => (Lit.int .i64 n).wf = true) Try.underlying25 (show Try.prog.cellsOf 2 = 1 by kernel_rfl) (fun n cs y hy => hint n cs y hy) f2
          obtain ⟨C, qs, c3, rfl, _, hm3, hr3, hok⟩ := open_row (Value.float .f32) (fun b => (Lit.float .f32 b).wf = true) Try.underlying28 (show Try.prog.cellsOf 61 = 1 by kernel_rfl) (fun n cs y hy => trod_float Try.underlying61 hy) f3
          exact ⟨k, a, b, r, l, A, B, C, xs, ws, qs, c1, c2, c3, rfl, by unfold maxLen at hm1; omega, by unfold maxLen at hm2; omega, by unfold maxLen at hm3; omega, u64_bd wb, hr1, hr2, hr3⟩


set_option maxRecDepth 100000 in
set_option maxHeartbeats 12800000 in
theorem walk (k a b r l : Int) (A B C : Option Addr) (xs ys : List Int) (zs : List Nat) (c1 c2 c3 : Nat) (w : World)
    (hx : xs.length ≤ 9223372036854775807) (hy : ys.length ≤ 9223372036854775807) (hz : zs.length ≤ 9223372036854775807) (hb0 : 0 ≤ b ∧ b < 18446744073709551616) (hA : Rd w w.heap.size A (il xs)) (hB : Rd w w.heap.size B (il ys)) (hC : Rd w w.heap.size C (fl zs)) :
    Calls Try.prog 3 #[dkA A B C xs.length ys.length zs.length c1 c2 c3 k a b r l] w (fun e w' => e = .returned (.bool true) ∧ Below w.heap.size w w') := by
  have HZ1 := Lib.hid fun w => szDesk_any k a b r l A B C xs.length ys.length zs.length c1 c2 c3 1048576 w hx hy hz (by omega) (by omega)
  have HN1 : ¬ dkLeft 1048576 xs.length ys.length zs.length < 0 → xs.length ≤ 1048576 ∧ ys.length ≤ 1048576 ∧ zs.length ≤ 1048576 := fun h => by
    obtain ⟨f1, f2, f3, _, _⟩ := dkLeft_facts (by omega) (by omega) (by omega) (by omega) (by omega) h
    omega
  generalize dkLeft 1048576 xs.length ys.length zs.length = z1 at *
  by_cases h1 : z1 < 0
  · clear HN1
    unfold dkA at *
    go_enter Try.func3, Try.ntmps3
    go_wp2_with fail
    refine (HZ1.out _).mono ?_
    rintro e w1 ⟨rfl, hb1⟩
    have B1 := Lib.hid (below_next (below_al (Below.refl _ _) _) hb1)
    clear hb1
    go_wp2_with fail
    go_ret
    exact ⟨rfl, B1.out⟩
  obtain ⟨sx, sy, sz⟩ := HN1 h1
  have HS := Lib.hid fun A B C w q1 q2 q3 => specValidDesk_any k a b r l A B C xs ys zs xs.length ys.length zs.length w hb0 sx sy sz q1 q2 q3
  have HI := Lib.hid fun A B C w q1 q2 q3 => ValidDesk_any k a b r l A B C xs ys zs xs.length ys.length zs.length w hb0 sx sy sz q1 q2 q3
  have HT1 := Lib.hid fun w q1 q2 q3 => toDesk_any k a b r l A B C xs ys zs c1 c2 c3 w sx sy sz q1 q2 q3
  have HE1 := Lib.hid fun A A' B B' C C' w q1 q2 q3 q4 q5 q6 => eqDesk_yes k a b r l A A' B B' C C' xs ys zs xs.length ys.length zs.length xs.length ys.length zs.length w hx hy hz q1 q2 q3 q4 q5 q6
  have HA := Lib.hid hA
  have HB := Lib.hid hB
  have HC := Lib.hid hC
  clear HN1 hA hB hC
  unfold dkA BoolOut at *
  generalize deskB k a b r l xs ys zs = R at *
  cases R
  all_goals
    go_enter Try.func3, Try.ntmps3
    go_wp2_with fail
    generalize hW1 : World.alloc w _ = W1
    have b1 : Below w.heap.size w W1 := by rw [← hW1]; exact below_al (Below.refl _ _) _
    have k1 : DkAt W1 w.heap.size k a b r l A B C xs.length ys.length zs.length c1 c2 c3 := by rw [← hW1]; simp [DkAt, go_sem]
    clear hW1
    refine (HZ1.out _).mono ?_
    rintro e w3 ⟨rfl, hb2⟩
    have K3 := Lib.hid (k1.keep hb2)
    have B3 := Lib.hid (below_next b1 hb2)
    clear hb2 k1 b1
    obtain ⟨kk0, kk1, kk2, kk3, kk4, kk5, kk6, kk7⟩ := K3.out
    go_wp2_with fail
    refine (HT1.out _ (HA.out.at_ B3.out) (HB.out.at_ B3.out) (HC.out.at_ B3.out)).mono ?_
    rintro e w4 ⟨A4, E4, F4, rfl, q1, q2, q3, hb4⟩
    have K4 := Lib.hid (K3.out.keep hb4)
    have B4 := Lib.hid (below_next B3.out hb4)
    have R4 := Lib.hid (And.intro q1 (And.intro q2 q3))
    clear hb4 q1 q2 q3 K3 B3 kk0 kk1 kk2 kk3 kk4 kk5 kk6 kk7
    go_wp2_with fail
    refine (HS.out _ _ _ _ R4.out.1 R4.out.2.1 R4.out.2.2).mono ?_
    rintro e w6 ⟨rfl, hb6⟩
    have K6 := Lib.hid (K4.out.keep hb6)
    have B6 := Lib.hid (below_next B4.out hb6)
    clear hb6 K4 B4 R4
    obtain ⟨kk0, kk1, kk2, kk3, kk4, kk5, kk6, kk7⟩ := K6.out
    go_wp2_with fail
    refine (HT1.out _ (HA.out.at_ B6.out) (HB.out.at_ B6.out) (HC.out.at_ B6.out)).mono ?_
    rintro e w7 ⟨A7, E7, F7, rfl, q1, q2, q3, hb7⟩
    have K7 := Lib.hid (K6.out.keep hb7)
    have B7 := Lib.hid (below_next B6.out hb7)
    have R7 := Lib.hid (And.intro q1 (And.intro q2 q3))
    clear hb7 q1 q2 q3 K6 B6 kk0 kk1 kk2 kk3 kk4 kk5 kk6 kk7
    have lt7 : w.heap.size < w7.heap.size := lt_of_cell (a := ⟨w.heap.size, 0, none⟩) K7.out.1
    go_wp2_with fail
    generalize hW8 : World.alloc w7 _ = W8
    have b78 : Below w7.heap.size w7 W8 := by rw [← hW8]; exact below_al (Below.refl _ _) _
    have X8 : DkAt W8 w7.heap.size k a b r l A7 E7 F7 xs.length ys.length zs.length xs.length ys.length zs.length := by rw [← hW8]; simp [DkAt, go_sem]
    have K8 := Lib.hid (K7.out.keep b78)
    have B8' := Lib.hid (below_next B7.out b78)
    have R8 := Lib.hid (And.intro (R7.out.1.at_ b78) (And.intro (R7.out.2.1.at_ b78) (R7.out.2.2.at_ b78)))
    clear hW8 b78 K7 B7 R7
    refine (HI.out _ _ _ _ R8.out.1 R8.out.2.1 R8.out.2.2).mono ?_
    rintro e w11 ⟨rfl, hb11⟩
    have K11 := Lib.hid (K8.out.keep hb11)
    have X11 := Lib.hid (X8.keep hb11)
    have B11 := Lib.hid (below_next B8'.out hb11)
    have R11 := Lib.hid (And.intro (R8.out.1.at_ hb11) (And.intro (R8.out.2.1.at_ hb11) (R8.out.2.2.at_ hb11)))
    clear hb11 K8 X8 B8' R8
    have HM11 : Hid (∀ W, Below w11.heap.size w11 W → W.cell? ⟨w.heap.size, 0, none⟩ = some (.int .i64 k) ∧ W.cell? ⟨w.heap.size, 1, none⟩ = some (.int .u64 a) ∧ W.cell? ⟨w.heap.size, 2, none⟩ = some (.int .u64 b) ∧ W.cell? ⟨w.heap.size, 3, none⟩ = some (.int .i64 r) ∧ W.cell? ⟨w.heap.size, 4, none⟩ = some (.int .i64 l) ∧ W.cell? ⟨w.heap.size, 5, none⟩ = some (.slice A xs.length c1) ∧ W.cell? ⟨w.heap.size, 6, none⟩ = some (.slice B ys.length c2) ∧ W.cell? ⟨w.heap.size, 7, none⟩ = some (.slice C zs.length c3) ∧ W.cell? ⟨w7.heap.size, 0, none⟩ = some (.int .i64 k) ∧ W.cell? ⟨w7.heap.size, 1, none⟩ = some (.int .u64 a) ∧ W.cell? ⟨w7.heap.size, 2, none⟩ = some (.int .u64 b) ∧ W.cell? ⟨w7.heap.size, 3, none⟩ = some (.int .i64 r) ∧ W.cell? ⟨w7.heap.size, 4, none⟩ = some (.int .i64 l) ∧ W.cell? ⟨w7.heap.size, 5, none⟩ = some (.slice A7 xs.length xs.length) ∧ W.cell? ⟨w7.heap.size, 6, none⟩ = some (.slice E7 ys.length ys.length) ∧ W.cell? ⟨w7.heap.size, 7, none⟩ = some (.slice F7 zs.length zs.length)) := Lib.hid fun W hW => by
      obtain ⟨u0, u1, u2, u3, u4, u5, u6, u7⟩ := K11.out.keep hW
      obtain ⟨v0, v1, v2, v3, v4, v5, v6, v7⟩ := X11.out.keep hW
      exact ⟨u0, u1, u2, u3, u4, u5, u6, u7, v0, v1, v2, v3, v4, v5, v6, v7⟩
    obtain ⟨kk0, kk1, kk2, kk3, kk4, kk5, kk6, kk7⟩ := K11.out
    obtain ⟨xx0, xx1, xx2, xx3, xx4, xx5, xx6, xx7⟩ := X11.out
    go_wp2_with fail
    go_region_held3 (fun W => W.cell? ⟨w.heap.size, 0, none⟩ = some (.int .i64 k) ∧ W.cell? ⟨w.heap.size, 1, none⟩ = some (.int .u64 a) ∧ W.cell? ⟨w.heap.size, 2, none⟩ = some (.int .u64 b) ∧ W.cell? ⟨w.heap.size, 3, none⟩ = some (.int .i64 r) ∧ W.cell? ⟨w.heap.size, 4, none⟩ = some (.int .i64 l) ∧ W.cell? ⟨w.heap.size, 5, none⟩ = some (.slice A xs.length c1) ∧ W.cell? ⟨w.heap.size, 6, none⟩ = some (.slice B ys.length c2) ∧ W.cell? ⟨w.heap.size, 7, none⟩ = some (.slice C zs.length c3) ∧ W.cell? ⟨w7.heap.size, 0, none⟩ = some (.int .i64 k) ∧ W.cell? ⟨w7.heap.size, 1, none⟩ = some (.int .u64 a) ∧ W.cell? ⟨w7.heap.size, 2, none⟩ = some (.int .u64 b) ∧ W.cell? ⟨w7.heap.size, 3, none⟩ = some (.int .i64 r) ∧ W.cell? ⟨w7.heap.size, 4, none⟩ = some (.int .i64 l) ∧ W.cell? ⟨w7.heap.size, 5, none⟩ = some (.slice A7 xs.length xs.length) ∧ W.cell? ⟨w7.heap.size, 6, none⟩ = some (.slice E7 ys.length ys.length) ∧ W.cell? ⟨w7.heap.size, 7, none⟩ = some (.slice F7 zs.length zs.length))
      (first | exact HM11.out _ (Below.refl _ _) | exact HM11.out _ (below_dr (Below.refl _ _)) | exact HM11.out _ bk13 | exact HM11.out _ bk12)
      (first
        | (go_at_call 6; refine (HT1.out _ (HA.out.at_ (below_dr B11.out)) (HB.out.at_ (below_dr B11.out)) (HC.out.at_ (below_dr B11.out))).mono ?_; rintro e w12 ⟨A12, E12, F12, rfl, q1, q2, q3, hb12⟩; have bk12 : Below w11.heap.size w11 w12 := below_next (below_dr (Below.refl _ _)) hb12; have U12 := Lib.hid (And.intro q1 (And.intro q2 q3)); have V12 := Lib.hid (And.intro (R11.out.1.at_ bk12) (And.intro (R11.out.2.1.at_ bk12) (R11.out.2.2.at_ bk12))); clear q1 q2 q3 hb12)
        | (go_at_call 8; refine (HE1.out _ _ _ _ _ _ _ V12.out.1 U12.out.1 V12.out.2.1 U12.out.2.1 V12.out.2.2 U12.out.2.2).mono ?_; rintro e w13 ⟨rfl, hb13⟩; have bk13 : Below w11.heap.size w11 w13 := below_next bk12 hb13; clear hb13))
    have B13 := Lib.hid (below_next B11.out bk13)
    clear bk12 bk13
    go_wp2_with fail
    go_ret
    exact ⟨rfl, B13.out⟩

set_option maxRecDepth 100000 in
set_option maxHeartbeats 3200000 in
theorem lifted (os : Os) (started : os.Started) (H : Type) (enc : TypeId × Value → H) :
    ReturnsInHanded {} Try.checked os 3 .any (Rows.fnExactValidDeskSpec.pre6 enc Try.prog Try.f3 Rows.fnExactValidDeskRow.domain false) (Rows.fnExactValidDeskSpec.post enc Try.prog Try.f3 false true false false) := by
  refine returnsInHanded_of_change (C := Try.checked) own started (by kernel_rfl) Try.func3
    (ChangeSpec.witness6 (enc := enc) (C := Try.checked) false ⟨#[], #[.agg #[.int .i64 0, .int .u64 0, .int .u64 0, .int .i64 0, .int .i64 0, .slice none 0 0, .slice none 0 0, .slice none 0 0]], []⟩ 8 (by kernel_rfl) (by kernel_rfl) (by kernel_rfl) (by kernel_rfl)) ?_
  intro W base args ds gs before hval0 hW hcnd _
  have hval : ∀ (j : Nat) t v, Try.f3.params[j]? = some t → args[j]? = some v → Value.okWide Try.prog W .any base t v := hval0
  have hW' := hW
  have hlt : ∀ p ∈ before, p.block < W.heap.size := fun p hp => hW.lt p hp
  obtain ⟨p, q, hA0, hV, rfl, hfz, hnd⟩ := hW
  have hA : DataW.TrodAll enc Try.prog W 0 (fun _ => true) true Try.f3.params.toList args.toList ds p := hA0
  rw [Try.params3] at hA hval
  have hA1 := hA
  obtain ⟨v0, vs0, d0, ds0, p0, q0, hargs, rfl, rfl, h0, r0⟩ := trodAll_cons hA
  obtain ⟨rfl, rfl, rfl⟩ := trodAll_nil r0
  obtain rfl : args = #[v0] := by cases args; simp_all
  obtain ⟨rfl, rfl⟩ := trodVars_none hV
  obtain ⟨dk0, da0, db0, dr0, dl0, dA0, dB0, dC0, dx0, dy0, dz0, dc1_0, dc2_0, dc3_0, rfl, gx0, gy0, gz0, gb0, gA0, gB0, gC0⟩ := open_desk (hval 0 _ _ rfl rfl) h0
  clear hA0 hval0
  refine (walk dk0 da0 db0 dr0 dl0 dA0 dB0 dC0 dx0 dy0 dz0 dc1_0 dc2_0 dc3_0 W gx0 gy0 gz0 gb0 gA0 gB0 gC0).mono fun e W' ⟨he, hb⟩ => ?_
  subst he
  rw [List.append_nil] at hW' hlt
  exact ⟨_, rfl, post_of_below (pa := _) (pv := []) hW' (fun _ _ _ => (trodAll_cons_mk (shut_bool Try.underlying4 _) trodAll_mk0))
    (fun sp hsp => trodAll_below cl_laid hb _ _ _ _ (by kernel_rfl) hA1 hlt hsp) (fun _ _ => rfl) (List.append_nil _).symm hb (ok_one (by kernel_rfl) rfl (okWide_bool_mk Try.underlying4 _))⟩

theorem g0 : Try.prog.funcNamed Rows.fnExactValidDeskRow.func = some 3 := by kernel_rfl
theorem g1 : Rows.fnExactValidDeskRow.inPlace = Try.prog.inPlace 3 := by kernel_rfl
theorem g2 : Rows.fnExactValidDeskRow.unfollowed = Try.prog.unfollowed 3 := by kernel_rfl
theorem g3 : Rows.fnExactValidDeskRow.recurses = Try.prog.recurses 3 := by kernel_rfl
theorem g4 : Rows.fnExactValidDeskRow.named = Try.prog.varsNamed 3 := by kernel_rfl
theorem g5 : Rows.fnExactValidDeskRow.wf (OpenSpec.ofChange Rows.fnExactValidDeskSpec) = true := by kernel_rfl
theorem g6 : (Try.f3.params.all (Try.prog.readableRec ·)) = true := by kernel_rfl
theorem g7 : Rows.fnExactValidDeskRow.veiledFits Try.prog Try.f3.params.toList (Try.f3.params.toList ++ Try.f3.resultTypes.toList) = true := by kernel_rfl
theorem g8 : joinedFacts Try.prog 3 Try.f3 Rows.fnExactValidDeskSpec Rows.fnExactValidDeskRow = true :=
  gen_facts _ _ _ _ rfl rfl cl_laid cl_maps cl_stops cl_knobs cl_heard cl_enter cl_lifts cl_make g5 g6 rfl rfl rfl g1 g2 g3 g4
    (by as_aux_lemma => kernel_rfl) (by as_aux_lemma => kernel_rfl) (by as_aux_lemma => kernel_rfl) (by as_aux_lemma => kernel_rfl) (by as_aux_lemma => kernel_rfl) (by as_aux_lemma => kernel_rfl) (by as_aux_lemma => kernel_rfl) (by as_aux_lemma => kernel_rfl)
    cl_keys.symm rfl rfl rfl rfl rfl (by as_aux_lemma => kernel_rfl) (by as_aux_lemma => kernel_rfl) g7
theorem g9 : Try.f3.isInstance Try.prog Rows.fnExactValidDeskRow.origin Rows.fnExactValidDeskRow.targs := of_decide_eq_true (by kernel_rfl)
theorem g10 : Try.f3.isWrapper Try.prog Rows.fnExactValidDeskRow.wrapper Rows.fnExactValidDeskRow.mainSum := by
  unfold Func.isWrapper; first | (rw [if_pos (by decide +kernel)]; kernel_rfl) | (rw [if_neg (by decide +kernel)]; exact ⟨rfl, rfl⟩)
theorem over : Rows.fnExactValidDeskRow.holds Try.pinned (OpenSpec.ofChange Rows.fnExactValidDeskSpec) :=
  OpenClaim.holds_of_wide 3 Try.f3 rfl rfl rfl rfl rfl rfl rfl ⟨rfl, rfl, rfl, rfl, rfl⟩ rfl rfl rfl rfl rfl g0 Try.func3 g8 g9 g10 (fun os started H enc _ => lifted os started H enc)
theorem proved : Rows.FnExactValidDeskSaid := over
end Go.Proofs.Ythkejpgffkahaaa.lawValidDesk
