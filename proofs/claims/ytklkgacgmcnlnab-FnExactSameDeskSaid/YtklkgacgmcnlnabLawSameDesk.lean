/-
  impl.SameDesk returns what spec.SameDesk returns, for all desks (the law FnExactSameDesk returns true), and leaves them as they were. No condition.
-/
import Derived.Test.YtklkgacgmcnlnabSd3
import Derived.Test.YtklkgacgmcnlnabSd4
import Derived.Test.YtklkgacgmcnlnabOpen
import Derived.Deep.RegionHeld3
namespace Go.Proofs.Ytklkgacgmcnlnab.lawSameDesk
open Go Go.ChangeShapes Go.WideShapes Go.ChangeAt Go.RowKit Go.Joins

set_option maxRecDepth 100000 in
theorem open_desk {H : Type} {enc : TypeId × Value → H} {W : World} {rc : Reach} {b0 : Nat} {v : Value} {d : DataW H} {ps : List MemPlace} (hv : Value.okWide Try.prog W rc b0 30 v) (h : DataW.Trod enc Try.prog W 0 (fun _ => true) true 30 v d ps) :
    ∃ (k a b r l : Int) (A B C : Option Addr) (xs ys : List Int) (zs : List Nat) (c1 c2 c3 : Nat), v = dkA A B C xs.length ys.length zs.length c1 c2 c3 k a b r l ∧ xs.length ≤ 9223372036854775807 ∧ ys.length ≤ 9223372036854775807 ∧ zs.length ≤ 9223372036854775807 ∧ (∀ x ∈ zs, x < 4294967296) ∧ Rd W W.heap.size A (il xs) ∧ Rd W W.heap.size B (il ys) ∧ Rd W W.heap.size C (fl zs) := by
  obtain ⟨cs, rfl, hsz⟩ := okWide_struct Try.underlying30 hv
  rw [show Try.prog.cellsOf 30 = 8 by kernel_rfl] at hsz
  obtain ⟨cl⟩ := cs
  match cl, hsz with
  | [e0, e1, e2, e3, e4, e5, e6, e7], _ =>
    obtain ⟨fuel, hf⟩ := h
    obtain ⟨ys, n, _, _, _, hlen, hg⟩ := DataW.trod_struct Try.underlying30 hf
    have h0 : DataW.trod enc Try.prog W 0 (fun _ => true) true n 24 ((([e0, e1, e2, e3, e4, e5, e6, e7] : List Value).drop 0).take (Try.prog.cellsOf 24)) = ys[0]? := hg 0 _ rfl
    have h1 : DataW.trod enc Try.prog W 0 (fun _ => true) true n 27 ((([e0, e1, e2, e3, e4, e5, e6, e7] : List Value).drop 3).take (Try.prog.cellsOf 27)) = ys[1]? := hg 1 _ rfl
    have h2 : DataW.trod enc Try.prog W 0 (fun _ => true) true n 25 ((([e0, e1, e2, e3, e4, e5, e6, e7] : List Value).drop 6).take (Try.prog.cellsOf 25)) = ys[2]? := hg 2 _ rfl
    have h3 : DataW.trod enc Try.prog W 0 (fun _ => true) true n 28 ((([e0, e1, e2, e3, e4, e5, e6, e7] : List Value).drop 7).take (Try.prog.cellsOf 28)) = ys[3]? := hg 3 _ rfl
    rw [show Try.prog.cellsOf 24 = 3 by kernel_rfl] at h0
    rw [show Try.prog.cellsOf 27 = 3 by kernel_rfl] at h1
    rw [show Try.prog.cellsOf 25 = 1 by kernel_rfl] at h2
    rw [show Try.prog.cellsOf 28 = 1 by kernel_rfl] at h3
    match ys, hlen with
    | [y0, y1, y2, y3], _ =>
      have f0 : DataW.trod enc Try.prog W 0 (fun _ => true) true n 24 [e0, e1, e2] = some y0 := h0
      have f1 : DataW.trod enc Try.prog W 0 (fun _ => true) true n 27 [e3, e4, e5] = some y1 := h1
      have f2 : DataW.trod enc Try.prog W 0 (fun _ => true) true n 25 [e6] = some y2 := h2
      have f3 : DataW.trod enc Try.prog W 0 (fun _ => true) true n 28 [e7] = some y3 := h3
      obtain ⟨zs, m, _, _, _, hzl, hz⟩ := DataW.trod_struct Try.underlying24 f0
      have g0 : DataW.trod enc Try.prog W 0 (fun _ => true) true m 2 ((([e0, e1, e2] : List Value).drop 0).take (Try.prog.cellsOf 2)) = zs[0]? := hz 0 _ rfl
      have g1 : DataW.trod enc Try.prog W 0 (fun _ => true) true m 22 ((([e0, e1, e2] : List Value).drop 1).take (Try.prog.cellsOf 22)) = zs[1]? := hz 1 _ rfl
      have g2 : DataW.trod enc Try.prog W 0 (fun _ => true) true m 22 ((([e0, e1, e2] : List Value).drop 2).take (Try.prog.cellsOf 22)) = zs[2]? := hz 2 _ rfl
      rw [show Try.prog.cellsOf 2 = 1 by kernel_rfl] at g0
      rw [show Try.prog.cellsOf 22 = 1 by kernel_rfl] at g1 g2
      obtain ⟨ts, m2, _, _, _, htl, ht⟩ := DataW.trod_struct Try.underlying27 f1
      have j0 : DataW.trod enc Try.prog W 0 (fun _ => true) true m2 2 ((([e3, e4, e5] : List Value).drop 0).take (Try.prog.cellsOf 2)) = ts[0]? := ht 0 _ rfl
      have j1 : DataW.trod enc Try.prog W 0 (fun _ => true) true m2 2 ((([e3, e4, e5] : List Value).drop 1).take (Try.prog.cellsOf 2)) = ts[1]? := ht 1 _ rfl
      have j2 : DataW.trod enc Try.prog W 0 (fun _ => true) true m2 25 ((([e3, e4, e5] : List Value).drop 2).take (Try.prog.cellsOf 25)) = ts[2]? := ht 2 _ rfl
      rw [show Try.prog.cellsOf 2 = 1 by kernel_rfl] at j0 j1
      rw [show Try.prog.cellsOf 25 = 1 by kernel_rfl] at j2
      match zs, hzl with
      | [z0, z1, z2], _ =>
        match ts, htl with
        | [t0, t1, t2], _ =>
          have k0 : DataW.trod enc Try.prog W 0 (fun _ => true) true m 2 [e0] = some z0 := g0
          have k1 : DataW.trod enc Try.prog W 0 (fun _ => true) true m 22 [e1] = some z1 := g1
          have k2 : DataW.trod enc Try.prog W 0 (fun _ => true) true m 22 [e2] = some z2 := g2
          have k3 : DataW.trod enc Try.prog W 0 (fun _ => true) true m2 2 [e3] = some t0 := j0
          have k4 : DataW.trod enc Try.prog W 0 (fun _ => true) true m2 2 [e4] = some t1 := j1
          have k5 : DataW.trod enc Try.prog W 0 (fun _ => true) true m2 25 [e5] = some t2 := j2
          obtain ⟨k, ek, _, _⟩ := DataW.trod_int Try.underlying2 k0
          obtain ⟨a, ea, _, _⟩ := DataW.trod_int Try.underlying22 k1
          obtain ⟨b, eb, _, _⟩ := DataW.trod_int Try.underlying22 k2
          obtain ⟨r, er, _, _⟩ := DataW.trod_int Try.underlying2 k3
          obtain ⟨l, el, _, _⟩ := DataW.trod_int Try.underlying2 k4
          obtain rfl : e0 = .int .i64 k := by simpa using ek
          obtain rfl : e1 = .int .u64 a := by simpa using ea
          obtain rfl : e2 = .int .u64 b := by simpa using eb
          obtain rfl : e3 = .int .i64 r := by simpa using er
          obtain rfl : e4 = .int .i64 l := by simpa using el
          have hint : ∀ (n : Nat) (cs : List Value) y, DataW.trod enc Try.prog W 0 (fun _ => true) true n 2 cs = some y → ∃ z, cs = [.int .i64 z] ∧ (Lit.int .i64 z).wf = true := fun n cs y hy => by obtain ⟨z, hz, _, hw⟩ := DataW.trod_int Try.underlying2 hy; exact ⟨z, hz, hw⟩
          obtain ⟨A, xs, c1, rfl, _, hm1, hr1, _⟩ := open_row (Value.int .i64) (fun n => (Lit.int .i64 n).wf = true) Try.underlying25 (show Try.prog.cellsOf 2 = 1 by kernel_rfl) (fun n cs y hy => hint n cs y hy) k5
          obtain ⟨B, ws, c2, rfl, _, hm2, hr2, _⟩ := open_row (Value.int .i64) (fun n => (Lit.int .i64 n).wf = true) Try.underlying25 (show Try.prog.cellsOf 2 = 1 by kernel_rfl) (fun n cs y hy => hint n cs y hy) f2
          obtain ⟨C, qs, c3, rfl, _, hm3, hr3, hok⟩ := open_row (Value.float .f32) (fun b => (Lit.float .f32 b).wf = true) Try.underlying28 (show Try.prog.cellsOf 53 = 1 by kernel_rfl) (fun n cs y hy => trod_float Try.underlying53 hy) f3
          exact ⟨k, a, b, r, l, A, B, C, xs, ws, qs, c1, c2, c3, rfl, by unfold maxLen at hm1; omega, by unfold maxLen at hm2; omega, by unfold maxLen at hm3; omega, fun x hx => f32_bd (hok x hx), hr1, hr2, hr3⟩

/-- a box with a desk -/
def DkAt (w : World) (p : Nat) (k a b r l : Int) (A B C : Option Addr) (n1 n2 n3 c1 c2 c3 : Nat) : Prop :=
  w.cell? ⟨p, 0, none⟩ = some (.int .i64 k) ∧ w.cell? ⟨p, 1, none⟩ = some (.int .u64 a) ∧ w.cell? ⟨p, 2, none⟩ = some (.int .u64 b) ∧ w.cell? ⟨p, 3, none⟩ = some (.int .i64 r) ∧ w.cell? ⟨p, 4, none⟩ = some (.int .i64 l) ∧ w.cell? ⟨p, 5, none⟩ = some (.slice A n1 c1) ∧ w.cell? ⟨p, 6, none⟩ = some (.slice B n2 c2) ∧ w.cell? ⟨p, 7, none⟩ = some (.slice C n3 c3)
theorem DkAt.keep {w w' : World} {p : Nat} {k a b r l : Int} {A B C : Option Addr} {n1 n2 n3 c1 c2 c3 : Nat} (h : DkAt w p k a b r l A B C n1 n2 n3 c1 c2 c3) (hb : Below w.heap.size w w') : DkAt w' p k a b r l A B C n1 n2 n3 c1 c2 c3 := by
  obtain ⟨h0, h1, h2, h3, h4, h5, h6, h7⟩ := h
  exact ⟨keepC hb h0, keepC hb h1, keepC hb h2, keepC hb h3, keepC hb h4, keepC hb h5, keepC hb h6, keepC hb h7⟩

set_option maxRecDepth 100000 in
set_option maxHeartbeats 12800000 in
theorem walk (k a b r l : Int) (A B C : Option Addr) (xs ys : List Int) (zs : List Nat) (c1 c2 c3 : Nat) (k2 a2 b2 r2 l2 : Int) (A2 B2 C2 : Option Addr) (xs2 ys2 : List Int) (zs2 : List Nat) (d1 d2 d3 : Nat) (w : World)
    (hx : xs.length ≤ 9223372036854775807) (hy : ys.length ≤ 9223372036854775807) (hz : zs.length ≤ 9223372036854775807) (bz : ∀ x ∈ zs, x < 4294967296) (hA : Rd w w.heap.size A (il xs)) (hB : Rd w w.heap.size B (il ys)) (hC : Rd w w.heap.size C (fl zs))
    (hx2 : xs2.length ≤ 9223372036854775807) (hy2 : ys2.length ≤ 9223372036854775807) (hz2 : zs2.length ≤ 9223372036854775807) (bz2 : ∀ x ∈ zs2, x < 4294967296) (hA2 : Rd w w.heap.size A2 (il xs2)) (hB2 : Rd w w.heap.size B2 (il ys2)) (hC2 : Rd w w.heap.size C2 (fl zs2)) :
    Calls Try.prog 3 #[dkA A B C xs.length ys.length zs.length c1 c2 c3 k a b r l, dkA A2 B2 C2 xs2.length ys2.length zs2.length d1 d2 d3 k2 a2 b2 r2 l2] w (fun e w' => e = .returned (.bool true) ∧ Below w.heap.size w w') := by
  have HZ1 := Lib.hid fun w => szDesk_any k a b r l A B C xs.length ys.length zs.length c1 c2 c3 1048576 w hx hy hz (by omega) (by omega)
  have HZ2 : Hid (¬ dkLeft 1048576 xs.length ys.length zs.length < 0 → ∀ w, Calls Try.prog 4 #[dkA A2 B2 C2 xs2.length ys2.length zs2.length d1 d2 d3 k2 a2 b2 r2 l2, .int .i64 (dkLeft 1048576 xs.length ys.length zs.length)] w (fun e w' => e = .returned (.int .i64 (dkLeft (dkLeft 1048576 xs.length ys.length zs.length) xs2.length ys2.length zs2.length)) ∧ Below w.heap.size w w')) := Lib.hid fun h w => by
    obtain ⟨_, _, _, f1, f2⟩ := dkLeft_facts (by omega) (by omega) (by omega) (by omega) (by omega) h
    exact szDesk_any k2 a2 b2 r2 l2 A2 B2 C2 xs2.length ys2.length zs2.length d1 d2 d3 _ w hx2 hy2 hz2 f1 f2
  have HN1 : ¬ dkLeft 1048576 xs.length ys.length zs.length < 0 → xs.length ≤ 1048576 ∧ ys.length ≤ 1048576 ∧ zs.length ≤ 1048576 := fun h => by
    obtain ⟨f1, f2, f3, _, _⟩ := dkLeft_facts (by omega) (by omega) (by omega) (by omega) (by omega) h
    omega
  have HN2 : ¬ dkLeft 1048576 xs.length ys.length zs.length < 0 → ¬ dkLeft (dkLeft 1048576 xs.length ys.length zs.length) xs2.length ys2.length zs2.length < 0 → xs2.length ≤ 1048576 ∧ ys2.length ≤ 1048576 ∧ zs2.length ≤ 1048576 := fun h h' => by
    obtain ⟨_, _, _, g1, g2⟩ := dkLeft_facts (by omega) (by omega) (by omega) (by omega) (by omega) h
    obtain ⟨f1, f2, f3, _, _⟩ := dkLeft_facts g1 g2 (by omega) (by omega) (by omega) h'
    omega
  generalize dkLeft (dkLeft 1048576 xs.length ys.length zs.length) xs2.length ys2.length zs2.length = z2 at *
  generalize dkLeft 1048576 xs.length ys.length zs.length = z1 at *
  by_cases h1 : z1 < 0
  · clear HZ2 HN1 HN2
    unfold dkA at *
    go_enter Try.func3, Try.ntmps3
    go_wp2_with fail
    refine (HZ1.out _).mono ?_
    rintro e w1 ⟨rfl, hb1⟩
    have B1 := Lib.hid (below_next (below_al (below_al (Below.refl _ _) _) _) hb1)
    clear hb1
    go_wp2_with fail
    go_ret
    exact ⟨rfl, B1.out⟩
  have HZ2' := Lib.hid (HZ2.out h1)
  obtain ⟨sx, sy, sz⟩ := HN1 h1
  by_cases h2 : z2 < 0
  · clear HZ2 HN1 HN2
    unfold dkA at *
    go_enter Try.func3, Try.ntmps3
    go_wp2_with fail
    generalize hW1 : World.alloc (World.alloc w _) _ = W1
    have b1 : Below w.heap.size w W1 := by rw [← hW1]; exact below_al (below_al (Below.refl _ _) _) _
    have k1 : DkAt W1 w.heap.size k a b r l A B C xs.length ys.length zs.length c1 c2 c3 := by rw [← hW1]; simp [DkAt, go_sem]
    have m1 : DkAt W1 (w.heap.size + 1) k2 a2 b2 r2 l2 A2 B2 C2 xs2.length ys2.length zs2.length d1 d2 d3 := by rw [← hW1]; simp [DkAt, go_sem]
    clear hW1
    refine (HZ1.out _).mono ?_
    rintro e w2 ⟨rfl, hb2⟩
    have K2 := Lib.hid (k1.keep hb2)
    have M2 := Lib.hid (m1.keep hb2)
    have B2 := Lib.hid (below_next b1 hb2)
    clear hb2 k1 m1 b1
    obtain ⟨mm0, mm1, mm2, mm3, mm4, mm5, mm6, mm7⟩ := M2.out
    go_wp2_with fail
    refine (HZ2'.out _).mono ?_
    rintro e w3 ⟨rfl, hb3⟩
    have B3 := Lib.hid (below_next B2.out hb3)
    clear hb3
    go_wp2_with fail
    go_ret
    exact ⟨rfl, B3.out⟩
  obtain ⟨sx2, sy2, sz2⟩ := HN2 h1 h2
  have HS := Lib.hid fun A B C A2 B2 C2 w q1 q2 q3 q4 q5 q6 => specSameDesk_any k a b r l A B C xs ys zs xs.length ys.length zs.length k2 a2 b2 r2 l2 A2 B2 C2 xs2 ys2 zs2 xs2.length ys2.length zs2.length w hx hy hz hx2 hy2 hz2 bz bz2 q1 q2 q3 q4 q5 q6
  have HI := Lib.hid fun A B C A2 B2 C2 w q1 q2 q3 q4 q5 q6 => SameDesk_any k a b r l A B C xs ys zs xs.length ys.length zs.length k2 a2 b2 r2 l2 A2 B2 C2 xs2 ys2 zs2 xs2.length ys2.length zs2.length w hx hy hz hx2 hy2 hz2 bz bz2 q1 q2 q3 q4 q5 q6
  have HT1 := Lib.hid fun w q1 q2 q3 => toDesk_any k a b r l A B C xs ys zs c1 c2 c3 w sx sy sz q1 q2 q3
  have HT2 := Lib.hid fun w q1 q2 q3 => toDesk_any k2 a2 b2 r2 l2 A2 B2 C2 xs2 ys2 zs2 d1 d2 d3 w sx2 sy2 sz2 q1 q2 q3
  have HE1 := Lib.hid fun A A' B B' C C' w q1 q2 q3 q4 q5 q6 => eqDesk_yes k a b r l A A' B B' C C' xs ys zs xs.length ys.length zs.length xs.length ys.length zs.length w hx hy hz q1 q2 q3 q4 q5 q6
  have HE2 := Lib.hid fun A A' B B' C C' w q1 q2 q3 q4 q5 q6 => eqDesk_yes k2 a2 b2 r2 l2 A A' B B' C C' xs2 ys2 zs2 xs2.length ys2.length zs2.length xs2.length ys2.length zs2.length w hx2 hy2 hz2 q1 q2 q3 q4 q5 q6
  have HA := Lib.hid hA
  have HB := Lib.hid hB
  have HC := Lib.hid hC
  have HA2 := Lib.hid hA2
  have HB2 := Lib.hid hB2
  have HC2 := Lib.hid hC2
  clear HZ2 HN1 HN2 hA hB hC hA2 hB2 hC2 bz bz2
  unfold dkA at *
  generalize sameD k a b r l xs ys zs k2 a2 b2 r2 l2 xs2 ys2 zs2 = R at *
  cases R
  all_goals
    go_enter Try.func3, Try.ntmps3
    go_wp2_with fail
    generalize hW1 : World.alloc (World.alloc w _) _ = W1
    have b1 : Below w.heap.size w W1 := by rw [← hW1]; exact below_al (below_al (Below.refl _ _) _) _
    have k1 : DkAt W1 w.heap.size k a b r l A B C xs.length ys.length zs.length c1 c2 c3 := by rw [← hW1]; simp [DkAt, go_sem]
    have m1 : DkAt W1 (w.heap.size + 1) k2 a2 b2 r2 l2 A2 B2 C2 xs2.length ys2.length zs2.length d1 d2 d3 := by rw [← hW1]; simp [DkAt, go_sem]
    clear hW1
    refine (HZ1.out _).mono ?_
    rintro e w2 ⟨rfl, hb2⟩
    have K2 := Lib.hid (k1.keep hb2)
    have M2 := Lib.hid (m1.keep hb2)
    have B2 := Lib.hid (below_next b1 hb2)
    clear hb2 k1 m1 b1
    obtain ⟨mm0, mm1, mm2, mm3, mm4, mm5, mm6, mm7⟩ := M2.out
    go_wp2_with fail
    refine (HZ2'.out _).mono ?_
    rintro e w3 ⟨rfl, hb3⟩
    have K3 := Lib.hid (K2.out.keep hb3)
    have M3 := Lib.hid (M2.out.keep hb3)
    have B3 := Lib.hid (below_next B2.out hb3)
    clear hb3 K2 M2 B2 mm0 mm1 mm2 mm3 mm4 mm5 mm6 mm7
    have HM3 : Hid (∀ W, Below w3.heap.size w3 W → W.cell? ⟨w.heap.size, 0, none⟩ = some (.int .i64 k) ∧ W.cell? ⟨w.heap.size, 1, none⟩ = some (.int .u64 a) ∧ W.cell? ⟨w.heap.size, 2, none⟩ = some (.int .u64 b) ∧ W.cell? ⟨w.heap.size, 3, none⟩ = some (.int .i64 r) ∧ W.cell? ⟨w.heap.size, 4, none⟩ = some (.int .i64 l) ∧ W.cell? ⟨w.heap.size, 5, none⟩ = some (.slice A xs.length c1) ∧ W.cell? ⟨w.heap.size, 6, none⟩ = some (.slice B ys.length c2) ∧ W.cell? ⟨w.heap.size, 7, none⟩ = some (.slice C zs.length c3) ∧ W.cell? ⟨(w.heap.size + 1), 0, none⟩ = some (.int .i64 k2) ∧ W.cell? ⟨(w.heap.size + 1), 1, none⟩ = some (.int .u64 a2) ∧ W.cell? ⟨(w.heap.size + 1), 2, none⟩ = some (.int .u64 b2) ∧ W.cell? ⟨(w.heap.size + 1), 3, none⟩ = some (.int .i64 r2) ∧ W.cell? ⟨(w.heap.size + 1), 4, none⟩ = some (.int .i64 l2) ∧ W.cell? ⟨(w.heap.size + 1), 5, none⟩ = some (.slice A2 xs2.length d1) ∧ W.cell? ⟨(w.heap.size + 1), 6, none⟩ = some (.slice B2 ys2.length d2) ∧ W.cell? ⟨(w.heap.size + 1), 7, none⟩ = some (.slice C2 zs2.length d3)) := Lib.hid fun W hW => by
      obtain ⟨u0, u1, u2, u3, u4, u5, u6, u7⟩ := K3.out.keep hW
      obtain ⟨v0, v1, v2, v3, v4, v5, v6, v7⟩ := M3.out.keep hW
      exact ⟨u0, u1, u2, u3, u4, u5, u6, u7, v0, v1, v2, v3, v4, v5, v6, v7⟩
    obtain ⟨kk0, kk1, kk2, kk3, kk4, kk5, kk6, kk7⟩ := K3.out
    obtain ⟨mm0, mm1, mm2, mm3, mm4, mm5, mm6, mm7⟩ := M3.out
    go_wp2_with fail
    go_region_held3 (fun W => W.cell? ⟨w.heap.size, 0, none⟩ = some (.int .i64 k) ∧ W.cell? ⟨w.heap.size, 1, none⟩ = some (.int .u64 a) ∧ W.cell? ⟨w.heap.size, 2, none⟩ = some (.int .u64 b) ∧ W.cell? ⟨w.heap.size, 3, none⟩ = some (.int .i64 r) ∧ W.cell? ⟨w.heap.size, 4, none⟩ = some (.int .i64 l) ∧ W.cell? ⟨w.heap.size, 5, none⟩ = some (.slice A xs.length c1) ∧ W.cell? ⟨w.heap.size, 6, none⟩ = some (.slice B ys.length c2) ∧ W.cell? ⟨w.heap.size, 7, none⟩ = some (.slice C zs.length c3) ∧ W.cell? ⟨(w.heap.size + 1), 0, none⟩ = some (.int .i64 k2) ∧ W.cell? ⟨(w.heap.size + 1), 1, none⟩ = some (.int .u64 a2) ∧ W.cell? ⟨(w.heap.size + 1), 2, none⟩ = some (.int .u64 b2) ∧ W.cell? ⟨(w.heap.size + 1), 3, none⟩ = some (.int .i64 r2) ∧ W.cell? ⟨(w.heap.size + 1), 4, none⟩ = some (.int .i64 l2) ∧ W.cell? ⟨(w.heap.size + 1), 5, none⟩ = some (.slice A2 xs2.length d1) ∧ W.cell? ⟨(w.heap.size + 1), 6, none⟩ = some (.slice B2 ys2.length d2) ∧ W.cell? ⟨(w.heap.size + 1), 7, none⟩ = some (.slice C2 zs2.length d3))
      (first | exact HM3.out _ (Below.refl _ _) | exact HM3.out _ (below_dr (Below.refl _ _)) | exact HM3.out _ bk6 | exact HM3.out _ bk5 | exact HM3.out _ bk4)
      (first
        | (go_at_call 6; (with_reducible refine (HT2.out _ (HA2.out.at_ (below_next B3.out bk4)) (HB2.out.at_ (below_next B3.out bk4)) (HC2.out.at_ (below_next B3.out bk4))).mono ?_); rintro e w5 ⟨A5, E5, F5, rfl, q1, q2, q3, hb5⟩; have bk5 : Below w3.heap.size w3 w5 := below_next bk4 hb5; have R5 := Lib.hid (And.intro q1 (And.intro q2 q3)); have R4' := Lib.hid (And.intro (R4.out.1.at_ hb5) (And.intro (R4.out.2.1.at_ hb5) (R4.out.2.2.at_ hb5))); clear q1 q2 q3 hb5)
        | (go_at_call 6; (with_reducible refine (HT1.out _ (HA.out.at_ (below_dr B3.out)) (HB.out.at_ (below_dr B3.out)) (HC.out.at_ (below_dr B3.out))).mono ?_); rintro e w4 ⟨A4, E4, F4, rfl, q1, q2, q3, hb4⟩; have bk4 : Below w3.heap.size w3 w4 := below_next (below_dr (Below.refl _ _)) hb4; have R4 := Lib.hid (And.intro q1 (And.intro q2 q3)); clear q1 q2 q3 hb4)
        | (go_at_call 5; refine (HS.out _ _ _ _ _ _ _ R4'.out.1 R4'.out.2.1 R4'.out.2.2 R5.out.1 R5.out.2.1 R5.out.2.2).mono ?_; rintro e w6 ⟨rfl, hb6⟩; have bk6 : Below w3.heap.size w3 w6 := below_next bk5 hb6; clear hb6))
    have K6 := Lib.hid (K3.out.keep bk6)
    have M6 := Lib.hid (M3.out.keep bk6)
    have B6 := Lib.hid (below_next B3.out bk6)
    clear bk4 bk5 bk6 K3 M3 B3 HM3 R4 R5 R4' kk0 kk1 kk2 kk3 kk4 kk5 kk6 kk7 mm0 mm1 mm2 mm3 mm4 mm5 mm6 mm7
    obtain ⟨kk0, kk1, kk2, kk3, kk4, kk5, kk6, kk7⟩ := K6.out
    go_wp2_with fail
    refine (HT1.out _ (HA.out.at_ B6.out) (HB.out.at_ B6.out) (HC.out.at_ B6.out)).mono ?_
    rintro e w7 ⟨A7, E7, F7, rfl, q1, q2, q3, hb7⟩
    have K7 := Lib.hid (K6.out.keep hb7)
    have M7 := Lib.hid (M6.out.keep hb7)
    have B7 := Lib.hid (below_next B6.out hb7)
    have R7 := Lib.hid (And.intro q1 (And.intro q2 q3))
    clear hb7 q1 q2 q3 K6 M6 B6 kk0 kk1 kk2 kk3 kk4 kk5 kk6 kk7
    obtain ⟨mm0, mm1, mm2, mm3, mm4, mm5, mm6, mm7⟩ := M7.out
    have lt7 : w.heap.size + 1 < w7.heap.size := lt_of_cell (a := ⟨w.heap.size + 1, 0, none⟩) mm0
    go_wp2_with fail
    generalize hW8 : World.alloc w7 _ = W8
    have b78 : Below w7.heap.size w7 W8 := by rw [← hW8]; exact below_al (Below.refl _ _) _
    have X8 : DkAt W8 w7.heap.size k a b r l A7 E7 F7 xs.length ys.length zs.length xs.length ys.length zs.length := by rw [← hW8]; simp [DkAt, go_sem]
    have K8 := Lib.hid (K7.out.keep b78)
    have M8 := Lib.hid (M7.out.keep b78)
    have B8' := Lib.hid (below_next B7.out b78)
    have R8 := Lib.hid (And.intro (R7.out.1.at_ b78) (And.intro (R7.out.2.1.at_ b78) (R7.out.2.2.at_ b78)))
    clear hW8 b78 K7 M7 B7 R7 mm0 mm1 mm2 mm3 mm4 mm5 mm6 mm7
    refine (HT2.out _ (HA2.out.at_ B8'.out) (HB2.out.at_ B8'.out) (HC2.out.at_ B8'.out)).mono ?_
    rintro e w9 ⟨A9, E9, F9, rfl, q1, q2, q3, hb9⟩
    have K9 := Lib.hid (K8.out.keep hb9)
    have M9 := Lib.hid (M8.out.keep hb9)
    have X9 := Lib.hid (X8.keep hb9)
    have B9 := Lib.hid (below_next B8'.out hb9)
    have R9 := Lib.hid (And.intro (R8.out.1.at_ hb9) (And.intro (R8.out.2.1.at_ hb9) (R8.out.2.2.at_ hb9)))
    have T9 := Lib.hid (And.intro q1 (And.intro q2 q3))
    clear hb9 q1 q2 q3 K8 M8 X8 B8' R8
    obtain ⟨xx0, xx1, xx2, xx3, xx4, xx5, xx6, xx7⟩ := X9.out
    have lt9 : w7.heap.size < w9.heap.size := lt_of_cell (a := ⟨w7.heap.size, 0, none⟩) xx0
    go_wp2_with fail
    generalize hW10 : World.alloc w9 _ = W10
    have b90 : Below w9.heap.size w9 W10 := by rw [← hW10]; exact below_al (Below.refl _ _) _
    have Y10 : DkAt W10 w9.heap.size k2 a2 b2 r2 l2 A9 E9 F9 xs2.length ys2.length zs2.length xs2.length ys2.length zs2.length := by rw [← hW10]; simp [DkAt, go_sem]
    have K10 := Lib.hid (K9.out.keep b90)
    have M10 := Lib.hid (M9.out.keep b90)
    have X10 := Lib.hid (X9.out.keep b90)
    have B10 := Lib.hid (below_next B9.out b90)
    have R10 := Lib.hid (And.intro (R9.out.1.at_ b90) (And.intro (R9.out.2.1.at_ b90) (R9.out.2.2.at_ b90)))
    have T10 := Lib.hid (And.intro (T9.out.1.at_ b90) (And.intro (T9.out.2.1.at_ b90) (T9.out.2.2.at_ b90)))
    have Y10' := Lib.hid Y10
    clear hW10 b90 K9 M9 X9 B9 R9 T9 Y10
    refine (HI.out _ _ _ _ _ _ _ R10.out.1 R10.out.2.1 R10.out.2.2 T10.out.1 T10.out.2.1 T10.out.2.2).mono ?_
    rintro e w11 ⟨rfl, hb11⟩
    have K11 := Lib.hid (K10.out.keep hb11)
    have M11 := Lib.hid (M10.out.keep hb11)
    have X11 := Lib.hid (X10.out.keep hb11)
    have Y11 := Lib.hid (Y10'.out.keep hb11)
    have B11 := Lib.hid (below_next B10.out hb11)
    have R11 := Lib.hid (And.intro (R10.out.1.at_ hb11) (And.intro (R10.out.2.1.at_ hb11) (R10.out.2.2.at_ hb11)))
    have T11 := Lib.hid (And.intro (T10.out.1.at_ hb11) (And.intro (T10.out.2.1.at_ hb11) (T10.out.2.2.at_ hb11)))
    clear hb11 K10 M10 X10 Y10' B10 R10 T10 xx0 xx1 xx2 xx3 xx4 xx5 xx6 xx7
    have HM11 : Hid (∀ W, Below w11.heap.size w11 W → W.cell? ⟨w.heap.size, 0, none⟩ = some (.int .i64 k) ∧ W.cell? ⟨w.heap.size, 1, none⟩ = some (.int .u64 a) ∧ W.cell? ⟨w.heap.size, 2, none⟩ = some (.int .u64 b) ∧ W.cell? ⟨w.heap.size, 3, none⟩ = some (.int .i64 r) ∧ W.cell? ⟨w.heap.size, 4, none⟩ = some (.int .i64 l) ∧ W.cell? ⟨w.heap.size, 5, none⟩ = some (.slice A xs.length c1) ∧ W.cell? ⟨w.heap.size, 6, none⟩ = some (.slice B ys.length c2) ∧ W.cell? ⟨w.heap.size, 7, none⟩ = some (.slice C zs.length c3) ∧ W.cell? ⟨w7.heap.size, 0, none⟩ = some (.int .i64 k) ∧ W.cell? ⟨w7.heap.size, 1, none⟩ = some (.int .u64 a) ∧ W.cell? ⟨w7.heap.size, 2, none⟩ = some (.int .u64 b) ∧ W.cell? ⟨w7.heap.size, 3, none⟩ = some (.int .i64 r) ∧ W.cell? ⟨w7.heap.size, 4, none⟩ = some (.int .i64 l) ∧ W.cell? ⟨w7.heap.size, 5, none⟩ = some (.slice A7 xs.length xs.length) ∧ W.cell? ⟨w7.heap.size, 6, none⟩ = some (.slice E7 ys.length ys.length) ∧ W.cell? ⟨w7.heap.size, 7, none⟩ = some (.slice F7 zs.length zs.length)) := Lib.hid fun W hW => by
      obtain ⟨u0, u1, u2, u3, u4, u5, u6, u7⟩ := K11.out.keep hW
      obtain ⟨v0, v1, v2, v3, v4, v5, v6, v7⟩ := X11.out.keep hW
      exact ⟨u0, u1, u2, u3, u4, u5, u6, u7, v0, v1, v2, v3, v4, v5, v6, v7⟩
    obtain ⟨kk0, kk1, kk2, kk3, kk4, kk5, kk6, kk7⟩ := K11.out
    obtain ⟨xx0, xx1, xx2, xx3, xx4, xx5, xx6, xx7⟩ := X11.out
    go_wp2_with fail
    go_region_held3 (fun W => W.cell? ⟨w.heap.size, 0, none⟩ = some (.int .i64 k) ∧ W.cell? ⟨w.heap.size, 1, none⟩ = some (.int .u64 a) ∧ W.cell? ⟨w.heap.size, 2, none⟩ = some (.int .u64 b) ∧ W.cell? ⟨w.heap.size, 3, none⟩ = some (.int .i64 r) ∧ W.cell? ⟨w.heap.size, 4, none⟩ = some (.int .i64 l) ∧ W.cell? ⟨w.heap.size, 5, none⟩ = some (.slice A xs.length c1) ∧ W.cell? ⟨w.heap.size, 6, none⟩ = some (.slice B ys.length c2) ∧ W.cell? ⟨w.heap.size, 7, none⟩ = some (.slice C zs.length c3) ∧ W.cell? ⟨w7.heap.size, 0, none⟩ = some (.int .i64 k) ∧ W.cell? ⟨w7.heap.size, 1, none⟩ = some (.int .u64 a) ∧ W.cell? ⟨w7.heap.size, 2, none⟩ = some (.int .u64 b) ∧ W.cell? ⟨w7.heap.size, 3, none⟩ = some (.int .i64 r) ∧ W.cell? ⟨w7.heap.size, 4, none⟩ = some (.int .i64 l) ∧ W.cell? ⟨w7.heap.size, 5, none⟩ = some (.slice A7 xs.length xs.length) ∧ W.cell? ⟨w7.heap.size, 6, none⟩ = some (.slice E7 ys.length ys.length) ∧ W.cell? ⟨w7.heap.size, 7, none⟩ = some (.slice F7 zs.length zs.length))
      (first | exact HM11.out _ (Below.refl _ _) | exact HM11.out _ (below_dr (Below.refl _ _)) | exact HM11.out _ bk13 | exact HM11.out _ bk12)
      (first
        | (go_at_call 6; refine (HT1.out _ (HA.out.at_ (below_dr B11.out)) (HB.out.at_ (below_dr B11.out)) (HC.out.at_ (below_dr B11.out))).mono ?_; rintro e w12 ⟨A12, E12, F12, rfl, q1, q2, q3, hb12⟩; have bk12 : Below w11.heap.size w11 w12 := below_next (below_dr (Below.refl _ _)) hb12; have U12 := Lib.hid (And.intro q1 (And.intro q2 q3)); have V12 := Lib.hid (And.intro (R11.out.1.at_ bk12) (And.intro (R11.out.2.1.at_ bk12) (R11.out.2.2.at_ bk12))); clear q1 q2 q3 hb12)
        | (go_at_call 8; refine (HE1.out _ _ _ _ _ _ _ V12.out.1 U12.out.1 V12.out.2.1 U12.out.2.1 V12.out.2.2 U12.out.2.2).mono ?_; rintro e w13 ⟨rfl, hb13⟩; have bk13 : Below w11.heap.size w11 w13 := below_next bk12 hb13; clear hb13))
    have M13 := Lib.hid (M11.out.keep bk13)
    have Y13 := Lib.hid (Y11.out.keep bk13)
    have B13 := Lib.hid (below_next B11.out bk13)
    have T13 := Lib.hid (And.intro (T11.out.1.at_ bk13) (And.intro (T11.out.2.1.at_ bk13) (T11.out.2.2.at_ bk13)))
    clear bk12 bk13 HM11 U12 V12 K11 X11 M11 Y11 B11 R11 T11 kk0 kk1 kk2 kk3 kk4 kk5 kk6 kk7 xx0 xx1 xx2 xx3 xx4 xx5 xx6 xx7
    have HM13 : Hid (∀ W, Below w13.heap.size w13 W → W.cell? ⟨(w.heap.size + 1), 0, none⟩ = some (.int .i64 k2) ∧ W.cell? ⟨(w.heap.size + 1), 1, none⟩ = some (.int .u64 a2) ∧ W.cell? ⟨(w.heap.size + 1), 2, none⟩ = some (.int .u64 b2) ∧ W.cell? ⟨(w.heap.size + 1), 3, none⟩ = some (.int .i64 r2) ∧ W.cell? ⟨(w.heap.size + 1), 4, none⟩ = some (.int .i64 l2) ∧ W.cell? ⟨(w.heap.size + 1), 5, none⟩ = some (.slice A2 xs2.length d1) ∧ W.cell? ⟨(w.heap.size + 1), 6, none⟩ = some (.slice B2 ys2.length d2) ∧ W.cell? ⟨(w.heap.size + 1), 7, none⟩ = some (.slice C2 zs2.length d3) ∧ W.cell? ⟨w9.heap.size, 0, none⟩ = some (.int .i64 k2) ∧ W.cell? ⟨w9.heap.size, 1, none⟩ = some (.int .u64 a2) ∧ W.cell? ⟨w9.heap.size, 2, none⟩ = some (.int .u64 b2) ∧ W.cell? ⟨w9.heap.size, 3, none⟩ = some (.int .i64 r2) ∧ W.cell? ⟨w9.heap.size, 4, none⟩ = some (.int .i64 l2) ∧ W.cell? ⟨w9.heap.size, 5, none⟩ = some (.slice A9 xs2.length xs2.length) ∧ W.cell? ⟨w9.heap.size, 6, none⟩ = some (.slice E9 ys2.length ys2.length) ∧ W.cell? ⟨w9.heap.size, 7, none⟩ = some (.slice F9 zs2.length zs2.length)) := Lib.hid fun W hW => by
      obtain ⟨u0, u1, u2, u3, u4, u5, u6, u7⟩ := M13.out.keep hW
      obtain ⟨v0, v1, v2, v3, v4, v5, v6, v7⟩ := Y13.out.keep hW
      exact ⟨u0, u1, u2, u3, u4, u5, u6, u7, v0, v1, v2, v3, v4, v5, v6, v7⟩
    obtain ⟨kk0, kk1, kk2, kk3, kk4, kk5, kk6, kk7⟩ := M13.out
    obtain ⟨xx0, xx1, xx2, xx3, xx4, xx5, xx6, xx7⟩ := Y13.out
    go_wp2_with fail
    go_region_held3 (fun W => W.cell? ⟨(w.heap.size + 1), 0, none⟩ = some (.int .i64 k2) ∧ W.cell? ⟨(w.heap.size + 1), 1, none⟩ = some (.int .u64 a2) ∧ W.cell? ⟨(w.heap.size + 1), 2, none⟩ = some (.int .u64 b2) ∧ W.cell? ⟨(w.heap.size + 1), 3, none⟩ = some (.int .i64 r2) ∧ W.cell? ⟨(w.heap.size + 1), 4, none⟩ = some (.int .i64 l2) ∧ W.cell? ⟨(w.heap.size + 1), 5, none⟩ = some (.slice A2 xs2.length d1) ∧ W.cell? ⟨(w.heap.size + 1), 6, none⟩ = some (.slice B2 ys2.length d2) ∧ W.cell? ⟨(w.heap.size + 1), 7, none⟩ = some (.slice C2 zs2.length d3) ∧ W.cell? ⟨w9.heap.size, 0, none⟩ = some (.int .i64 k2) ∧ W.cell? ⟨w9.heap.size, 1, none⟩ = some (.int .u64 a2) ∧ W.cell? ⟨w9.heap.size, 2, none⟩ = some (.int .u64 b2) ∧ W.cell? ⟨w9.heap.size, 3, none⟩ = some (.int .i64 r2) ∧ W.cell? ⟨w9.heap.size, 4, none⟩ = some (.int .i64 l2) ∧ W.cell? ⟨w9.heap.size, 5, none⟩ = some (.slice A9 xs2.length xs2.length) ∧ W.cell? ⟨w9.heap.size, 6, none⟩ = some (.slice E9 ys2.length ys2.length) ∧ W.cell? ⟨w9.heap.size, 7, none⟩ = some (.slice F9 zs2.length zs2.length))
      (first | exact HM13.out _ (Below.refl _ _) | exact HM13.out _ (below_dr (Below.refl _ _)) | exact HM13.out _ bk15 | exact HM13.out _ bk14)
      (first
        | (go_at_call 6; refine (HT2.out _ (HA2.out.at_ (below_dr B13.out)) (HB2.out.at_ (below_dr B13.out)) (HC2.out.at_ (below_dr B13.out))).mono ?_; rintro e w14 ⟨A14, E14, F14, rfl, q1, q2, q3, hb14⟩; have bk14 : Below w13.heap.size w13 w14 := below_next (below_dr (Below.refl _ _)) hb14; have U14 := Lib.hid (And.intro q1 (And.intro q2 q3)); have V14 := Lib.hid (And.intro (T13.out.1.at_ bk14) (And.intro (T13.out.2.1.at_ bk14) (T13.out.2.2.at_ bk14))); clear q1 q2 q3 hb14)
        | (go_at_call 8; refine (HE2.out _ _ _ _ _ _ _ V14.out.1 U14.out.1 V14.out.2.1 U14.out.2.1 V14.out.2.2 U14.out.2.2).mono ?_; rintro e w15 ⟨rfl, hb15⟩; have bk15 : Below w13.heap.size w13 w15 := below_next bk14 hb15; clear hb15))
    have B15 := Lib.hid (below_next B13.out bk15)
    clear bk14 bk15
    go_wp2_with fail
    go_ret
    exact ⟨rfl, B15.out⟩

set_option maxRecDepth 100000 in
set_option maxHeartbeats 3200000 in
theorem lifted (os : Os) (started : os.Started) (H : Type) (enc : TypeId × Value → H) :
    ReturnsInHanded {} Try.checked os 3 .any (Rows.fnExactSameDeskSpec.pre6 enc Try.prog Try.f3 Rows.fnExactSameDeskRow.domain false) (Rows.fnExactSameDeskSpec.post enc Try.prog Try.f3 false true false false) := by
  refine returnsInHanded_of_change (C := Try.checked) own started (by kernel_rfl) Try.func3
    (ChangeSpec.witness6 (enc := enc) (C := Try.checked) false ⟨#[], #[.agg #[.int .i64 0, .int .u64 0, .int .u64 0, .int .i64 0, .int .i64 0, .slice none 0 0, .slice none 0 0, .slice none 0 0], .agg #[.int .i64 0, .int .u64 0, .int .u64 0, .int .i64 0, .int .i64 0, .slice none 0 0, .slice none 0 0, .slice none 0 0]], []⟩ 8 (by kernel_rfl) (by kernel_rfl) (by kernel_rfl) (by kernel_rfl)) ?_
  intro W base args ds gs before hval0 hW hcnd _
  have hval : ∀ (j : Nat) t v, Try.f3.params[j]? = some t → args[j]? = some v → Value.okWide Try.prog W .any base t v := hval0
  have hW' := hW
  have hlt : ∀ p ∈ before, p.block < W.heap.size := fun p hp => hW.lt p hp
  obtain ⟨p, q, hA0, hV, rfl, hfz, hnd⟩ := hW
  have hA : DataW.TrodAll enc Try.prog W 0 (fun _ => true) true Try.f3.params.toList args.toList ds p := hA0
  rw [Try.params3] at hA hval
  have hA1 := hA
  obtain ⟨v0, vs0, d0, ds0, p0, q0, hargs, rfl, rfl, h0, r0⟩ := trodAll_cons hA
  obtain ⟨v1, vs1, d1, ds1, p1, q1, rfl, rfl, rfl, h1, r1⟩ := trodAll_cons r0
  obtain ⟨rfl, rfl, rfl⟩ := trodAll_nil r1
  obtain rfl : args = #[v0, v1] := by cases args; simp_all
  obtain ⟨rfl, rfl⟩ := trodVars_none hV
  obtain ⟨dk0, da0, db0, dr0, dl0, dA0, dB0, dC0, dx0, dy0, dz0, dc1_0, dc2_0, dc3_0, rfl, gx0, gy0, gz0, gb0, gA0, gB0, gC0⟩ := open_desk (hval 0 _ _ rfl rfl) h0
  obtain ⟨dk1, da1, db1, dr1, dl1, dA1, dB1, dC1, dx1, dy1, dz1, dc1_1, dc2_1, dc3_1, rfl, gx1, gy1, gz1, gb1, gA1, gB1, gC1⟩ := open_desk (hval 1 _ _ rfl rfl) h1
  clear hA0 hval0
  refine (walk dk0 da0 db0 dr0 dl0 dA0 dB0 dC0 dx0 dy0 dz0 dc1_0 dc2_0 dc3_0 dk1 da1 db1 dr1 dl1 dA1 dB1 dC1 dx1 dy1 dz1 dc1_1 dc2_1 dc3_1 W gx0 gy0 gz0 gb0 gA0 gB0 gC0 gx1 gy1 gz1 gb1 gA1 gB1 gC1).mono fun e W' ⟨he, hb⟩ => ?_
  subst he
  rw [List.append_nil] at hW' hlt
  exact ⟨_, rfl, post_of_below (pa := _) (pv := []) hW' (fun _ _ _ => (trodAll_cons_mk (shut_bool Try.underlying4 _) trodAll_mk0))
    (fun sp hsp => trodAll_below cl_laid hb _ _ _ _ (by kernel_rfl) hA1 hlt hsp) (fun _ _ => rfl) (List.append_nil _).symm hb (ok_one (by kernel_rfl) rfl (okWide_bool_mk Try.underlying4 _))⟩

theorem g0 : Try.prog.funcNamed Rows.fnExactSameDeskRow.func = some 3 := by kernel_rfl
theorem g1 : Rows.fnExactSameDeskRow.inPlace = Try.prog.inPlace 3 := by kernel_rfl
theorem g2 : Rows.fnExactSameDeskRow.unfollowed = Try.prog.unfollowed 3 := by kernel_rfl
theorem g3 : Rows.fnExactSameDeskRow.recurses = Try.prog.recurses 3 := by kernel_rfl
theorem g4 : Rows.fnExactSameDeskRow.named = Try.prog.varsNamed 3 := by kernel_rfl
theorem g5 : Rows.fnExactSameDeskRow.wf (OpenSpec.ofChange Rows.fnExactSameDeskSpec) = true := by kernel_rfl
theorem g6 : (Try.f3.params.all (Try.prog.readableRec ·)) = true := by kernel_rfl
theorem g7 : Rows.fnExactSameDeskRow.veiledFits Try.prog Try.f3.params.toList (Try.f3.params.toList ++ Try.f3.resultTypes.toList) = true := by kernel_rfl
theorem g8 : joinedFacts Try.prog 3 Try.f3 Rows.fnExactSameDeskSpec Rows.fnExactSameDeskRow = true :=
  gen_facts _ _ _ _ rfl rfl cl_laid cl_maps cl_stops cl_knobs cl_heard cl_enter cl_lifts cl_make g5 g6 rfl rfl rfl g1 g2 g3 g4
    (by as_aux_lemma => kernel_rfl) (by as_aux_lemma => kernel_rfl) (by as_aux_lemma => kernel_rfl) (by as_aux_lemma => kernel_rfl) (by as_aux_lemma => kernel_rfl) (by as_aux_lemma => kernel_rfl) (by as_aux_lemma => kernel_rfl) (by as_aux_lemma => kernel_rfl)
    cl_keys.symm rfl rfl rfl rfl rfl (by as_aux_lemma => kernel_rfl) (by as_aux_lemma => kernel_rfl) g7
theorem g9 : Try.f3.isInstance Try.prog Rows.fnExactSameDeskRow.origin Rows.fnExactSameDeskRow.targs := of_decide_eq_true (by kernel_rfl)
theorem g10 : Try.f3.isWrapper Try.prog Rows.fnExactSameDeskRow.wrapper Rows.fnExactSameDeskRow.mainSum := by
  unfold Func.isWrapper; first | (rw [if_pos (by decide +kernel)]; kernel_rfl) | (rw [if_neg (by decide +kernel)]; exact ⟨rfl, rfl⟩)
theorem over : Rows.fnExactSameDeskRow.holds Try.pinned (OpenSpec.ofChange Rows.fnExactSameDeskSpec) :=
  OpenClaim.holds_of_wide 3 Try.f3 rfl rfl rfl rfl rfl rfl rfl ⟨rfl, rfl, rfl, rfl, rfl⟩ rfl rfl rfl rfl rfl g0 Try.func3 g8 g9 g10 (fun os started H enc _ => lifted os started H enc)
theorem proved : Rows.FnExactSameDeskSaid := over
end Go.Proofs.Ytklkgacgmcnlnab.lawSameDesk
