/-
  spec.l06Two, spec.l06Sums.
-/
import Derived.Test.YtmpnfjajlmafgaaFy
import Derived.BigRegion
import Derived.Deep.RegionLaw
import Derived.Deep.RegionHeld3
import Derived.Deep.DeepCutAuto
namespace Go.Proofs.Ytmpnfjajlmafgaa
open Go Go.RowKit

theorem l00Max_any (x y : Int) (w : World) : Calls Try.prog 63 #[.int .i64 x, .int .i64 y] w (SameOut (.int .i64 (if y < x then x else y)) w) := by
  unfold SameOut
  by_cases h : y < x
  all_goals
    go_enter Try.func63, Try.ntmps63
    go_wp2
    go_ret
    exact ⟨by simp [h], rfl⟩
theorem l00Min_any (x y : Int) (w : World) : Calls Try.prog 64 #[.int .i64 x, .int .i64 y] w (SameOut (.int .i64 (if x < y then x else y)) w) := by
  unfold SameOut
  by_cases h : x < y
  all_goals
    go_enter Try.func64, Try.ntmps64
    go_wp2
    go_ret
    exact ⟨by simp [h], rfl⟩
set_option maxHeartbeats 1600000 in
theorem l06Two_any (p : Nat) (r l : Int) (A : Option Addr) (xs : List Int) (c : Nat) (w : World) (hx : xs.length ≤ 9223372036854775807) (hp : TbAt w p r l A xs.length c) (h : Rd w w.heap.size A (il xs)) :
    Calls Try.prog 31 #[.pointer (some ⟨p, 0, none⟩)] w (BoolOut (twoB r l xs) w) := by
  have H := Lib.hid (l06Is_any p r l A xs c w hx hp h)
  have HD : Hid (twoB r l xs = (tabB r l xs && (decide (r = 2) && decide (l = 2)))) := Lib.hid rfl
  have HP := Lib.hid hp
  clear h hp
  unfold BoolOut at *
  rw [HD.out]
  clear HD
  generalize tabB r l xs = t at *
  cases t with
  | false =>
    go_enter Try.func31, Try.ntmps31
    go_wp2_with (go_at_call 37; refine H.out.mono ?_; rintro e w1 ⟨rfl, hb1⟩; obtain ⟨p0, p1, p2⟩ := HP.out.keep hb1; have B1 := Lib.hid hb1; clear hb1)
    go_ret
    exact ⟨rfl, B1.out⟩
  | true =>
    by_cases h1 : r = 2
    · by_cases h2 : l = 2
      all_goals
        go_enter Try.func31, Try.ntmps31
        go_wp2_with (go_at_call 37; refine H.out.mono ?_; rintro e w1 ⟨rfl, hb1⟩; obtain ⟨p0, p1, p2⟩ := HP.out.keep hb1; have B1 := Lib.hid hb1; clear hb1)
        go_ret
        exact ⟨by simp [h1, h2], B1.out⟩
    · go_enter Try.func31, Try.ntmps31
      go_wp2_with (go_at_call 37; refine H.out.mono ?_; rintro e w1 ⟨rfl, hb1⟩; obtain ⟨p0, p1, p2⟩ := HP.out.keep hb1; have B1 := Lib.hid hb1; clear hb1)
      go_ret
      exact ⟨by simp [h1], B1.out⟩

/-- the sums of rows of the first i numbers -/
def rwTo (xs : List Nat) (C : Nat) : Nat → Nat → Nat
  | 0, _ => 0
  | i + 1, p => if p = i / C then rwTo xs C i p + xs[i]! else rwTo xs C i p
theorem rwTo_le (xs : List Nat) (C : Nat) : ∀ i p, rwTo xs C i p ≤ preSum xs i
  | 0, _ => Nat.le_refl _
  | i + 1, p => by
    have := rwTo_le xs C i p
    show (if p = i / C then _ else _) ≤ preSum xs i + xs[i]!
    split <;> omega
/-- the two rows of sums -/
def sumsOut (xs : List Nat) (R C : Nat) (w : World) : Ending → World → Prop := fun e w' => ∃ b1 b2 : Nat, e = .returned (.tuple #[.slice (some ⟨b1, 0, none⟩) R R, .slice (some ⟨b2, 0, none⟩) C C]) ∧ w'.rowIs b1 2 R (fun q => .int .i64 (rwTo xs C (R * C) q : Nat)) ∧ w'.rowIs b2 2 C (fun q => .int .i64 (colsTo xs C (R * C) q : Nat)) ∧ Below w.heap.size w w'
set_option maxRecDepth 100000 in
set_option maxHeartbeats 1600000 in
theorem l06Sums_any (p g o R C ct : Nat) (xs : List Nat) (w : World) (hR : 1 ≤ R ∧ R ≤ 4) (hC : 1 ≤ C ∧ C ≤ 4) (hs : ∀ i, i ≤ R * C → preSum xs i ≤ 60) (hp : TbAt w p R C (some ⟨g, o, none⟩) (R * C) ct) (hc : ∀ i, i < R * C → w.cell? ⟨g, o + i, none⟩ = some (.int .i64 (xs[i]! : Nat))) :
    Calls Try.prog 39 #[.pointer (some ⟨p, 0, none⟩)] w (sumsOut xs R C w) := by
  obtain ⟨i0, hi0, hz0, hz1, hz2⟩ := info_parts info_i64
  have hmkR := run_make_row (P := Try.prog) 22 2 i0 (.int .i64 0) Try.underlying22 hi0 hz0 hz1 rfl .i64 .i64 R (by rw [hz2]; omega) (by omega)
  have hmkC := run_make_row (P := Try.prog) 22 2 i0 (.int .i64 0) Try.underlying22 hi0 hz0 hz1 rfl .i64 .i64 C (by rw [hz2]; omega) (by omega)
  clear hi0 hz0 hz1 hz2
  have hRC : R * C ≤ 16 := by
    have := Nat.mul_le_mul hR.2 hC.2
    omega
  have hwm : IntKind.i64.wrap ((R : Int) * (C : Int)) = ((R * C : Nat) : Int) := by
    rw [← Int.natCast_mul]
    exact IntWalk.i64_in _ (by omega)
  have HLr := Lib.hid fun i q => rwTo_le xs C i q
  have HLc := Lib.hid fun i q => colsTo_le xs C i q
  have HS := Lib.hid hs
  have HC := Lib.hid hc
  have HDV : Hid (∀ i, i < R * C → i / C < R ∧ i % C < C) := Lib.hid fun i hi => ⟨Nat.div_lt_of_lt_mul (by rw [Nat.mul_comm]; exact hi), Nat.mod_lt _ (by omega)⟩
  have HRS : Hid (∀ i p, rwTo xs C (i + 1) p = if p = i / C then rwTo xs C i (i / C) + xs[i]! else rwTo xs C i p) := Lib.hid fun i p => by
    show (if p = i / C then rwTo xs C i p + xs[i]! else rwTo xs C i p) = _
    split
    · next h => rw [h]
    · rfl
  have HRA : Hid (∀ i, rwTo xs C (i + 1) (i / C) = rwTo xs C i (i / C) + xs[i]!) := Lib.hid fun i => by
    have := HRS.out i (i / C)
    rw [if_pos rfl] at this
    exact this
  have HCS : Hid (∀ i p, colsTo xs C (i + 1) p = if p = i % C then colsTo xs C i (i % C) + xs[i]! else colsTo xs C i p) := Lib.hid fun i p => by
    show (if p = i % C then colsTo xs C i p + xs[i]! else colsTo xs C i p) = _
    split
    · next h => rw [h]
    · rfl
  have HSA : Hid (∀ i, colsTo xs C (i + 1) (i % C) = colsTo xs C i (i % C) + xs[i]!) := Lib.hid fun i => colsTo_at xs C i
  have P := Lib.hid hp
  have ST : Hid (((w.alloc (.cells (madeCells #[.int .i64 0] R) 2)).alloc (.cells (madeCells #[.int .i64 0] C) 2)).rowIs w.heap.size 2 R (fun q => .int .i64 (rwTo xs C 0 q : Nat)) ∧ ((w.alloc (.cells (madeCells #[.int .i64 0] R) 2)).alloc (.cells (madeCells #[.int .i64 0] C) 2)).rowIs (w.heap.size + 1) 2 C (fun q => .int .i64 (colsTo xs C 0 q : Nat)) ∧ Below w.heap.size w ((w.alloc (.cells (madeCells #[.int .i64 0] R) 2)).alloc (.cells (madeCells #[.int .i64 0] C) 2))) := Lib.hid ⟨(World.rowIs_made w (.int .i64 0) R 2).alloc _, by
      have := World.rowIs_made (w.alloc (.cells (madeCells #[.int .i64 0] R) 2)) (.int .i64 0) C 2
      rw [show (w.alloc (.cells (madeCells #[.int .i64 0] R) 2)).heap.size = w.heap.size + 1 by simp] at this
      exact this, below_al (below_al (Below.refl _ _) _) _⟩
  have hpl := hp.lt
  obtain ⟨p0, p1, p2⟩ := hp
  have k1 := keepC (below_al (Below.refl w.heap.size w) (.cells (madeCells #[.int .i64 0] R) 2)) p1
  unfold sumsOut
  clear hs hc
  generalize hN : R * C = N at *
  have HN := Lib.hid hN
  clear hN
  go_enter Try.func39, Try.ntmps39
  go_upto_region 3 with fail
  generalize World.alloc (World.alloc w _) _ = W1 at *
  go_wp2_with fail
  go_loopw [6] (fun iv wr => ∃ i : Nat, i ≤ N ∧ iv = .int .i64 i ∧ wr.rowIs w.heap.size 2 R (fun q => .int .i64 (rwTo xs C i q : Nat)) ∧ wr.rowIs (w.heap.size + 1) 2 C (fun q => .int .i64 (colsTo xs C i q : Nat)) ∧ Below w.heap.size w wr) (fun iv _ => N - (intOf iv).toNat)
  case atStart => exact ⟨0, Nat.zero_le _, rfl, ST.out.1, ST.out.2.1, ST.out.2.2⟩
  case round =>
    clear ST k1 p0 p1 p2 hmkR hmkC
    obtain ⟨i, hi, rfl, hr, hcl, hb⟩ := hrel
    rename World => wr
    have RR := Lib.hid hr
    have RC := Lib.hid hcl
    have B := Lib.hid hb
    obtain ⟨p0, p1, p2⟩ := P.out.keep hb
    clear hr hcl hb
    by_cases hin : i < N
    · have hiz : (i : Int) < (N : Int) := by omega
      go_wp2_with fail
      go_quiet (fail)
      have RR : Hid ((wr.drewN nq).rowIs w.heap.size 2 R (fun q => .int .i64 (rwTo xs C i q : Nat))) := Lib.hid (RR.out.of_block rfl)
      have RC : Hid ((wr.drewN nq).rowIs (w.heap.size + 1) 2 C (fun q => .int .i64 (colsTo xs C i q : Nat))) := Lib.hid (RC.out.of_block rfl)
      have B := Lib.hid (below_drewN B.out nq)
      clear p0 p1 p2
      obtain ⟨p0, p1, p2⟩ := P.out.keep B.out
      generalize wr.drewN nq = wr at *
      have y0 := keepC B.out (HC.out i hin)
      obtain ⟨hd, hm⟩ := HDV.out i hin
      have y1 := RR.out.cell hd
      have f1 := RR.out.frozen (i / C)
      have y2 := RC.out.cell hm
      have f2 := RC.out.frozen (i % C)
      have hdiv : ((i : Nat) : Int).tdiv (C : Int) = ((i / C : Nat) : Int) := by
        rw [Int.tdiv_eq_ediv_of_nonneg (by omega)]
        rfl
      have hmod : ((i : Nat) : Int).tmod (C : Int) = ((i % C : Nat) : Int) := by
        rw [Int.tmod_eq_emod_of_nonneg (by omega)]
        rfl
      have hwd : IntKind.i64.wrap ((i / C : Nat) : Int) = ((i / C : Nat) : Int) := (fun (d : Nat) (h : d < R) => IntWalk.i64_in (d : Int) (by omega)) _ hd
      have hlg := lt_of_cell (HC.out i hin)
      have a1 : IntKind.i64.wrap (((rwTo xs C i (i / C) : Nat) : Int) + ((xs[i]! : Nat) : Int)) = ((rwTo xs C (i + 1) (i / C) : Nat) : Int) := by
        have h8 := HLr.out (i + 1) (i / C)
        have := HS.out (i + 1) (by have := HN.out; omega)
        have h9 := HRA.out i
        rw [h9] at h8 ⊢
        rw [show ((rwTo xs C i (i / C) : Nat) : Int) + ((xs[i]! : Nat) : Int) = ((rwTo xs C i (i / C) + xs[i]! : Nat) : Int) by push_cast; rfl]
        exact IntWalk.i64_in _ (by omega)
      have a2 : IntKind.i64.wrap (((colsTo xs C i (i % C) : Nat) : Int) + ((xs[i]! : Nat) : Int)) = ((colsTo xs C (i + 1) (i % C) : Nat) : Int) := by
        have h8 := HLc.out (i + 1) (i % C)
        have := HS.out (i + 1) (by have := HN.out; omega)
        have h9 := HSA.out i
        rw [h9] at h8 ⊢
        rw [show ((colsTo xs C i (i % C) : Nat) : Int) + ((xs[i]! : Nat) : Int) = ((colsTo xs C i (i % C) + xs[i]! : Nat) : Int) by push_cast; rfl]
        exact IntWalk.i64_in _ (by omega)
      have N1 : Hid (∀ W, W = wr.setCell ⟨w.heap.size, i / C, none⟩ (.int .i64 (rwTo xs C (i + 1) (i / C) : Nat)) → W.rowIs w.heap.size 2 R (fun q => .int .i64 (rwTo xs C (i + 1) q : Nat)) ∧ W.rowIs (w.heap.size + 1) 2 C (fun q => .int .i64 (colsTo xs C i q : Nat)) ∧ Below w.heap.size w W) := Lib.hid fun W hW => by
        subst hW
        refine ⟨(RR.out.set (i / C) _).congr fun q hq => ?_, RC.out.of_block (Below.heap_setCell _ _ _ _ (by show w.heap.size + 1 ≠ w.heap.size; omega)), below_set B.out _ _ (Nat.le_refl _)⟩
        rw [HRS.out i q, HRA.out i]
        split <;> rfl
      have N2 : Hid (∀ W0 W : World, W0.rowIs w.heap.size 2 R (fun q => .int .i64 (rwTo xs C (i + 1) q : Nat)) → W0.rowIs (w.heap.size + 1) 2 C (fun q => .int .i64 (colsTo xs C i q : Nat)) → Below w.heap.size w W0 → W = W0.setCell ⟨w.heap.size + 1, i % C, none⟩ (.int .i64 (colsTo xs C (i + 1) (i % C) : Nat)) → W.rowIs w.heap.size 2 R (fun q => .int .i64 (rwTo xs C (i + 1) q : Nat)) ∧ W.rowIs (w.heap.size + 1) 2 C (fun q => .int .i64 (colsTo xs C (i + 1) q : Nat)) ∧ Below w.heap.size w W) := Lib.hid fun W0 W h1 h2 h3 hW => by
        subst hW
        refine ⟨h1.of_block (Below.heap_setCell _ _ _ _ (by show w.heap.size ≠ w.heap.size + 1; omega)), (h2.set (i % C) _).congr fun q hq => ?_, below_set h3 _ _ (by show w.heap.size ≤ w.heap.size + 1; omega)⟩
        rw [HCS.out i q, HSA.out i]
        split <;> rfl
      have hdz : ((i / C : Nat) : Int) < (R : Int) := by omega
      have hmz : ((i % C : Nat) : Int) < (C : Int) := by omega
      have hCz : ¬ (C : Int) = 0 := by omega
      have hCz2 : ¬ C = 0 := by omega
      have hpz : p < w.heap.size := hpl
      have HY : Hid (∀ W, Below w.heap.size w W → W.cell? ⟨g, o + i, none⟩ = some (.int .i64 (xs[i]! : Nat))) := Lib.hid fun W hW => keepC hW (HC.out i hin)
      have HZ : Hid (∀ W : World, W.rowIs (w.heap.size + 1) 2 C (fun q => .int .i64 (colsTo xs C i q : Nat)) → W.cell? ⟨w.heap.size + 1, i % C, none⟩ = some (.int .i64 (colsTo xs C i (i % C) : Nat))) := Lib.hid fun W hW => hW.cell hm
      clear HC
      clear hwm HLr HLc HS HN HRA HSA HRS HCS HDV
      generalize rwTo xs C (i + 1) (i / C) = v1 at *
      generalize rwTo xs C i (i / C) = u1 at *
      generalize colsTo xs C (i + 1) (i % C) = v2 at *
      generalize colsTo xs C i (i % C) = u2 at *
      generalize xs[i]! = xi at *
      generalize i / C = dq at *
      generalize i % C = im at *
      go_wp2_with fail
      go_region
      generalize World.setCell wr _ _ = w5 at *
      obtain ⟨X1, X2, X3⟩ := N1.out w5 rfl
      have X1 : (w5.drew).rowIs w.heap.size 2 R (fun q => .int .i64 (rwTo xs C (i + 1) q : Nat)) := X1.of_block rfl
      have X2 : (w5.drew).rowIs (w.heap.size + 1) 2 C (fun q => .int .i64 (colsTo xs C i q : Nat)) := X2.of_block rfl
      have X3 := below_dr X3
      generalize w5.drew = w6 at *
      have z0 := HY.out w6 X3
      obtain ⟨p3, p4, p5⟩ := P.out.keep X3
      have z2 := HZ.out w6 X2
      have g2 := X2.frozen im
      have N3 := Lib.hid (N2.out w6 _ X1 X2 X3 rfl)
      clear N1 N2 p0 p1 p2 y0 y1 y2 f1 f2 X1 X2 X3 HY HZ RR RC
      go_wp2_with fail
      go_region
      generalize World.setCell w6 _ _ = w7 at *
      have N4 : Hid ((w7.drew).rowIs w.heap.size 2 R (fun q => .int .i64 (rwTo xs C (i + 1) q : Nat)) ∧ (w7.drew).rowIs (w.heap.size + 1) 2 C (fun q => .int .i64 (colsTo xs C (i + 1) q : Nat)) ∧ Below w.heap.size w w7.drew) := Lib.hid ⟨N3.out.1.of_block rfl, N3.out.2.1.of_block rfl, below_dr N3.out.2.2⟩
      generalize w7.drew = w8 at *
      go_wp2_with fail
      go_roundw
      case rel => exact ⟨i + 1, by omega, by go_num, N4.out⟩
      case measure => simp [intOf]; omega
    · obtain rfl : N = i := by omega
      go_wp2_with fail
      go_quiet (fail)
      have R9 : Hid ((wr.drewN nq).rowIs w.heap.size 2 R (fun q => .int .i64 (rwTo xs C N q : Nat)) ∧ (wr.drewN nq).rowIs (w.heap.size + 1) 2 C (fun q => .int .i64 (colsTo xs C N q : Nat)) ∧ Below w.heap.size w (wr.drewN nq)) := Lib.hid ⟨RR.out.of_block rfl, RC.out.of_block rfl, below_drewN B.out nq⟩
      go_wp2_with fail
      go_ret2
      refine ⟨w.heap.size, w.heap.size + 1, rfl, ?_, ?_, ?_⟩
      · exact R9.out.1
      · exact R9.out.2.1
      · exact R9.out.2.2
end Go.Proofs.Ytmpnfjajlmafgaa
