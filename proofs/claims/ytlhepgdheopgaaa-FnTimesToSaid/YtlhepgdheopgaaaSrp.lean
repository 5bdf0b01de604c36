/-
  impl.StepRow, the way that makes a row.
-/
import Derived.Test.YtlhepgdheopgaaaSro
import Derived.Deep.RegionLaw
namespace Go.Proofs.Ytlhepgdheopgaaa
open Go Go.RowKit Ieee
attribute [local go_sem] run_store_float

/-- memory while a row is made: R the row's block -/
def SR (W1 : World) (R n : Nat) (xs row : List Nat) (k i : Nat) (wr : World) : Prop :=
  Below R W1 wr ∧ wr.rowIs R 31 n (fun p => .float .f32 (rowAcc xs row n k i p))
theorem SR_set {W1 wr wm : World} {R n : Nat} {xs row : List Nat} {k i : Nat} (h : SR W1 R n xs row k i wr) (hb : Below wr.heap.size wr wm) : SR W1 R n xs row k (i + 1) (wm.setCell ⟨R, k, none⟩ (.float .f32 (dotRow xs row n k (i + 1)))) := by
  obtain ⟨h1, h2⟩ := h
  have hl := h2.lt
  refine ⟨(h1.trans (hb.mono (by omega))).setCell (Nat.le_refl _) _, ?_⟩
  exact ((h2.of_block (hb.block _ hl)).set k _).congr fun p _ => rowAcc_set p
theorem SR_next {W1 wr : World} {R n : Nat} {xs row : List Nat} {k : Nat} (h : SR W1 R n xs row k n wr) : SR W1 R n xs row (k + 1) 0 wr :=
  ⟨h.1, h.2.congr fun p _ => by rw [rowAcc_next]⟩

set_option maxRecDepth 100000 in
set_option maxHeartbeats 3200000 in
theorem StepRow_ok (n : Nat) (A : Option Addr) (xs : List Nat) (c : Nat) (B : Option Addr) (row : List Nat) (d : Nat) (w : World) (hx : xs.length ≤ c) (hc : c ≤ 9223372036854775807) (hA : Rd w w.heap.size A (fl xs)) (hB : Rd w w.heap.size B (fl row)) (hf : fitB n xs row = true) :
    Calls Try.prog 12 #[.agg #[.int .i64 n, .slice A xs.length c], .slice B row.length d] w (flOut (rowGive xs row n) ((stepRow xs row n).all (isFin single)) w) := by
  obtain ⟨n', hn', hn1, hn2, hl, hp, hrl, hrw, hv, hw⟩ := fitB_facts hf
  obtain rfl : n = n' := by omega
  have HF : Hid (∀ W, Rd W W.heap.size A (fl xs) → Rd W W.heap.size B (fl row) → Calls Try.prog 32 #[.agg #[.int .i64 n, .slice A xs.length c], .slice B n d] W (fun e w' => e = .returned (.bool true) ∧ Below W.heap.size W w')) := Lib.hid fun W h h' => by
    have := isRowOf_any n A xs c B row d W hx hc (by omega) h h'
    rwa [hf, hrl] at this
  have HR : Hid (∀ k i, k < n → i < n → floatBits .mul .f32 (rowOf row i) (stepOf xs n i k) = some (fmul (rowOf row i) (stepOf xs n i k)) ∧ floatBits .add .f32 (dotRow xs row n k i) (fmul (rowOf row i) (stepOf xs n i k)) = some (dotRow xs row n k (i + 1))) := Lib.hid fun k i hk hi => ((dotRow_runs hl hp hrl hrw hk) i (by omega)).2 hi
  have HIS : Hid (∀ g W, Rd W W.heap.size (some ⟨g, 0, none⟩) (fl (stepRow xs row n)) → Calls Try.prog 22 #[.slice (some ⟨g, 0, none⟩) n n] W (Quiet (.bool ((stepRow xs row n).all (isFin single))) W)) := Lib.hid fun g W h => by
    have := IsRow_any (some ⟨g, 0, none⟩) (stepRow xs row n) n W (by rw [stepRow_len]; omega) h
    rwa [stepRow_len, stepRow_row hn1 hn2 hl hp hrl hrw] at this
  obtain ⟨b2, o2, rfl, hb2, hc2⟩ := hB (by rw [fl_len]; omega)
  have HST : Hid (∀ W i k, Rd W W.heap.size A (fl xs) → i < n → k < n → Calls Try.prog 35 #[.agg #[.int .i64 n, .slice A xs.length c], .int .i64 i, .int .i64 k] W (fun e w' => e = .returned (.float .f32 (stepOf xs n i k)) ∧ Below W.heap.size W w')) := Lib.hid fun W i k h hi hk => step_any n i k A xs c W hn2 hi hk hl h
  have HRC : Hid (∀ i, i < n → w.cell? ⟨b2, o2 + i, none⟩ = some (.float .f32 (rowOf row i))) := Lib.hid fun i hi => rowOf_cell (by omega) hc2
  have HB2 := Lib.hid hB
  have HA := Lib.hid hA
  obtain ⟨i0, hi0, hz0, hz1, hz2⟩ := info_parts info_f32
  have hmk := run_make_row (P := Try.prog) 24 31 i0 (.float .f32 0) Try.underlying24 hi0 hz0 hz1 rfl .i64 .i64 n (by rw [hz2]; omega) (by omega)
  have HRL : Hid (row.length = n) := Lib.hid hrl
  have HSL : Hid ((stepRow xs row n).length = n) := Lib.hid (stepRow_len _ _ _)
  have HALL := Lib.hid (rowAcc_all xs row n)
  clear hi0 hz0 hz1 hz2 hf hl hp hrl hrw hv hw hA hB hc2 hn'
  rw [HRL.out]
  unfold flOut
  go_enter Try.func12, Try.ntmps12
  go_wp2_with fail
  refine (HF.out _ (HA.out.at_ (below_al (Below.refl _ _) _)) (HB2.out.at_ (below_al (Below.refl _ _) _))).mono ?_
  rintro e w1 ⟨rfl, hb1⟩
  have z0 : w1.cell? ⟨w.heap.size, 0, none⟩ = some (.int .i64 n) := keepC hb1 (by simp [go_sem])
  have z1 : w1.cell? ⟨w.heap.size, 1, none⟩ = some (.slice A xs.length c) := keepC hb1 (by simp [go_sem])
  have s1 : w.heap.size + 1 ≤ w1.heap.size := by have := hb1.size; simp at this; omega
  have HB1 := Lib.hid (below_next (below_al (Below.refl _ _) _) hb1)
  clear hb1
  go_wp2_with fail
  generalize hW2 : World.alloc w1 _ = W2
  have hb2' : Below w1.heap.size w1 W2 := by rw [← hW2]; exact below_al (Below.refl _ _) _
  have y0 : W2.cell? ⟨w.heap.size, 0, none⟩ = some (.int .i64 n) := keepC hb2' z0
  have y1 : W2.cell? ⟨w.heap.size, 1, none⟩ = some (.slice A xs.length c) := keepC hb2' z1
  have y2 : w1.heap.size < W2.heap.size := by rw [← hW2]; simp
  have hr0 : W2.rowIs w1.heap.size 31 n (fun _ => .float .f32 0) := by rw [← hW2]; exact World.rowIs_made w1 _ n _
  have START : Hid (SR W2 w1.heap.size n xs row 0 0 W2) := Lib.hid ⟨Below.refl _ _, hr0.congr fun p _ => by rw [rowAcc_zero]⟩
  have HB3 : Hid (Below w.heap.size w W2) := Lib.hid (below_next HB1.out hb2')
  clear hW2 hb2' z0 z1 hr0 HB1
  generalize w1.heap.size = R at *
  go_loopw [19] (fun k wr => ∃ q : Nat, q ≤ n ∧ k = .int .i64 q ∧ SR W2 R n xs row q 0 wr) (fun k _ => n - (intOf k).toNat)
  case atStart => exact ⟨0, Nat.zero_le _, rfl, START.out⟩
  case round =>
    obtain ⟨q, hq, rfl, hsr⟩ := hrel
    have HSR := Lib.hid hsr
    clear hsr
    by_cases hqt : q < n
    · go_wp2_with fail
      go_loopw [24] (fun i wr => ∃ j : Nat, j ≤ n ∧ i = .int .i64 j ∧ SR W2 R n xs row q j wr) (fun i _ => n - (intOf i).toNat)
      case atStart => exact ⟨0, Nat.zero_le _, rfl, HSR.out⟩
      case round =>
        obtain ⟨j, hj, rfl, hsj⟩ := hrel
        by_cases hjt : j < n
        · rename_i wr
          obtain ⟨r1, r2⟩ := HR.out q j hqt hjt
          have e1 := fun w => run_float_arith (P := Try.prog) w .mul 31 .f32 _ _ _ r1
          have e2 := fun w => run_float_arith (P := Try.prog) w .add 31 .f32 _ _ _ r2
          have g0 : wr.cell? ⟨w.heap.size, 0, none⟩ = some (.int .i64 n) := (hsj.1.cell (p := ⟨w.heap.size, 0, none⟩) (show w.heap.size < R by omega)).trans y0
          have g1 : wr.cell? ⟨w.heap.size, 1, none⟩ = some (.slice A xs.length c) := (hsj.1.cell (p := ⟨w.heap.size, 1, none⟩) (show w.heap.size < R by omega)).trans y1
          have HBr : Hid (Below w.heap.size w wr) := Lib.hid (HB3.out.trans (hsj.1.mono (by omega)))
          have g2 : wr.cell? ⟨b2, o2 + j, none⟩ = some (.float .f32 (rowOf row j)) := (HBr.out.cell (p := ⟨b2, o2 + j, none⟩) hb2).trans (HRC.out j hjt)
          have g3 : wr.cell? ⟨R, q, none⟩ = some (.float .f32 (dotRow xs row n q j)) := by have := hsj.2.cell hqt; unfold rowAcc at this; rw [if_neg (by omega), if_pos rfl] at this; exact this
          have g4 : ∀ o, wr.frozen? ⟨R, o, none⟩ = false := fun o => hsj.2.frozen o
          have g5 : R < wr.heap.size := hsj.2.lt
          have hMk : Hid (∀ W, Below wr.heap.size wr W → W.cell? ⟨w.heap.size, 0, none⟩ = some (.int .i64 n) ∧ W.cell? ⟨w.heap.size, 1, none⟩ = some (.slice A xs.length c) ∧ W.cell? ⟨R, q, none⟩ = some (.float .f32 (dotRow xs row n q j)) ∧ W.frozen? ⟨R, q, none⟩ = false) := Lib.hid fun W hW => ⟨keepC hW g0, keepC hW g1, keepC hW g3, (hW.frozen (p := ⟨R, q, none⟩) g5).trans (g4 q)⟩
          have HNX := Lib.hid fun wm (h : Below wr.heap.size wr wm) => SR_set hsj h
          clear r1 r2 hsj g4 g5
          generalize dotRow xs row n q j = acc at *
          generalize dotRow xs row n q (j + 1) = acc' at *
          generalize fmul (rowOf row j) (stepOf xs n j q) = pr at *
          generalize rowOf row j = xj at *
          have HSC := Lib.hid fun W h => HST.out W j q h hjt hqt
          generalize stepOf xs n j q = sq at *
          go_wp2_with fail
          go_region_law (first
            | (go_simp; go_at_call 35; refine (HSC.out _ (HA.out.at_ (below_next HBr.out (by repeat (first | assumption | exact Below.refl _ _ | refine below_al ?_ _ | refine below_dr ?_ | refine below_dn ?_ _))))).mono ?_; rintro e wm ⟨rfl, hbm⟩; have hkm : Below wr.heap.size wr wm := below_next (by repeat (first | assumption | exact Below.refl _ _ | refine below_al ?_ _ | refine below_dr ?_ | refine below_dn ?_ _)) hbm; obtain ⟨k0, k1, k2, k3⟩ := hMk.out _ hkm; have HX := Lib.hid (HNX.out _ hkm); clear hbm k0 k1))
          all_goals
            go_wp2_with fail
            go_roundw
            case rel => exact ⟨j + 1, by omega, by go_num, HX.out⟩
            case measure => simp [intOf]; omega
        · obtain rfl : j = n := by omega
          have HSJ := Lib.hid (SR_next hsj)
          clear hsj
          go_wp2_with fail
          go_roundw
          case rel => exact ⟨q + 1, by omega, by go_num, HSJ.out⟩
          case measure => simp [intOf]; omega
    · obtain rfl : q = n := by omega
      rename World => wr
      have hown := own_rowIs (base := w.heap.size) HSR.out.2 (by omega) (by unfold maxLen; omega)
      rw [HALL.out] at hown
      have HO := Lib.hid hown
      have HBr : Hid (Below w.heap.size w wr) := Lib.hid (HB3.out.trans (HSR.out.1.mono (by omega)))
      have HGV : Hid (rowGive xs row q = if (stepRow xs row q).all (isFin single) = true then stepRow xs row q else []) := Lib.hid rfl
      clear hown
      cases hfin : (stepRow xs row q).all (isFin single) with
      | true =>
        have HFN := Lib.hid hfin
        rw [hfin] at HIS
        clear hfin
        go_wp2_with (go_at_call 22; refine (HIS.out _ _ (Rd.of_own HO.out)).mono ?_; rintro e w5 ⟨rfl, m5, rfl⟩)
        refine bodyPost_ret (v := .tuple #[.slice (some ⟨R, 0, none⟩) q q, .bool true]) (by simp [results, Try.results12, go_sem]) rfl ?_
        rw [HGV.out, if_pos HFN.out, HSL.out, HFN.out]
        exact ⟨_, _, rfl, own_below HO.out (below_drewN (Below.refl _ _) _), below_drewN HBr.out _⟩
      | false =>
        have HFN := Lib.hid hfin
        rw [hfin] at HIS
        clear hfin
        go_wp2_with (go_at_call 22; refine (HIS.out _ _ (Rd.of_own HO.out)).mono ?_; rintro e w5 ⟨rfl, m5, rfl⟩)
        refine bodyPost_ret (v := .tuple #[.slice none 0 0, .bool false]) (by simp [results, Try.results12, go_sem]) rfl ?_
        rw [HGV.out, if_neg (by rw [HFN.out]; simp), HFN.out]
        exact flOut_none (below_drewN HBr.out _)
end Go.Proofs.Ytlhepgdheopgaaa

