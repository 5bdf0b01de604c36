/-
  impl.BalanceMiss and spec.BalanceMiss.
-/
import Derived.Test.YtddaodjaeommlaaSrs
namespace Go.Proofs.Ytddaodjaeommlaa
open Go Go.RowKit Ieee
attribute [local go_sem] run_store_float

set_option maxHeartbeats 400000 in
theorem l07Size_any (x : Nat) (w : World) (hx : isFin single x = true) : Calls Try.prog 107 #[.float .f32 x] w (Quiet (.float .f32 (sizeF x)) w) := by
  have hn := fin_not_nan hx
  have hl : (FloatKind.f32.format.order x 0 == some .lt || FloatKind.f32.format.order x 0 == some .eq) = decide (key single x ≤ 0) := by
    have := le_key (f := single) (by decide) hn zero_notNan
    rw [key_zero] at this
    exact this
  have e1 := fun w => run_float_arith (P := Try.prog) w .sub 33 .f32 _ _ _ (fsub_run zero_notNan hx).1
  by_cases h : key single x ≤ 0
  · have HF : Hid (sizeF x = fsub 0 x) := Lib.hid (if_pos h)
    rw [decide_eq_true h] at hl
    clear h hn hx
    go_enter Try.func107, Try.ntmps107
    go_wp2
    go_ret
    rw [HF.out]
    exact .mk0
  · have HF : Hid (sizeF x = x) := Lib.hid (if_neg h)
    rw [decide_eq_false h] at hl
    clear h hn hx e1
    go_enter Try.func107, Try.ntmps107
    go_wp2
    go_ret
    rw [HF.out]
    exact .mk0

def missOut (v : Nat) (ok : Bool) (w : World) : Ending → World → Prop := fun e w' => e = .returned (.tuple #[.float .f32 v, .bool ok]) ∧ Below w.heap.size w w'

set_option maxHeartbeats 800000 in
theorem BalanceMiss_bad (side : Int) (A : Option Addr) (xs : List Nat) (c : Nat) (B : Option Addr) (row : List Nat) (d : Nat) (w : World) (hx : xs.length ≤ c) (hc : c ≤ 9223372036854775807) (hr : row.length ≤ 9223372036854775807) (hA : Rd w w.heap.size A (fl xs)) (hB : Rd w w.heap.size B (fl row)) (hb : fitB side xs row = false) :
    Calls Try.prog 42 #[.agg #[.int .i64 side, .slice A xs.length c], .slice B row.length d] w (missOut 0 false w) := by
  have HF := Lib.hid fun W h h' => isRowOf_any side A xs c B row d W hx hc hr h h'
  rw [hb] at HF
  clear hb
  go_enter Try.func42, Try.ntmps42
  go_wp2_with (go_at_call 108; refine (HF.out _ (hA.at_ ((Below.refl _ _).alloc (Nat.le_refl _) _)) (hB.at_ ((Below.refl _ _).alloc (Nat.le_refl _) _))).mono ?_; rintro e w1 ⟨rfl, hb1⟩)
  refine bodyPost_ret (v := .tuple #[.float .f32 0, .bool false]) (by simp [results, Try.results42, go_sem]) rfl ?_
  exact ⟨rfl, below_next (below_al (Below.refl _ _) _) hb1⟩
set_option maxHeartbeats 800000 in
theorem specBalanceMiss_bad (side : Int) (A : Option Addr) (xs : List Nat) (c : Nat) (B : Option Addr) (row : List Nat) (d : Nat) (w : World) (hx : xs.length ≤ 9223372036854775807) (hr : row.length ≤ 9223372036854775807) (hA : Rd w w.heap.size A (fl xs)) (hB : Rd w w.heap.size B (fl row)) (hb : fitB side xs row = false) :
    Calls Try.prog 41 #[.agg #[.int .i64 side, .slice A xs.length c], .slice B row.length d] w (missOut 0 false w) := by
  have HF := Lib.hid fun b W h0 h1 h h' => l07Fits_any b side A xs c B row d W hx hr h0 h1 h h'
  rw [hb] at HF
  clear hb
  go_enter Try.func41, Try.ntmps41
  go_wp2_with (go_at_call 106; refine (HF.out _ _ (by simp [go_sem]) (by simp [go_sem]) (hA.at_ (below_al (Below.refl _ _) _)) (hB.at_ (below_al (Below.refl _ _) _))).mono ?_; rintro e w1 ⟨rfl, m, rfl⟩)
  refine bodyPost_ret (v := .tuple #[.float .f32 0, .bool false]) (by simp [results, Try.results41, go_sem]) rfl ?_
  exact ⟨rfl, below_drewN (below_al (Below.refl _ _) _) _⟩

set_option maxRecDepth 100000 in
set_option maxHeartbeats 3200000 in
theorem BalanceMiss_ok (n : Nat) (A : Option Addr) (xs : List Nat) (c : Nat) (B : Option Addr) (row : List Nat) (d : Nat) (w : World) (hx : xs.length ≤ c) (hc : c ≤ 9223372036854775807) (hA : Rd w w.heap.size A (fl xs)) (hB : Rd w w.heap.size B (fl row)) (hf : fitB n xs row = true) :
    Calls Try.prog 42 #[.agg #[.int .i64 n, .slice A xs.length c], .slice B row.length d] w (missOut (missTo xs row n (n * n)) true w) := by
  obtain ⟨n', hn', hn1, hn2, hl, hp, hrl, hrw, hv, hw⟩ := fitB_facts hf
  obtain rfl : n = n' := by omega
  have HF := Lib.hid fun W h h' => isRowOf_any n A xs c B row d W hx hc (by omega) h h'
  rw [hf] at HF
  have HR := Lib.hid fun i k hi hk => missAt_runs (i := i) (k := k) hl hp hrl hrw hi hk
  have HM := Lib.hid fun i k hi hk => missTo_max (i := i) (k := k) hl hp hrl hrw hi hk
  have HO := Lib.hid (missTo_ok hn1 hl hp hrl hrw)
  have HIX : Hid (∀ i k, i < n → k < n → i * n + k < n * n) := Lib.hid fun i k hi hk => idx_lt hi hk
  obtain ⟨b2, o2, rfl, hb2, hc2⟩ := hB (by rw [fl_len]; omega)
  have HST : Hid (∀ W i k, Rd W W.heap.size A (fl xs) → i < n → k < n → Calls Try.prog 109 #[.agg #[.int .i64 n, .slice A xs.length c], .int .i64 i, .int .i64 k] W (fun e w' => e = .returned (.float .f32 (stepOf xs n i k)) ∧ Below W.heap.size W w')) := Lib.hid fun W i k h hi hk => step_any n i k A xs c W hn2 hi hk hl h
  have HRC : Hid (∀ i, i < n → w.cell? ⟨b2, o2 + i, none⟩ = some (.float .f32 (rowOf row i))) := Lib.hid fun i hi => rowOf_cell (by omega) hc2
  have HB2 := Lib.hid hB
  have HA := Lib.hid hA
  have HM0 : Hid (missTo xs row n 0 = 0) := Lib.hid rfl
  rw [hrl] at HF ⊢
  clear hf hl hp hrl hrw hv hw hx hc hn' hA hB hc2
  unfold missOut
  generalize missTo xs row n = mt at *
  go_enter Try.func42, Try.ntmps42
  go_wp2_with fail
  refine (HF.out _ (HA.out.at_ (below_al (Below.refl _ _) _)) (HB2.out.at_ (below_al (Below.refl _ _) _))).mono ?_
  rintro e w1 ⟨rfl, hb1⟩
  have z0 : w1.cell? ⟨w.heap.size, 0, none⟩ = some (.int .i64 n) := keepC hb1 (by simp [go_sem])
  have z1 : w1.cell? ⟨w.heap.size, 1, none⟩ = some (.slice A xs.length c) := keepC hb1 (by simp [go_sem])
  have HB1 := Lib.hid (below_next (below_al (Below.refl _ _) _) hb1)
  clear hb1 HF
  go_wp2_with fail
  go_loopw [6, 16] (fun v k wr => ∃ q : Nat, q ≤ n ∧ k = .int .i64 q ∧ v = .float .f32 (mt (q * n)) ∧ Below w1.heap.size w1 wr) (fun _ k _ => n - (intOf k).toNat)
  case atStart => exact ⟨0, Nat.zero_le _, rfl, by rw [Nat.zero_mul, HM0.out], Below.refl _ _⟩
  case round =>
    obtain ⟨q, hq, rfl, rfl, hbw⟩ := hrel
    rename World => wr
    have g0 : wr.cell? ⟨w.heap.size, 0, none⟩ = some (.int .i64 n) := keepC hbw z0
    have g1 : wr.cell? ⟨w.heap.size, 1, none⟩ = some (.slice A xs.length c) := keepC hbw z1
    have HBW := Lib.hid hbw
    clear hbw
    by_cases hqt : q < n
    · go_wp2_with fail
      go_loopw [6, 21] (fun v i W => ∃ j : Nat, j ≤ n ∧ i = .int .i64 j ∧ v = .float .f32 (mt (q * n + j)) ∧ Below w1.heap.size w1 W) (fun _ i _ => n - (intOf i).toNat)
      case atStart => exact ⟨0, Nat.zero_le _, rfl, rfl, HBW.out⟩
      case round =>
        obtain ⟨j, hj, rfl, rfl, hbv⟩ := hrel
        rename World => wv
        have HBV := Lib.hid hbv
        clear hbv
        by_cases hjt : j < n
        · obtain ⟨r1, r2, r3, hfin⟩ := HR.out q j hqt hjt
          have hmx := HM.out q j hqt hjt
          have hok := HO.out (q * n + j) (Nat.le_of_lt (HIX.out q j hqt hjt))
          have HABS := Lib.hid fun W => absolute_any (missAt xs row n q j) W (fin_not_nan hfin)
          have hff : isFin single (fabs (missAt xs row n q j)) = true := by
            have he : 1 ≤ single.exponentBits := by decide
            rw [fin_iff single he] at hfin ⊢
            unfold fabs
            split
            · rw [(neg_parts _).1]; exact hfin
            · exact hfin
          have HFI := Lib.hid fun W => IsFinite_any (fabs (missAt xs row n q j)) W
          rw [hff] at HFI
          have em : ∀ (W : World) ts t, (Builtin.max_ ts t #[.float .f32 (mt (q * n + j)), .float .f32 (fabs (missAt xs row n q j))]).run Try.prog W = .ok (.float .f32 (mt (q * n + j + 1))) W := fun W ts t => by rw [run_max_f W ts t (fin_not_nan hok.2) (fin_not_nan hff), hmx]
          have e1 := fun w => run_float_arith (P := Try.prog) w .mul 33 .f32 _ _ _ r1
          have e2 := fun w => run_float_arith (P := Try.prog) w .mul 33 .f32 _ _ _ r2
          have e3 := fun w => run_float_arith (P := Try.prog) w .sub 33 .f32 _ _ _ r3
          have g0v : wv.cell? ⟨w.heap.size, 0, none⟩ = some (.int .i64 n) := keepC HBV.out z0
          have g1v : wv.cell? ⟨w.heap.size, 1, none⟩ = some (.slice A xs.length c) := keepC HBV.out z1
          have HBr : Hid (Below w.heap.size w wv) := Lib.hid (below_next HB1.out HBV.out)
          have g2 : wv.cell? ⟨b2, o2 + q, none⟩ = some (.float .f32 (rowOf row q)) := (HBr.out.cell (p := ⟨b2, o2 + q, none⟩) hb2).trans (HRC.out q hqt)
          have g3 : wv.cell? ⟨b2, o2 + j, none⟩ = some (.float .f32 (rowOf row j)) := (HBr.out.cell (p := ⟨b2, o2 + j, none⟩) hb2).trans (HRC.out j hjt)
          have hMk : Hid (∀ W, Below wv.heap.size wv W → W.cell? ⟨w.heap.size, 0, none⟩ = some (.int .i64 n) ∧ W.cell? ⟨w.heap.size, 1, none⟩ = some (.slice A xs.length c) ∧ W.cell? ⟨b2, o2 + q, none⟩ = some (.float .f32 (rowOf row q)) ∧ W.cell? ⟨b2, o2 + j, none⟩ = some (.float .f32 (rowOf row j))) := Lib.hid fun W hW => ⟨keepC hW g0v, keepC hW g1v, keepC hW g2, keepC hW g3⟩
          clear r1 r2 r3 hfin hmx hok hff
          generalize fmul (rowOf row q) (stepOf xs n q j) = p1 at *
          generalize fmul (rowOf row j) (stepOf xs n j q) = p2 at *
          generalize missAt xs row n q j = df at *
          generalize fabs df = ms at *
          generalize hm2e : mt (q * n + j + 1) = m2 at *
          have HM2 : Hid (mt (q * n + (j + 1)) = m2) := Lib.hid hm2e
          clear hm2e
          generalize mt (q * n + j) = m1 at *
          generalize rowOf row q = rq at *
          generalize rowOf row j = rj at *
          go_wp2_with fail
          go_region_held3 (fun W => W.cell? ⟨w.heap.size, 0, none⟩ = some (.int .i64 n) ∧ W.cell? ⟨w.heap.size, 1, none⟩ = some (.slice A xs.length c) ∧ W.cell? ⟨b2, o2 + q, none⟩ = some (.float .f32 rq) ∧ W.cell? ⟨b2, o2 + j, none⟩ = some (.float .f32 rj))
            (first | exact hMk.out _ (by repeat (first | assumption | exact Below.refl _ _ | refine below_al ?_ _ | refine below_dr ?_ | refine below_dn ?_ _)))
            (first
              | (go_at_call 109; refine (HST.out _ _ _ (HA.out.at_ (below_next HBr.out (by repeat (first | assumption | exact Below.refl _ _ | refine below_al ?_ _ | refine below_dr ?_ | refine below_dn ?_ _)))) (by assumption) (by assumption)).mono ?_; rintro e wm ⟨rfl, hbm⟩; have hkm : Below wv.heap.size wv wm := below_next (by repeat (first | assumption | exact Below.refl _ _ | refine below_al ?_ _ | refine below_dr ?_ | refine below_dn ?_ _)) hbm)
              | (go_at_call 98; refine (HABS.out _).mono ?_; rintro e wz ⟨rfl, mz, rfl⟩))
          all_goals
            go_wp2_with (go_at_call 82; refine (HFI.out _).mono ?_; rintro e wq ⟨rfl, mq, rfl⟩)
            go_roundw
            case rel => exact ⟨j + 1, by omega, by go_num, by rw [HM2.out], below_next HBV.out (by repeat (first | assumption | exact Below.refl _ _ | refine below_al ?_ _ | refine below_dr ?_ | refine below_dn ?_ _))⟩
            case measure => simp [intOf]; omega
        · obtain rfl : j = n := by omega
          go_wp2_with fail
          go_roundw
          case rel => exact ⟨q + 1, by omega, by go_num, by rw [Nat.add_mul, Nat.one_mul], HBV.out⟩
          case measure => simp [intOf]; omega
    · obtain rfl : q = n := by omega
      go_wp2_with fail
      refine bodyPost_ret (v := .tuple #[.float .f32 (mt (q * q)), .bool true]) (by simp [results, Try.results42, go_sem]) rfl ?_
      exact ⟨rfl, below_next HB1.out HBW.out⟩

set_option maxRecDepth 100000 in
set_option maxHeartbeats 3200000 in
theorem specBalanceMiss_ok (n : Nat) (A : Option Addr) (xs : List Nat) (c : Nat) (B : Option Addr) (row : List Nat) (d : Nat) (w : World) (hx : xs.length ≤ 9223372036854775807) (hA : Rd w w.heap.size A (fl xs)) (hB : Rd w w.heap.size B (fl row)) (hf : fitB n xs row = true) :
    Calls Try.prog 41 #[.agg #[.int .i64 n, .slice A xs.length c], .slice B row.length d] w (missOut (missTo xs row n (n * n)) true w) := by
  obtain ⟨n', hn', hn1, hn2, hl, hp, hrl, hrw, hv, hw⟩ := fitB_facts hf
  obtain rfl : n = n' := by omega
  have HF := Lib.hid fun b W h0 h1 h h' => l07Fits_any b n A xs c B row d W hx (by omega) h0 h1 h h'
  rw [hf] at HF
  have HR := Lib.hid fun i k hi hk => missAt_runs (i := i) (k := k) hl hp hrl hrw hi hk
  have HM := Lib.hid fun (i k : Nat) (hk : k < n) => missTo_at (xs := xs) (row := row) (n := n) (i := i) (k := k) hk
  have HO := Lib.hid (missTo_ok hn1 hl hp hrl hrw)
  have HIX : Hid (∀ i k, i < n → k < n → i * n + k < n * n) := Lib.hid fun i k hi hk => idx_lt hi hk
  obtain ⟨b2, o2, rfl, hb2, hc2⟩ := hB (by rw [fl_len]; omega)
  obtain ⟨b1, o1, rfl, hb1, hc1⟩ := hA (by rw [fl_len, hl]; exact Nat.mul_pos (by omega) (by omega))
  have HRC : Hid (∀ i, i < n → w.cell? ⟨b2, o2 + i, none⟩ = some (.float .f32 (rowOf row i))) := Lib.hid fun i hi => rowOf_cell (by omega) hc2
  have HXC : Hid (∀ i k, i < n → k < n → w.cell? ⟨b1, o1 + (i * n + k), none⟩ = some (.float .f32 (stepOf xs n i k))) := Lib.hid fun i k hi hk => stepOf_cell hl hi hk hc1
  have HB2 := Lib.hid hB
  have HA := Lib.hid hA
  have hnn : n * n ≤ 144 := Nat.mul_le_mul hn2 hn2
  have hxl : n * n ≤ xs.length := by omega
  have HL := Lib.hid hl
  have HM0 : Hid (missTo xs row n 0 = 0) := Lib.hid rfl
  rw [hrl] at HF ⊢
  clear hf hl hp hrl hrw hv hw hx hn' hA hB hc2 hc1
  unfold missOut
  generalize missTo xs row n = mt at *
  go_enter Try.func41, Try.ntmps41
  go_wp2_with fail
  generalize hW1 : World.alloc w _ = W1
  have c0 : W1.cell? ⟨w.heap.size, 0, none⟩ = some (.int .i64 n) := by rw [← hW1]; simp [go_sem]
  have c1 : W1.cell? ⟨w.heap.size, 1, none⟩ = some (.slice (some ⟨b1, o1, none⟩) xs.length c) := by rw [← hW1]; simp [go_sem]
  have HB1 : Hid (Below w.heap.size w W1) := by rw [← hW1]; exact Lib.hid (below_al (Below.refl _ _) _)
  clear hW1
  refine (HF.out _ W1 c0 c1 (HA.out.at_ HB1.out) (HB2.out.at_ HB1.out)).mono ?_
  rintro e w1 ⟨rfl, m, rfl⟩
  have hbm : Below w.heap.size w (W1.drewN m) := below_drewN HB1.out m
  have y0 : (W1.drewN m).cell? ⟨w.heap.size, 0, none⟩ = some (.int .i64 n) := c0
  have y1 : (W1.drewN m).cell? ⟨w.heap.size, 1, none⟩ = some (.slice (some ⟨b1, o1, none⟩) xs.length c) := c1
  have HBM := Lib.hid hbm
  clear c0 c1 HB1 HF HA HB2 hbm
  generalize W1.drewN m = W2 at *
  have HRW : Hid (∀ i, i < n → W2.cell? ⟨b2, o2 + i, none⟩ = some (.float .f32 (rowOf row i))) := Lib.hid fun i hi => (HBM.out.cell (p := ⟨b2, o2 + i, none⟩) hb2).trans (HRC.out i hi)
  have HXW : Hid (∀ i k, i < n → k < n → W2.cell? ⟨b1, o1 + (i * n + k), none⟩ = some (.float .f32 (stepOf xs n i k))) := Lib.hid fun i k hi hk => (HBM.out.cell (p := ⟨b1, o1 + (i * n + k), none⟩) hb1).trans (HXC.out i k hi hk)
  clear HRC HXC
  go_wp2_with fail
  go_loopw [6, 17] (fun v k wr => ∃ q r : Nat, q ≤ n ∧ k = .int .i64 q ∧ v = .float .f32 (mt (q * n)) ∧ wr = W2.drewN r) (fun _ k _ => n - (intOf k).toNat)
  case atStart => exact ⟨0, 0, Nat.zero_le _, rfl, by rw [Nat.zero_mul, HM0.out], rfl⟩
  case round =>
    obtain ⟨q, r, hq, rfl, rfl, rfl⟩ := hrel
    by_cases hqt : q < n
    · go_wp2_with fail
      go_loopw [6, 22] (fun v i W => ∃ j r : Nat, j ≤ n ∧ i = .int .i64 j ∧ v = .float .f32 (mt (q * n + j)) ∧ W = W2.drewN r) (fun _ i _ => n - (intOf i).toNat)
      case atStart => exact ⟨0, r, Nat.zero_le _, rfl, rfl, rfl⟩
      case round =>
        obtain ⟨j, r2, hj, rfl, rfl, rfl⟩ := hrel
        by_cases hjt : j < n
        · obtain ⟨r1', r2', r3', hfin⟩ := HR.out q j hqt hjt
          have hmx := HM.out q j hjt
          have hok := HO.out (q * n + j) (Nat.le_of_lt (HIX.out q j hqt hjt))
          have HSZ := Lib.hid fun W => l07Size_any (missAt xs row n q j) W hfin
          have hgt : (FloatKind.f32.format.order (sizeF (missAt xs row n q j)) (mt (q * n + j)) == some .gt) = decide (key single (mt (q * n + j)) < key single (sizeF (missAt xs row n q j))) := gt_key (f := single) (by decide) (fin_not_nan (size_fin hfin).1) (fin_not_nan hok.2)
          have e1 := fun w => run_float_arith (P := Try.prog) w .mul 33 .f32 _ _ _ r1'
          have e2 := fun w => run_float_arith (P := Try.prog) w .mul 33 .f32 _ _ _ r2'
          have e3 := fun w => run_float_arith (P := Try.prog) w .sub 33 .f32 _ _ _ r3'
          have xa := HRW.out q hqt
          have xb := HRW.out j hjt
          have xc := HXW.out q j hqt hjt
          have xd := HXW.out j q hjt hqt
          have xi := HIX.out q j hqt hjt
          have xj := HIX.out j q hjt hqt
          have wq : IntKind.i64.wrap ((q : Int) * (n : Int)) = ((q * n : Nat) : Int) := by rw [show (q : Int) * (n : Int) = ((q * n : Nat) : Int) by push_cast; rfl]; exact IntWalk.i64_in _ (by omega)
          have wj : IntKind.i64.wrap ((j : Int) * (n : Int)) = ((j * n : Nat) : Int) := by rw [show (j : Int) * (n : Int) = ((j * n : Nat) : Int) by push_cast; rfl]; exact IntWalk.i64_in _ (by omega)
          have HMX := Lib.hid hmx
          clear r1' r2' r3' hfin hok hmx
          generalize fmul (rowOf row q) (stepOf xs n q j) = p1 at *
          generalize fmul (rowOf row j) (stepOf xs n j q) = p2 at *
          generalize missAt xs row n q j = df at *
          generalize sizeF df = sz at *
          generalize hm2e : mt (q * n + j + 1) = m2 at *
          have HM2 : Hid (mt (q * n + (j + 1)) = m2) := Lib.hid hm2e
          clear hm2e
          generalize hm1 : mt (q * n + j) = m1 at *
          have HM1 := Lib.hid hm1
          clear hm1
          generalize rowOf row q = rq at *
          generalize rowOf row j = rj at *
          generalize stepOf xs n q j = s1 at *
          generalize stepOf xs n j q = s2 at *
          by_cases hcmp : key single m1 < key single sz
          · have hm2 : m2 = sz := by rw [HMX.out, if_pos hcmp]
            have HM3 := Lib.hid hm2
            rw [decide_eq_true hcmp] at hgt
            clear hcmp hm2 HMX
            generalize hqn : q * n = qn at *
            generalize hjn : j * n = jn at *
            have HQ := Lib.hid hqn
            clear hqn hjn
            go_wp2_with fail
            go_quiet (fail)
            go_wp2_with fail
            go_quiet (fail)
            go_wp2_with (go_at_call 107; refine (HSZ.out _).mono ?_; rintro e wz ⟨rfl, mz, rfl⟩)
            go_roundw
            case rel => exact ⟨j + 1, _, by omega, by go_num, by rw [HM2.out, HM3.out], rfl⟩
            case measure => simp [intOf]; omega
          · have hm2 : m2 = m1 := by rw [HMX.out, if_neg hcmp]
            have HM3 := Lib.hid hm2
            rw [decide_eq_false hcmp] at hgt
            clear hcmp hm2 HMX
            generalize hqn : q * n = qn at *
            generalize hjn : j * n = jn at *
            have HQ := Lib.hid hqn
            clear hqn hjn
            go_wp2_with fail
            go_quiet (fail)
            go_wp2_with fail
            go_quiet (fail)
            go_wp2_with (go_at_call 107; refine (HSZ.out _).mono ?_; rintro e wz ⟨rfl, mz, rfl⟩)
            go_roundw
            case rel => exact ⟨j + 1, _, by omega, by go_num, by rw [HM2.out, HM3.out], rfl⟩
            case measure => simp [intOf]; omega
        · obtain rfl : j = n := by omega
          go_wp2_with fail
          go_roundw
          case rel => exact ⟨q + 1, _, by omega, by go_num, by rw [Nat.add_mul, Nat.one_mul], rfl⟩
          case measure => simp [intOf]; omega
    · obtain rfl : q = n := by omega
      go_wp2_with fail
      refine bodyPost_ret (v := .tuple #[.float .f32 (mt (q * q)), .bool true]) (by simp [results, Try.results41, go_sem]) rfl ?_
      exact ⟨rfl, below_drewN HBM.out _⟩
end Go.Proofs.Ytddaodjaeommlaa
