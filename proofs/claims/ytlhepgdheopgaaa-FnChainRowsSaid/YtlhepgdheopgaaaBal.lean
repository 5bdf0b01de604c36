/-
  impl.BalanceMiss and spec.BalanceMiss.
-/
import Derived.Test.YtlhepgdheopgaaaSrs
namespace Go.Proofs.Ytlhepgdheopgaaa
open Go Go.RowKit Ieee
attribute [local go_sem] run_store_float

set_option maxHeartbeats 400000 in
theorem l07Size_any (x : Nat) (w : World) (hx : isFin single x = true) : Calls Try.prog 45 #[.float .f32 x] w (Quiet (.float .f32 (sizeF x)) w) := by
  have hn := fin_not_nan hx
  have hl : (FloatKind.f32.format.order x 0 == some .lt || FloatKind.f32.format.order x 0 == some .eq) = decide (key single x ≤ 0) := by
    have := le_key (f := single) (by decide) hn zero_notNan
    rw [key_zero] at this
    exact this
  have e1 := fun w => run_float_arith (P := Try.prog) w .sub 31 .f32 _ _ _ (fsub_run zero_notNan hx).1
  by_cases h : key single x ≤ 0
  · have HF : Hid (sizeF x = fsub 0 x) := Lib.hid (if_pos h)
    rw [decide_eq_true h] at hl
    clear h hn hx
    go_enter Try.func45, Try.ntmps45
    go_wp2
    go_ret
    rw [HF.out]
    exact .mk0
  · have HF : Hid (sizeF x = x) := Lib.hid (if_neg h)
    rw [decide_eq_false h] at hl
    clear h hn hx e1
    go_enter Try.func45, Try.ntmps45
    go_wp2
    go_ret
    rw [HF.out]
    exact .mk0

def missOut (v : Nat) (ok : Bool) (w : World) : Ending → World → Prop := fun e w' => e = .returned (.tuple #[.float .f32 v, .bool ok]) ∧ Below w.heap.size w w'

set_option maxHeartbeats 800000 in
theorem BalanceMiss_bad (side : Int) (A : Option Addr) (xs : List Nat) (c : Nat) (B : Option Addr) (row : List Nat) (d : Nat) (w : World) (hx : xs.length ≤ c) (hc : c ≤ 9223372036854775807) (hr : row.length ≤ 9223372036854775807) (hA : Rd w w.heap.size A (fl xs)) (hB : Rd w w.heap.size B (fl row)) (hb : fitB side xs row = false) :
    Calls Try.prog 10 #[.agg #[.int .i64 side, .slice A xs.length c], .slice B row.length d] w (missOut 0 false w) := by
  have HF := Lib.hid fun W h h' => isRowOf_any side A xs c B row d W hx hc hr h h'
  rw [hb] at HF
  clear hb
  go_enter Try.func10, Try.ntmps10
  go_wp2_with (go_at_call 32; refine (HF.out _ (hA.at_ ((Below.refl _ _).alloc (Nat.le_refl _) _)) (hB.at_ ((Below.refl _ _).alloc (Nat.le_refl _) _))).mono ?_; rintro e w1 ⟨rfl, hb1⟩)
  refine bodyPost_ret (v := .tuple #[.float .f32 0, .bool false]) (by simp [results, Try.results10, go_sem]) rfl ?_
  exact ⟨rfl, below_next (below_al (Below.refl _ _) _) hb1⟩
set_option maxRecDepth 100000 in
set_option maxHeartbeats 3200000 in
theorem BalanceMiss_ok (n : Nat) (A : Option Addr) (xs : List Nat) (c : Nat) (B : Option Addr) (row : List Nat) (d : Nat) (w : World) (hx : xs.length ≤ c) (hc : c ≤ 9223372036854775807) (hA : Rd w w.heap.size A (fl xs)) (hB : Rd w w.heap.size B (fl row)) (hf : fitB n xs row = true) :
    Calls Try.prog 10 #[.agg #[.int .i64 n, .slice A xs.length c], .slice B row.length d] w (missOut (missTo xs row n (n * n)) true w) := by
  obtain ⟨n', hn', hn1, hn2, hl, hp, hrl, hrw, hv, hw⟩ := fitB_facts hf
  obtain rfl : n = n' := by omega
  have HF := Lib.hid fun W h h' => isRowOf_any n A xs c B row d W hx hc (by omega) h h'
  rw [hf] at HF
  have HR := Lib.hid fun i k hi hk => missAt_runs (i := i) (k := k) hl hp hrl hrw hi hk
  have HM := Lib.hid fun i k hi hk => missTo_max (i := i) (k := k) hl hp hrl hrw hi hk
  have HO := Lib.hid (missTo_ok hn1 hl hp hrl hrw)
  have HIX : Hid (∀ i k, i < n → k < n → i * n + k < n * n) := Lib.hid fun i k hi hk => idx_lt hi hk
  obtain ⟨b2, o2, rfl, hb2, hc2⟩ := hB (by rw [fl_len]; omega)
  have HST : Hid (∀ W i k, Rd W W.heap.size A (fl xs) → i < n → k < n → Calls Try.prog 35 #[.agg #[.int .i64 n, .slice A xs.length c], .int .i64 i, .int .i64 k] W (fun e w' => e = .returned (.float .f32 (stepOf xs n i k)) ∧ Below W.heap.size W w')) := Lib.hid fun W i k h hi hk => step_any n i k A xs c W hn2 hi hk hl h
  have HRC : Hid (∀ i, i < n → w.cell? ⟨b2, o2 + i, none⟩ = some (.float .f32 (rowOf row i))) := Lib.hid fun i hi => rowOf_cell (by omega) hc2
  have HB2 := Lib.hid hB
  have HA := Lib.hid hA
  have HM0 : Hid (missTo xs row n 0 = 0) := Lib.hid rfl
  rw [hrl] at HF ⊢
  clear hf hl hp hrl hrw hv hw hx hc hn' hA hB hc2
  unfold missOut
  generalize missTo xs row n = mt at *
  go_enter Try.func10, Try.ntmps10
  go_wp2_with fail
  refine (HF.out _ (HA.out.at_ (below_al (Below.refl _ _) _)) (HB2.out.at_ (below_al (Below.refl _ _) _))).mono ?_
  rintro e w1 ⟨rfl, hb1⟩
  have z0 : w1.cell? ⟨w.heap.size, 0, none⟩ = some (.int .i64 n) := keepC hb1 (by simp [go_sem])
  have z1 : w1.cell? ⟨w.heap.size, 1, none⟩ = some (.slice A xs.length c) := keepC hb1 (by simp [go_sem])
  have HB1 := Lib.hid (below_next (below_al (Below.refl _ _) _) hb1)
  clear hb1 HF
  go_wp2_with fail
  go_loopw [6, 16] (fun v k wr => ∃ q : Nat, q ≤ n ∧ k = .int .i64 q ∧ v = .float .f32 (mt (q * n)) ∧ Below w1.heap.size w1 wr) (fun _ k _ => n - (intOf k).toNat)
  case atStart => exact ⟨0, Nat.zero_le _, rfl, by rw [Nat.zero_mul, HM0.out], Below.refl _ _⟩
  case round =>
    obtain ⟨q, hq, rfl, rfl, hbw⟩ := hrel
    rename World => wr
    have g0 : wr.cell? ⟨w.heap.size, 0, none⟩ = some (.int .i64 n) := keepC hbw z0
    have g1 : wr.cell? ⟨w.heap.size, 1, none⟩ = some (.slice A xs.length c) := keepC hbw z1
    have HBW := Lib.hid hbw
    clear hbw
    by_cases hqt : q < n
    · go_wp2_with fail
      go_loopw [6, 21] (fun v i W => ∃ j : Nat, j ≤ n ∧ i = .int .i64 j ∧ v = .float .f32 (mt (q * n + j)) ∧ Below w1.heap.size w1 W) (fun _ i _ => n - (intOf i).toNat)
      case atStart => exact ⟨0, Nat.zero_le _, rfl, rfl, HBW.out⟩
      case round =>
        obtain ⟨j, hj, rfl, rfl, hbv⟩ := hrel
        rename World => wv
        have HBV := Lib.hid hbv
        clear hbv
        by_cases hjt : j < n
        · obtain ⟨r1, r2, r3, hfin⟩ := HR.out q j hqt hjt
          have hmx := HM.out q j hqt hjt
          have hok := HO.out (q * n + j) (Nat.le_of_lt (HIX.out q j hqt hjt))
          have HABS := Lib.hid fun W => absolute_any (missAt xs row n q j) W (fin_not_nan hfin)
          have hff : isFin single (fabs (missAt xs row n q j)) = true := by
            have he : 1 ≤ single.exponentBits := by decide
            rw [fin_iff single he] at hfin ⊢
            unfold fabs
            split
            · rw [(neg_parts _).1]; exact hfin
            · exact hfin
          have HFI := Lib.hid fun W => IsFinite_any (fabs (missAt xs row n q j)) W
          rw [hff] at HFI
          have em : ∀ (W : World) ts t, (Builtin.max_ ts t #[.float .f32 (mt (q * n + j)), .float .f32 (fabs (missAt xs row n q j))]).run Try.prog W = .ok (.float .f32 (mt (q * n + j + 1))) W := fun W ts t => by rw [run_max_f W ts t (fin_not_nan hok.2) (fin_not_nan hff), hmx]
          have e1 := fun w => run_float_arith (P := Try.prog) w .mul 31 .f32 _ _ _ r1
          have e2 := fun w => run_float_arith (P := Try.prog) w .mul 31 .f32 _ _ _ r2
          have e3 := fun w => run_float_arith (P := Try.prog) w .sub 31 .f32 _ _ _ r3
          have g0v : wv.cell? ⟨w.heap.size, 0, none⟩ = some (.int .i64 n) := keepC HBV.out z0
          have g1v : wv.cell? ⟨w.heap.size, 1, none⟩ = some (.slice A xs.length c) := keepC HBV.out z1
          have HBr : Hid (Below w.heap.size w wv) := Lib.hid (below_next HB1.out HBV.out)
          have g2 : wv.cell? ⟨b2, o2 + q, none⟩ = some (.float .f32 (rowOf row q)) := (HBr.out.cell (p := ⟨b2, o2 + q, none⟩) hb2).trans (HRC.out q hqt)
          have g3 : wv.cell? ⟨b2, o2 + j, none⟩ = some (.float .f32 (rowOf row j)) := (HBr.out.cell (p := ⟨b2, o2 + j, none⟩) hb2).trans (HRC.out j hjt)
          have hMk : Hid (∀ W, Below wv.heap.size wv W → W.cell? ⟨w.heap.size, 0, none⟩ = some (.int .i64 n) ∧ W.cell? ⟨w.heap.size, 1, none⟩ = some (.slice A xs.length c) ∧ W.cell? ⟨b2, o2 + q, none⟩ = some (.float .f32 (rowOf row q)) ∧ W.cell? ⟨b2, o2 + j, none⟩ = some (.float .f32 (rowOf row j))) := Lib.hid fun W hW => ⟨keepC hW g0v, keepC hW g1v, keepC hW g2, keepC hW g3⟩
          clear r1 r2 r3 hfin hmx hok hff
          generalize fmul (rowOf row q) (stepOf xs n q j) = p1 at *
          generalize fmul (rowOf row j) (stepOf xs n j q) = p2 at *
          generalize missAt xs row n q j = df at *
          generalize fabs df = ms at *
          generalize hm2e : mt (q * n + j + 1) = m2 at *
          have HM2 : Hid (mt (q * n + (j + 1)) = m2) := Lib.hid hm2e
          clear hm2e
          generalize mt (q * n + j) = m1 at *
          generalize rowOf row q = rq at *
          generalize rowOf row j = rj at *
          go_wp2_with fail
          go_region_held3 (fun W => W.cell? ⟨w.heap.size, 0, none⟩ = some (.int .i64 n) ∧ W.cell? ⟨w.heap.size, 1, none⟩ = some (.slice A xs.length c) ∧ W.cell? ⟨b2, o2 + q, none⟩ = some (.float .f32 rq) ∧ W.cell? ⟨b2, o2 + j, none⟩ = some (.float .f32 rj))
            (first | exact hMk.out _ (by repeat (first | assumption | exact Below.refl _ _ | refine below_al ?_ _ | refine below_dr ?_ | refine below_dn ?_ _)))
            (first
              | (go_at_call 35; refine (HST.out _ _ _ (HA.out.at_ (below_next HBr.out (by repeat (first | assumption | exact Below.refl _ _ | refine below_al ?_ _ | refine below_dr ?_ | refine below_dn ?_ _)))) (by assumption) (by assumption)).mono ?_; rintro e wm ⟨rfl, hbm⟩; have hkm : Below wv.heap.size wv wm := below_next (by repeat (first | assumption | exact Below.refl _ _ | refine below_al ?_ _ | refine below_dr ?_ | refine below_dn ?_ _)) hbm)
              | (go_at_call 39; refine (HABS.out _).mono ?_; rintro e wz ⟨rfl, mz, rfl⟩))
          all_goals
            go_wp2_with (go_at_call 40; refine (HFI.out _).mono ?_; rintro e wq ⟨rfl, mq, rfl⟩)
            go_roundw
            case rel => exact ⟨j + 1, by omega, by go_num, by rw [HM2.out], below_next HBV.out (by repeat (first | assumption | exact Below.refl _ _ | refine below_al ?_ _ | refine below_dr ?_ | refine below_dn ?_ _))⟩
            case measure => simp [intOf]; omega
        · obtain rfl : j = n := by omega
          go_wp2_with fail
          go_roundw
          case rel => exact ⟨q + 1, by omega, by go_num, by rw [Nat.add_mul, Nat.one_mul], HBV.out⟩
          case measure => simp [intOf]; omega
    · obtain rfl : q = n := by omega
      go_wp2_with fail
      refine bodyPost_ret (v := .tuple #[.float .f32 (mt (q * q)), .bool true]) (by simp [results, Try.results10, go_sem]) rfl ?_
      exact ⟨rfl, below_next HB1.out HBW.out⟩

end Go.Proofs.Ytlhepgdheopgaaa

