/-
  spec.StepMany.
-/
import Derived.Test.YtmpnfjajlmafgaaHj
import Derived.Test.YtmpnfjajlmafgaaHt
namespace Go.Proofs.Ytmpnfjajlmafgaa
open Go Go.RowKit Go.Sort Ieee
attribute [local go_sem] run_store_float

set_option maxHeartbeats 800000 in
theorem specStepMany_bad (A : Option Addr) (xs : List Nat) (c : Nat) (w : World) (hx : xs.length ≤ 9223372036854775807) (h : Rd w w.heap.size A (fl xs)) (hb : sharesB xs = false) : Calls Try.prog 28 #[.slice A xs.length c] w (smOut [] false w) := by
  have HS := Lib.hid (l06Shares_any A xs c w hx h)
  rw [hb] at HS
  clear h hb
  go_enter Try.func28, Try.ntmps28
  go_wp2_with (go_at_call 55; refine HS.out.mono ?_; rintro e w1 ⟨rfl, m, rfl⟩)
  go_ret2
  exact smOut_none (below_drewN (Below.refl _ _) _)
set_option maxRecDepth 100000 in
set_option maxHeartbeats 3200000 in
theorem specStepMany_ok (A : Option Addr) (xs : List Nat) (c : Nat) (w : World) (h : Rd w w.heap.size A (fl xs)) (hb : sharesB xs = true) :
    Calls Try.prog 28 #[.slice A xs.length c] w (fun e w' => ∃ d, OrdTo (keyI xs) xs.length d ∧ smOut (stepL xs d) true w e w') := by
  have hl : 1 ≤ xs.length ∧ xs.length ≤ 64 := by
    unfold sharesB at hb
    simp only [Bool.and_eq_true, decide_eq_true_eq] at hb
    exact hb.1
  have hp : xs.all partB = true := by
    unfold sharesB at hb
    simp only [Bool.and_eq_true] at hb
    exact hb.2
  have HS := Lib.hid (l06Shares_any A xs c w (by omega) h)
  rw [hb] at HS
  have HBY := Lib.hid fun W h => l06Order_any A xs c W hp hl h
  have HR := Lib.hid h
  have HLA := Lib.hid (list_at h hl.1)
  have HPT := Lib.hid fun (d : Array Nat) (hd : ∀ k, k < xs.length → d[k]! < xs.length) k (hk : k < xs.length) => stepV_run (getD_part hp (hd (xs.length - 1 - k) (by omega))) (show xs.length < 65 by omega) (show xs.length - k < 65 by omega) (by omega)
  have HW9 := Lib.hid fun (d : Array Nat) (hd : ∀ k, k < xs.length → d[k]! < xs.length) k (hk : k < xs.length) => leastI_word (f := capS xs d) (fun k hk => cap_word (step_word hp hl.2 hd k hk)) k hk
  have HC := Lib.hid fun x w => l06One_any x w
  obtain ⟨i0, hi0, hz0, hz1, hz2⟩ := info_parts info_f32h
  have hmk := run_make_row (P := Try.prog) 35 69 i0 (.float .f32 0) Try.underlying35 hi0 hz0 hz1 rfl .i64 .i64 xs.length (by rw [hz2]; omega) (by omega)
  have HL : Hid (∀ d, OrdTo (keyI xs) xs.length d → stepL xs d = outFL (specS xs d) (backD d xs.length) xs.length) := Lib.hid fun d hd => (step_same hp hl.2 (fun k hk => hd.lt hk)).symm
  have HN : Hid (∀ d : Array Nat, (stepL xs d).length = xs.length) := Lib.hid fun d => outFL_len _ _ _
  have HG : Hid (∀ (d : Array Nat) k, k < xs.length → specS xs d (k + 1) = if k = 0 ∨ FloatKind.f32.format.order (capF (stepV (xs.getD d[xs.length - 1 - k]! 0) xs.length (xs.length - k))) (specS xs d k) ≠ some .gt then capF (stepV (xs.getD d[xs.length - 1 - k]! 0) xs.length (xs.length - k)) else specS xs d k) := Lib.hid fun d k hk => rfl
  have HBD : Hid (∀ (d : Array Nat) j, backD d xs.length j = d[xs.length - 1 - j]!) := Lib.hid fun d j => rfl
  have HWS : Hid (∀ (d : Array Nat), (∀ k, k < xs.length → d[k]! < xs.length) → ∀ k, k < xs.length → wordN (specS xs d (k + 1))) := HW9
  have HWX : Hid (∀ (d : Array Nat), (∀ k, k < xs.length → d[k]! < xs.length) → ∀ k, k < xs.length → wordN (capF (stepV (xs.getD d[xs.length - 1 - k]! 0) xs.length (xs.length - k)))) := Lib.hid fun d hd k hk => cap_word (step_word hp hl.2 hd k hk)
  clear HW9
  have HG0 : Hid (∀ d, specS xs d 0 = 0) := Lib.hid fun d => rfl
  have HLT : Hid (∀ d, OrdTo (keyI xs) xs.length d → ∀ k, k < xs.length → d[k]! < xs.length) := Lib.hid fun d hd k hk => hd.lt hk
  clear h hb hp hi0 hz0 hz1 hz2
  obtain ⟨b0, off0, rfl, hb0, hc0⟩ := HLA.out
  have HC0 := Lib.hid hc0
  clear hc0 HLA
  generalize stepL xs = hL at *
  generalize specS xs = mG at *
  generalize backD = bD at *
  generalize keyI xs = K at *
  generalize hgx : (fun i => xs.getD i 0) = fx at *
  have hgx' : ∀ i, xs.getD i 0 = fx i := fun i => by rw [← hgx]
  simp only [hgx'] at HPT HC0 HG HWX
  clear hgx hgx'
  have hfl : ∀ ys : List Nat, fl ys = ys.map (Value.float .f32) := fun _ => rfl
  unfold smOut
  generalize fl xs = fxs at *
  generalize xs.length = n at *
  go_enter Try.func28, Try.ntmps28
  go_upto_region 4 with (first
    | (go_at_call 55; refine HS.out.mono ?_; rintro e w1 ⟨rfl, m, rfl⟩)
    | (go_at_call 56; refine (HBY.out _ (by exact HR.out)).mono ?_; rintro e w2 ⟨A2, c2, d, rfl, hd1, hd2, hb2⟩; have D0 := Lib.hid hd1; have D2 := Lib.hid hd2; have B2 := Lib.hid hb2; clear hd1 hd2 hb2))
  have D3 : Hid (∃ g, A2 = some ⟨g, 0, none⟩ ∧ g < w2.heap.size ∧ (∀ p, p < n → w2.cell? ⟨g, p, none⟩ = some (.int .i64 (d[p]! : Nat))) ∧ Below w.heap.size w w2) := Lib.hid (by
    obtain ⟨g, h1, h2, h3, h4⟩ := own_holdsD D2.out D0.out.z hl.1
    refine ⟨g, h1, h3, fun p hp => ?_, (below_drewN (Below.refl _ _) _).trans B2.out⟩
    have := (h4 p (by have := D0.out.z; omega)).1
    rw [Nat.zero_add] at this
    exact this)
  obtain ⟨g, rfl, hg2, hg3, hg4⟩ := D3.out
  have G2 := Lib.hid hg2
  have G3 := Lib.hid hg3
  have G4 := Lib.hid hg4
  clear D2 D3 B2 hg2 hg3 hg4 HS HR HBY
  have R0 := Lib.hid (World.rowIs_made w2 (.float .f32 0) n 69)
  have B0 := Lib.hid (below_al (Below.refl w2.heap.size w2) (.cells (madeCells #[.float .f32 0] n) 69))
  go_upto_region 5 with fail
  have H0 : Hid (HW w w.heap.size w2.heap.size n g d (fun _ => 0) (w2.alloc (.cells (madeCells #[.float .f32 0] n) 69))) := Lib.hid (by
    have h1 := G4.out.size
    have h2 := G2.out
    exact ⟨G4.out.trans (B0.out.mono (by omega)), R0.out, fun p hp => keepC B0.out (G3.out p hp), by omega, h1⟩)
  clear R0 B0 G2 G3
  generalize World.alloc w2 _ = W1 at *
  go_wp2_with fail
  have hne : g ≠ w2.heap.size := H0.out.ne
  go_loopw [6, 7] (fun mv kv wr => ∃ k : Nat, k ≤ n ∧ kv = .int .i64 ((n : Int) - 1 - (k : Int)) ∧ mv = .float .f32 (mG d k) ∧ HW w w.heap.size w2.heap.size n g d (outF (mG d) (bD d n) k) wr) (fun _ kv _ => (intOf kv + 1).toNat)
  case atStart => exact ⟨0, Nat.zero_le _, by go_num, by rw [HG0.out], H0.out⟩
  case round =>
    clear H0
    obtain ⟨k, hk, rfl, rfl, hw⟩ := hrel
    rename World => wr
    by_cases hlt : k < n
    · have hi := HLT.out d D0.out (n - 1 - k) (by omega)
      have y0 := hw.o (n - 1 - k) (by omega)
      have z1 := (hw.b.cell (p := ⟨b0, off0 + d[n - 1 - k]!, none⟩) hb0).trans (HC0.out _ hi)
      have y2 := hw.r.cell hi
      have f0 := hw.r.frozen d[n - 1 - k]!
      have H9 : Hid (∀ q, HW w w.heap.size w2.heap.size n g d (outF (mG d) (bD d n) (k + 1)) ((wr.drewN q).setCell ⟨w2.heap.size, d[n - 1 - k]!, none⟩ (.float .f32 (mG d (k + 1))))) := Lib.hid fun q => by
        have := (hw.drewN q).set d[n - 1 - k]! (mG d (k + 1))
        rw [← HBD.out] at this ⊢
        exact this
      have hm := HG.out d k hlt
      have hms := HPT.out d (HLT.out d D0.out) k hlt
      have HLE : Hid (0 < k → (FloatKind.f32.format.order (capF (stepV (fx d[n - 1 - k]!) n (n - k))) (mG d k) == some .lt || FloatKind.f32.format.order (capF (stepV (fx d[n - 1 - k]!) n (n - k))) (mG d k) == some .eq) = decide (FloatKind.f32.format.order (capF (stepV (fx d[n - 1 - k]!) n (n - k))) (mG d k) ≠ some .gt)) := Lib.hid fun h0 => by
        obtain ⟨k', rfl⟩ : ∃ k', k = k' + 1 := ⟨k - 1, by omega⟩
        exact le_test (HWX.out d (HLT.out d D0.out) _ hlt) (HWS.out d (HLT.out d D0.out) k' (by omega))
      have hrun := fun w => run_float_arith (P := Try.prog) w .mul 69 .f32 _ _ _ hms.1
      have hrun2 := fun w => run_float_arith (P := Try.prog) w .quo 69 .f32 _ _ _ hms.2.1
      have hix : (n : Int) - 1 - (k : Int) = ((n - 1 - k : Nat) : Int) := by omega
      have hge : 0 ≤ (n : Int) - 1 - (k : Int) := by omega
      have HKN : Hid (n - 1 - k + 1 = n - k ∧ (k = 0 ↔ n - 1 - k = n - 1) ∧ n - 1 - k < n) := Lib.hid ⟨by omega, by omega, by omega⟩
      rw [hix] at *
      have hwk : IntKind.i64.wrap (((n - 1 - k : Nat) : Int) + 1) = ((n - k : Nat) : Int) := by rw [show ((n - 1 - k : Nat) : Int) + 1 = ((n - k : Nat) : Int) by omega]; exact IntWalk.i64_in _ (by omega)
      have hwn : IntKind.i64.wrap ((n : Int) - 1) = ((n - 1 : Nat) : Int) := by rw [show (n : Int) - 1 = ((n - 1 : Nat) : Int) by omega]; exact IntWalk.i64_in _ (by omega)
      have hwp : IntKind.i64.wrap (((n - 1 - k : Nat) : Int) - 1) = (n : Int) - 1 - ((k + 1 : Nat) : Int) := by rw [show ((n - 1 - k : Nat) : Int) - 1 = (n : Int) - 1 - ((k + 1 : Nat) : Int) by omega]; exact IntWalk.i64_in _ (by omega)
      have hkz : ((n - 1 - k : Nat) : Int) < (n : Int) := by omega
      have hiz : ((d[n - 1 - k]! : Nat) : Int) < (n : Int) := by omega
      clear hw hms HPT HG HLT HC0 HWX HWS HBD hix hge
      clear hi
      generalize d[n - 1 - k]! = i at *
      generalize fx i = xi at *
      generalize outF (mG d) (bD d n) k i = oi at *
      generalize hmm : mG d k = mm at *
      generalize hmn : mG d (k + 1) = mn at *
      generalize stepV xi n (n - k) = x at *
      generalize fmul xi _ = xm at *
      generalize hnk : n - k = nk at *
      generalize hnp : n - 1 - k = np at *
      generalize hn1 : n - 1 = n1 at *
      have HK9 := Lib.hid (And.intro hnk (And.intro hnp hn1))
      clear hnk hnp hn1
      have HCX := Lib.hid (HC.out x)
      clear HC
      generalize capF x = cx at *
      have HMN := Lib.hid hmn
      have HMM := Lib.hid hmm
      clear hmm hmn
      by_cases h0 : k = 0
      · rw [if_pos (.inl h0)] at hm
        subst hm
        have hnn : np = n1 := HKN.out.2.1.1 h0
        subst hnn
        go_wp2_with (go_at_call 57; refine (HCX.out _).mono ?_; rintro e w' ⟨rfl, q, rfl⟩)
        go_roundw
        case rel => exact ⟨k + 1, by omega, by go_num, by rw [HMN.out], H9.out q⟩
        case measure => have := HK9.out; simp [intOf]; omega
      · have hnn : ¬ ((np : Int) = (n1 : Int)) := by
          have h2 := HKN.out.2.1
          intro h3
          exact h0 (h2.2 (by omega))
        have hnn2 : ¬ np = n1 := fun h3 => hnn (by omega)
        have HLF := HLE.out (by omega)
        by_cases ho : FloatKind.f32.format.order cx mm ≠ some .gt
        · rw [if_pos (.inr ho)] at hm
          rw [decide_eq_true ho] at HLF
          subst hm
          clear h0 ho
          go_wp2_with (go_at_call 57; refine (HCX.out _).mono ?_; rintro e w' ⟨rfl, q, rfl⟩)
          go_roundw
          case rel => exact ⟨k + 1, by omega, by go_num, by rw [HMN.out], H9.out q⟩
          case measure => have := HK9.out; simp [intOf]; omega
        · rw [if_neg (by rintro (h | h); exact h0 h; exact ho h)] at hm
          rw [decide_eq_false ho] at HLF
          subst hm
          clear h0 ho
          go_wp2_with (go_at_call 57; refine (HCX.out _).mono ?_; rintro e w' ⟨rfl, q, rfl⟩)
          go_roundw
          case rel => exact ⟨k + 1, by omega, by go_num, by rw [HMN.out], H9.out q⟩
          case measure => have := HK9.out; simp [intOf]; omega
    · obtain rfl : k = n := by omega
      have hneg : ¬ 0 ≤ (k : Int) - 1 - (k : Int) := by omega
      go_wp2_with fail
      go_ret2
      refine ⟨d, D0.out, some ⟨w2.heap.size, 0, none⟩, k, by rw [HN.out]; rfl, ?_, hw.b⟩
      rw [HN.out]; try rw [hfl]
      rw [HL.out d D0.out]
      have := own_row hw.r hw.lo (by unfold maxLen; omega)
      unfold outFL
      rw [List.map_map]
      exact this
end Go.Proofs.Ytmpnfjajlmafgaa
