/-
  spec.HolmMany.
-/
import Derived.Test.YtmpnfjajlmafgaaHi
import Derived.Test.YtmpnfjajlmafgaaHq
namespace Go.Proofs.Ytmpnfjajlmafgaa
open Go Go.RowKit Go.Sort Ieee
attribute [local go_sem] run_store_float

set_option maxHeartbeats 800000 in
theorem specHolmMany_bad (A : Option Addr) (xs : List Nat) (c : Nat) (w : World) (hx : xs.length ≤ 9223372036854775807) (h : Rd w w.heap.size A (fl xs)) (hb : sharesB xs = false) : Calls Try.prog 22 #[.slice A xs.length c] w (smOut [] false w) := by
  have HS := Lib.hid (l06Shares_any A xs c w hx h)
  rw [hb] at HS
  clear h hb
  go_enter Try.func22, Try.ntmps22
  go_wp2_with (go_at_call 55; refine HS.out.mono ?_; rintro e w1 ⟨rfl, m, rfl⟩)
  go_ret2
  exact smOut_none (below_drewN (Below.refl _ _) _)
/-- the numbers of the reference, capped one by one -/
def capX (xs : List Nat) (d : Array Nat) (k : Nat) : Nat := capF (holmX xs d k)
def specG (xs : List Nat) (d : Array Nat) (k : Nat) : Nat := mostI (capX xs d) k
theorem holm_same {xs : List Nat} {d : Array Nat} (hp : xs.all partB = true) (hl : xs.length ≤ 64) (hd : ∀ k, k < xs.length → d[k]! < xs.length) : outL (specG xs d) d xs.length = holmL xs d :=
  outL_congr (fun j hj => most_cap (holm_word hp hl hd) j hj) (fun _ _ => rfl)
set_option maxRecDepth 100000 in
set_option maxHeartbeats 3200000 in
theorem specHolmMany_ok (A : Option Addr) (xs : List Nat) (c : Nat) (w : World) (h : Rd w w.heap.size A (fl xs)) (hb : sharesB xs = true) :
    Calls Try.prog 22 #[.slice A xs.length c] w (fun e w' => ∃ d, OrdTo (keyI xs) xs.length d ∧ smOut (holmL xs d) true w e w') := by
  have hl : 1 ≤ xs.length ∧ xs.length ≤ 64 := by
    unfold sharesB at hb
    simp only [Bool.and_eq_true, decide_eq_true_eq] at hb
    exact hb.1
  have hp : xs.all partB = true := by
    unfold sharesB at hb
    simp only [Bool.and_eq_true] at hb
    exact hb.2
  have HS := Lib.hid (l06Shares_any A xs c w (by omega) h)
  rw [hb] at HS
  have HBY := Lib.hid fun W h => l06Order_any A xs c W hp hl h
  have HR := Lib.hid h
  have HLA := Lib.hid (list_at h hl.1)
  have HPT := Lib.hid fun (d : Array Nat) (hd : ∀ k, k < xs.length → d[k]! < xs.length) k (hk : k < xs.length) => mul_run' (getD_part hp (hd k hk)) (show xs.length - k < 65 by omega)
  have HC := Lib.hid fun x w => l06One_any x w
  obtain ⟨i0, hi0, hz0, hz1, hz2⟩ := info_parts info_f32h
  have hmk := run_make_row (P := Try.prog) 35 69 i0 (.float .f32 0) Try.underlying35 hi0 hz0 hz1 rfl .i64 .i64 xs.length (by rw [hz2]; omega) (by omega)
  have HL : Hid (∀ d, OrdTo (keyI xs) xs.length d → holmL xs d = outL (specG xs d) d xs.length) := Lib.hid fun d hd => (holm_same hp hl.2 (fun k hk => hd.lt hk)).symm
  have HN : Hid (∀ d : Array Nat, (holmL xs d).length = xs.length) := Lib.hid fun d => outL_len _ _ _
  have HG : Hid (∀ (d : Array Nat) k, k < xs.length → specG xs d (k + 1) = if k = 0 ∨ FloatKind.f32.format.order (capF (fmul (xs.getD d[k]! 0) (floatOfInt .f32 ((xs.length - k : Nat) : Int)))) (specG xs d k) = some .gt then capF (fmul (xs.getD d[k]! 0) (floatOfInt .f32 ((xs.length - k : Nat) : Int))) else specG xs d k) := Lib.hid fun d k hk => rfl
  have HG0 : Hid (∀ d, specG xs d 0 = 0) := Lib.hid fun d => rfl
  have HLT : Hid (∀ d, OrdTo (keyI xs) xs.length d → ∀ k, k < xs.length → d[k]! < xs.length) := Lib.hid fun d hd k hk => hd.lt hk
  clear h hb hp hi0 hz0 hz1 hz2
  obtain ⟨b0, off0, rfl, hb0, hc0⟩ := HLA.out
  have HC0 := Lib.hid hc0
  clear hc0 HLA
  generalize holmL xs = hL at *
  generalize specG xs = mG at *
  generalize keyI xs = K at *
  generalize hgx : (fun i => xs.getD i 0) = fx at *
  have hgx' : ∀ i, xs.getD i 0 = fx i := fun i => by rw [← hgx]
  simp only [hgx'] at HPT HC0 HG
  clear hgx hgx'
  have hfl : ∀ ys : List Nat, fl ys = ys.map (Value.float .f32) := fun _ => rfl
  unfold smOut
  generalize fl xs = fxs at *
  generalize xs.length = n at *
  go_enter Try.func22, Try.ntmps22
  go_upto_region 4 with (first
    | (go_at_call 55; refine HS.out.mono ?_; rintro e w1 ⟨rfl, m, rfl⟩)
    | (go_at_call 56; refine (HBY.out _ (by exact HR.out)).mono ?_; rintro e w2 ⟨A2, c2, d, rfl, hd1, hd2, hb2⟩; have D0 := Lib.hid hd1; have D2 := Lib.hid hd2; have B2 := Lib.hid hb2; clear hd1 hd2 hb2))
  have D3 : Hid (∃ g, A2 = some ⟨g, 0, none⟩ ∧ g < w2.heap.size ∧ (∀ p, p < n → w2.cell? ⟨g, p, none⟩ = some (.int .i64 (d[p]! : Nat))) ∧ Below w.heap.size w w2) := Lib.hid (by
    obtain ⟨g, h1, h2, h3, h4⟩ := own_holdsD D2.out D0.out.z hl.1
    refine ⟨g, h1, h3, fun p hp => ?_, (below_drewN (Below.refl _ _) _).trans B2.out⟩
    have := (h4 p (by have := D0.out.z; omega)).1
    rw [Nat.zero_add] at this
    exact this)
  obtain ⟨g, rfl, hg2, hg3, hg4⟩ := D3.out
  have G2 := Lib.hid hg2
  have G3 := Lib.hid hg3
  have G4 := Lib.hid hg4
  clear D2 D3 B2 hg2 hg3 hg4 HS HR HBY
  have R0 := Lib.hid (World.rowIs_made w2 (.float .f32 0) n 69)
  have B0 := Lib.hid (below_al (Below.refl w2.heap.size w2) (.cells (madeCells #[.float .f32 0] n) 69))
  go_upto_region 5 with fail
  have H0 : Hid (HW w w.heap.size w2.heap.size n g d (fun _ => 0) (w2.alloc (.cells (madeCells #[.float .f32 0] n) 69))) := Lib.hid (by
    have h1 := G4.out.size
    have h2 := G2.out
    exact ⟨G4.out.trans (B0.out.mono (by omega)), R0.out, fun p hp => keepC B0.out (G3.out p hp), by omega, h1⟩)
  clear R0 B0 G2 G3
  generalize World.alloc w2 _ = W1 at *
  go_wp2_with fail
  have hne : g ≠ w2.heap.size := H0.out.ne
  go_loopw [6, 7] (fun mv kv wr => ∃ k : Nat, k ≤ n ∧ kv = .int .i64 k ∧ mv = .float .f32 (mG d k) ∧ HW w w.heap.size w2.heap.size n g d (outTo (mG d) d k) wr) (fun _ kv _ => n - (intOf kv).toNat)
  case atStart => exact ⟨0, Nat.zero_le _, rfl, by rw [HG0.out], H0.out⟩
  case round =>
    clear H0
    obtain ⟨k, hk, rfl, rfl, hw⟩ := hrel
    rename World => wr
    by_cases hlt : k < n
    · have hi := HLT.out d D0.out k hlt
      have y0 := hw.o k hlt
      have z1 := (hw.b.cell (p := ⟨b0, off0 + d[k]!, none⟩) hb0).trans (HC0.out _ hi)
      have y2 := hw.r.cell hi
      have f0 := hw.r.frozen d[k]!
      have H9 : Hid (∀ q, HW w w.heap.size w2.heap.size n g d (outTo (mG d) d (k + 1)) ((wr.drewN q).setCell ⟨w2.heap.size, d[k]!, none⟩ (.float .f32 (mG d (k + 1))))) := Lib.hid fun q => (hw.drewN q).set _ _
      have hm := HG.out d k hlt
      have hms := HPT.out d (HLT.out d D0.out) k hlt
      have hrun := fun w => run_float_arith (P := Try.prog) w .mul 69 .f32 _ _ _ hms.1
      have hwk : IntKind.i64.wrap ((n : Int) - (k : Int)) = ((n - k : Nat) : Int) := by rw [show (n : Int) - (k : Int) = ((n - k : Nat) : Int) by omega]; exact IntWalk.i64_in _ (by omega)
      have hkz : (k : Int) < (n : Int) := by omega
      have hiz : ((d[k]! : Nat) : Int) < (n : Int) := by omega
      clear hw hms HPT HG HLT HC0
      have HIZ := Lib.hid hi
      clear hi
      generalize d[k]! = i at *
      generalize fx i = xi at *
      generalize outTo (mG d) d k i = oi at *
      generalize hmm : mG d k = mm at *
      generalize hmn : mG d (k + 1) = mn at *
      generalize n - k = nk at *
      generalize fmul xi _ = x at *
      have HCX := Lib.hid (HC.out x)
      clear HC
      generalize capF x = cx at *
      have HMN := Lib.hid hmn
      have HMM := Lib.hid hmm
      clear hmm hmn
      by_cases h0 : k = 0
      · rw [if_pos (.inl h0)] at hm
        subst hm
        subst h0
        have hwk' : IntKind.i64.wrap (n : Int) = (nk : Int) := by
          rw [← hwk]
          congr 1
        have hkz' : 0 < n := by omega
        go_wp2_with (go_at_call 57; refine (HCX.out _).mono ?_; rintro e w' ⟨rfl, q, rfl⟩)
        go_roundw
        case rel => exact ⟨0 + 1, by omega, by go_num, by rw [HMN.out], H9.out q⟩
        case measure => simp [intOf]; omega
      · have hk0 : ¬ (k : Int) = 0 := by omega
        cases ho : (FloatKind.f32.format.order cx mm == some .gt) with
        | true =>
          rw [if_pos (.inr (eq_of_beq ho))] at hm
          subst hm
          clear h0
          go_wp2_with (go_at_call 57; refine (HCX.out _).mono ?_; rintro e w' ⟨rfl, q, rfl⟩)
          go_roundw
          case rel => exact ⟨k + 1, by omega, by go_num, by rw [HMN.out], H9.out q⟩
          case measure => simp [intOf]; omega
        | false =>
          rw [if_neg (by rintro (h | h); exact h0 h; exact absurd h (beq_eq_false_iff_ne.1 ho))] at hm
          subst hm
          clear h0
          go_wp2_with (go_at_call 57; refine (HCX.out _).mono ?_; rintro e w' ⟨rfl, q, rfl⟩)
          go_roundw
          case rel => exact ⟨k + 1, by omega, by go_num, by rw [HMN.out], H9.out q⟩
          case measure => simp [intOf]; omega
    · obtain rfl : k = n := by omega
      go_wp2_with fail
      go_ret2
      refine ⟨d, D0.out, some ⟨w2.heap.size, 0, none⟩, k, by rw [HN.out]; rfl, ?_, hw.b⟩
      rw [HN.out, hfl, HL.out d D0.out]
      have := own_row hw.r hw.lo (by unfold maxLen; omega)
      unfold outL
      rw [List.map_map]
      exact this
end Go.Proofs.Ytmpnfjajlmafgaa
