/-
  slices.symMergeCmpFunc of float32 numbers: a stretch of one number is merged with a stretch behind it.
-/
import Derived.Test.YtfkjnaaplhcheaaTn
import Derived.Laws.Shifts
namespace Go.Proofs.Ytfkjnaaplhcheaa.Fs
open Go Go.RowKit Go.Sort
attribute [local go_sem] run_store_float

/-- a comparison of two numbers of the row, in whatever world of the sort -/
def CmpAt (K V : Nat → Nat) (cf : Nat → Nat → Int) (w : World) (blk off : Nat) (d : Array Nat) : Prop := ∀ (dk : Array Nat) (W : World) (p q : Nat), RW V w blk off d dk W → dk[p]! < d.size → dk[q]! < dk[p]! →
  (∀ n, Calls Try.prog 72 #[.float .f32 (V dk[p]!), .float .f32 (V dk[q]!)] (W.drewN n) (Quiet (.int .i64 (cf dk[p]! dk[q]!)) (W.drewN n))) ∧ (cf dk[p]! dk[q]! < 0 → K dk[p]! < K dk[q]!) ∧ (¬ cf dk[p]! dk[q]! < 0 → K dk[q]! < K dk[p]!)
theorem cmpAt_of {K V : Nat → Nat} {cf : Nat → Nat → Int} {w : World} {blk off : Nat} {d : Array Nat} (hC : ShCmp V w blk off d cf) (hK : KeyOf K cf d.size) : CmpAt K V cf w blk off d := fun dk W p q h h1 h2 =>
  ⟨fun n => hC dk _ _ _ (h.drewN n) h1 (by omega), hK _ _ h1 h2⟩
def mgOut (K V : Nat → Nat) (w : World) (blk off a b : Nat) (d d0 : Array Nat) : Ending → World → Prop := fun e w' => e = .returned (.tuple #[]) ∧ ∃ d' : Array Nat, Srt K d' a b ∧ Same a b d0 d' ∧ RW V w blk off d d' w'
theorem half_nat {i j : Nat} (h : i + j ≤ 2097152) : IntKind.u64.wrap ((i : Int) + (j : Int)) = ((i + j : Nat) : Int) := by
  rw [show (i : Int) + (j : Int) = ((i + j : Nat) : Int) by push_cast; rfl]
  rw [IntKind.wrap_u64]
  omega
set_option maxRecDepth 100000 in
set_option maxHeartbeats 3200000 in
theorem symMerge_left (K V : Nat → Nat) (cf : Nat → Nat → Int) (blk off cap a b : Nat) (d d0 : Array Nat) (w W : World) (hC : CmpAt K V cf w blk off d) (hsz : d.size ≤ 1048576) (h : RW V w blk off d d0 W) (hm : SM K a (a + 1) b d0)
    (hab : a + 1 < b) (hb : b ≤ d.size) (hbd : ∀ p, a ≤ p → p < b → d0[p]! < d.size) :
    Calls Try.prog 124 #[.slice (some ⟨blk, off, none⟩) d.size cap, .int .i64 a, .int .i64 ((a + 1 : Nat) : Int), .int .i64 b, shF] W (mgOut K V w blk off a b d d0) := by
  have H0 := Lib.hid h
  have HC := Lib.hid hC
  have HM := Lib.hid hm
  have HB := Lib.hid hbd
  clear h hC hm hbd
  have w1 : IntKind.i64.wrap (((a + 1 : Nat) : Int) - (a : Int)) = 1 := by rw [show ((a + 1 : Nat) : Int) - (a : Int) = 1 by omega]; rfl
  unfold mgOut shF
  generalize hm1 : a + 1 = m at *
  have HM1 := Lib.hid hm1
  clear hm1
  go_enter Try.func124, Try.ntmps124
  go_wp2
  go_loopw [10, 11] (fun iv jv wr => ∃ i j : Nat, m ≤ i ∧ i ≤ j ∧ j ≤ b ∧ iv = .int .i64 i ∧ jv = .int .i64 j ∧ (∀ p, m ≤ p → p < i → K d0[p]! < K d0[a]!) ∧ (∀ p, j ≤ p → p < b → K d0[a]! < K d0[p]!) ∧ RW V w blk off d d0 wr) (fun iv jv _ => (intOf jv).toNat - (intOf iv).toNat)
  case atStart => exact ⟨m, b, Nat.le_refl _, by omega, Nat.le_refl _, rfl, rfl, fun p h1 h2 => by omega, fun p h1 h2 => by omega, H0.out⟩
  case round =>
    clear H0
    obtain ⟨i, j, hmi, hij, hjb, rfl, rfl, hb1, hb2, hw⟩ := hrel
    rename World => wq
    have HB1 := Lib.hid hb1
    have HB2 := Lib.hid hb2
    have HW := Lib.hid hw
    clear hb1 hb2 hw
    by_cases hlt : i < j
    · obtain ⟨c, hc⟩ : ∃ c, c = (i + j) / 2 := ⟨_, rfl⟩
      have hci : i ≤ c ∧ c < j := by omega
      have hcv := half_nat (i := i) (j := j) (by omega)
      have hsum : IntKind.i64.wrap ((i : Int) + (j : Int)) = (i : Int) + (j : Int) := IntWalk.i64_in _ (by omega)
      have hhalf : ((i : Int) + (j : Int)) / 2 = (c : Int) := by omega
      have hcw : IntKind.i64.wrap (c : Int) = (c : Int) := IntWalk.i64_in _ (by omega)
      have c1 := HW.out.cell (p := c) (by omega)
      have c2 := HW.out.cell (p := a) (by have := HM1.out; omega)
      have hcs : (c : Int) < (d.size : Int) := by omega
      have has : (a : Int) < (d.size : Int) := by have := HM1.out; omega
      clear hc
      obtain ⟨hx1, hk1, hk2⟩ := HC.out d0 wq c a HW.out (HB.out c (by have := HM1.out; omega) (by omega)) (HM.out.x a c (Nat.le_refl _) (by have := HM1.out; omega) (by omega) (by omega))
      have HCX := Lib.hid hx1
      have HWN := Lib.hid fun n => HW.out.drewN n
      by_cases hlv : cf d0[c]! d0[a]! < 0
      · have N1 : Hid (∀ p, m ≤ p → p < c + 1 → K d0[p]! < K d0[a]!) := Lib.hid fun p h1 h2 => Nat.lt_of_le_of_lt (HM.out.r.le h1 (by omega) (by omega)) (hk1 hlv)
        clear hx1 hk1 hk2 HB1 HW
        generalize d0[c]! = x at *
        generalize hy : d0[a]! = y at *
        have HY := Lib.hid hy
        clear hy
        go_wp2_with fail
        go_quiet (refine Calls.quiet_of (HCX.out _))
        have HW9 := Lib.hid (HWN.out nq)
        clear c1 c2 HCX HWN
        generalize wq.drewN nq = wy at *
        go_wp2_with fail
        go_roundw
        case rel => exact ⟨c + 1, j, by omega, by omega, hjb, by go_num, rfl, N1.out, HB2.out, HW9.out⟩
        case measure => simp [intOf]; omega
      · have N2 : Hid (∀ p, c ≤ p → p < b → K d0[a]! < K d0[p]!) := Lib.hid fun p h1 h2 => Nat.lt_of_lt_of_le (hk2 hlv) (HM.out.r.le (by omega) h1 h2)
        clear hx1 hk1 hk2 HB2 HW
        generalize d0[c]! = x at *
        generalize hy : d0[a]! = y at *
        have HY := Lib.hid hy
        clear hy
        go_wp2_with fail
        go_quiet (refine Calls.quiet_of (HCX.out _))
        have HW9 := Lib.hid (HWN.out nq)
        clear c1 c2 HCX HWN
        generalize wq.drewN nq = wy at *
        go_wp2_with fail
        go_roundw
        case rel => exact ⟨i, c, hmi, by omega, by omega, rfl, rfl, HB1.out, N2.out, HW9.out⟩
        case measure => simp [intOf]; omega
    · obtain rfl : i = j := by omega
      have hiw : IntKind.i64.wrap ((i : Int) - 1) = ((i - 1 : Nat) : Int) := by have := HM1.out; rw [show (i : Int) - 1 = ((i - 1 : Nat) : Int) by omega]; exact IntWalk.i64_in _ (by omega)
      have hi1 : Hid (a + 1 ≤ i ∧ i - 1 + 1 = i) := Lib.hid (by have := HM1.out; omega)
      have F9 : Hid (∀ e, ShU a (i - 1) d0 e → Srt K e a b ∧ Same a b d0 e) := Lib.hid fun e h => ⟨h.sorted hi1.out.1 hjb (by have := HM.out.r; rw [← HM1.out] at this; exact this) (by have := HB1.out; rw [← HM1.out] at this; exact this) HB2.out, h.1.wide (Nat.le_refl _) (by have := hi1.out; omega)⟩
      have S0 := Lib.hid (ShU.start a d0)
      have HI := Lib.hid hi1.out.2
      have hai : Hid (a ≤ i - 1) := Lib.hid (by have := hi1.out; omega)
      clear HB1 HB2 HM HC
      generalize i - 1 = i1 at *
      go_wp2_with fail
      go_loopw [13] (fun kv wr => ∃ (k : Nat) (e : Array Nat), a ≤ k ∧ k ≤ i1 ∧ kv = .int .i64 k ∧ ShU a k d0 e ∧ RW V w blk off d e wr) (fun kv _ => i1 - (intOf kv).toNat)
      case atStart => exact ⟨a, d0, Nat.le_refl _, hai.out, rfl, S0.out, HW.out⟩
      case round =>
        clear S0 HW
        obtain ⟨k, e, hak, hki, rfl, hs, hw⟩ := hrel
        rename World => wz
        by_cases hlt2 : k < i1
        · have hz : e.size = d.size := hw.s
          have c1 := hw.cell (p := k) (by have := HI.out; omega)
          have c2 := hw.cell (p := k + 1) (by have := HI.out; omega)
          have f1 := hw.frozen (p := k) (by have := HI.out; omega)
          have f2 := hw.frozen (p := k + 1) (by have := HI.out; omega)
          have SW := Lib.hid (hw.swap (i := k) (j := k + 1) (by have := HI.out; omega) (by have := HI.out; omega) rfl rfl)
          have S9 := Lib.hid (hs.step hak (by have := HI.out; have := hs.1.1; omega))
          have hkw : IntKind.i64.wrap ((k : Int) + 1) = ((k + 1 : Nat) : Int) := by rw [show (k : Int) + 1 = ((k + 1 : Nat) : Int) by push_cast; rfl]; exact IntWalk.i64_in _ (by have := HI.out; omega)
          have hks : (k : Int) < (d.size : Int) := by have := HI.out; omega
          have hks1 : ((k + 1 : Nat) : Int) < (d.size : Int) := by have := HI.out; omega
          have hpq : k + 1 ≠ k := by omega
          have hqp : k ≠ k + 1 := by omega
          have hkk : (k : Int) < (i1 : Int) := by omega
          clear hs hw hz
          generalize e[k]! = x at *
          generalize e[k + 1]! = y at *
          generalize hk1 : k + 1 = kp at *
          have HK1 := Lib.hid hk1
          clear hk1
          go_wp2_with fail
          go_region
          generalize World.setCell (World.setCell wz _ _) _ _ = w9 at *
          generalize w9.drew = w8 at *
          go_wp2_with fail
          go_roundw
          case rel => exact ⟨kp, _, by have := HK1.out; omega, by have := HK1.out; omega, by go_num, S9.out, SW.out⟩
          case measure => have := HK1.out; simp [intOf]; omega
        · obtain rfl : k = i1 := by omega
          have F8 := Lib.hid (F9.out e hs)
          have W8 := Lib.hid hw
          have hkk : ¬ (k : Int) < (k : Int) := by omega
          clear F9 hs hw
          go_wp2_with fail
          (try simp only [Exit.inBlock, Exit.then])
          refine bodyPost_ret (results_none rfl _ _ _) rfl ?_
          exact ⟨rfl, e, F8.out.1, F8.out.2, W8.out⟩
end Go.Proofs.Ytfkjnaaplhcheaa.Fs
