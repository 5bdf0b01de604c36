/-
  slices.symMergeCmpFunc of indices: a stretch of one number is merged with a stretch behind it.
  slices.symMergeCmpFunc of indices: a stretch is merged with one number behind it.
-/
import Derived.Test.YtfkjnaaplhcheaaSn
import Derived.Laws.Shifts
namespace Go.Proofs.Ytfkjnaaplhcheaa
open Go Go.RowKit Go.Sort

/-- a comparison of two numbers of the row, in whatever world of the sort -/
def CmpAt (K : Nat → Nat) (cf : Nat → Nat → Int) (w : World) (blk off bx : Nat) (d : Array Nat) : Prop := ∀ (dk : Array Nat) (W : World) (p q : Nat), RW w blk off d dk W → dk[p]! < d.size → dk[q]! < dk[p]! →
  (∀ n, Calls Try.prog 100 #[.int .i64 ((dk[p]! : Nat) : Int), .int .i64 ((dk[q]! : Nat) : Int), .pointer (some ⟨bx, 0, none⟩)] (W.drewN n) (Quiet (.int .i64 (cf dk[p]! dk[q]!)) (W.drewN n))) ∧ (cf dk[p]! dk[q]! < 0 → K dk[p]! < K dk[q]!) ∧ (¬ cf dk[p]! dk[q]! < 0 → K dk[q]! < K dk[p]!)
theorem cmpAt_of {K : Nat → Nat} {cf : Nat → Nat → Int} {w : World} {blk off bx : Nat} {d : Array Nat} (hC : ShCmp w blk off bx d cf) (hK : KeyOf K cf d.size) : CmpAt K cf w blk off bx d := fun dk W p q h h1 h2 =>
  ⟨fun n => hC dk _ _ _ (h.drewN n) h1 (by omega), hK _ _ h1 h2⟩
def mgOut (K : Nat → Nat) (w : World) (blk off a b : Nat) (d d0 : Array Nat) : Ending → World → Prop := fun e w' => e = .returned (.tuple #[]) ∧ ∃ d' : Array Nat, Srt K d' a b ∧ Same a b d0 d' ∧ RW w blk off d d' w'
theorem half_nat {i j : Nat} (h : i + j ≤ 2097152) : IntKind.u64.wrap ((i : Int) + (j : Int)) = ((i + j : Nat) : Int) := by
  rw [show (i : Int) + (j : Int) = ((i + j : Nat) : Int) by push_cast; rfl]
  rw [IntKind.wrap_u64]
  omega
set_option maxRecDepth 100000 in
set_option maxHeartbeats 3200000 in
theorem symMerge_left (K : Nat → Nat) (cf : Nat → Nat → Int) (blk off cap a b bx : Nat) (d d0 : Array Nat) (w W : World) (hC : CmpAt K cf w blk off bx d) (hsz : d.size ≤ 1048576) (h : RW w blk off d d0 W) (hm : SM K a (a + 1) b d0)
    (hab : a + 1 < b) (hb : b ≤ d.size) (hbd : ∀ p, a ≤ p → p < b → d0[p]! < d.size) :
    Calls Try.prog 133 #[.slice (some ⟨blk, off, none⟩) d.size cap, .int .i64 a, .int .i64 ((a + 1 : Nat) : Int), .int .i64 b, shF bx] W (mgOut K w blk off a b d d0) := by
  have H0 := Lib.hid h
  have HC := Lib.hid hC
  have HM := Lib.hid hm
  have HB := Lib.hid hbd
  clear h hC hm hbd
  have w1 : IntKind.i64.wrap (((a + 1 : Nat) : Int) - (a : Int)) = 1 := by rw [show ((a + 1 : Nat) : Int) - (a : Int) = 1 by omega]; rfl
  unfold mgOut shF
  generalize hm1 : a + 1 = m at *
  have HM1 := Lib.hid hm1
  clear hm1
  go_enter Try.func133, Try.ntmps133
  go_wp2
  go_loopw [10, 11] (fun iv jv wr => ∃ i j : Nat, m ≤ i ∧ i ≤ j ∧ j ≤ b ∧ iv = .int .i64 i ∧ jv = .int .i64 j ∧ (∀ p, m ≤ p → p < i → K d0[p]! < K d0[a]!) ∧ (∀ p, j ≤ p → p < b → K d0[a]! < K d0[p]!) ∧ RW w blk off d d0 wr) (fun iv jv _ => (intOf jv).toNat - (intOf iv).toNat)
  case atStart => exact ⟨m, b, Nat.le_refl _, by omega, Nat.le_refl _, rfl, rfl, fun p h1 h2 => by omega, fun p h1 h2 => by omega, H0.out⟩
  case round =>
    clear H0
    obtain ⟨i, j, hmi, hij, hjb, rfl, rfl, hb1, hb2, hw⟩ := hrel
    rename World => wq
    have HB1 := Lib.hid hb1
    have HB2 := Lib.hid hb2
    have HW := Lib.hid hw
    clear hb1 hb2 hw
    by_cases hlt : i < j
    · obtain ⟨c, hc⟩ : ∃ c, c = (i + j) / 2 := ⟨_, rfl⟩
      have hci : i ≤ c ∧ c < j := by omega
      have hcv := half_nat (i := i) (j := j) (by omega)
      have hsum : IntKind.i64.wrap ((i : Int) + (j : Int)) = (i : Int) + (j : Int) := IntWalk.i64_in _ (by omega)
      have hhalf : ((i : Int) + (j : Int)) / 2 = (c : Int) := by omega
      have hcw : IntKind.i64.wrap (c : Int) = (c : Int) := IntWalk.i64_in _ (by omega)
      have c1 := HW.out.cell (p := c) (by omega)
      have c2 := HW.out.cell (p := a) (by have := HM1.out; omega)
      have hcs : (c : Int) < (d.size : Int) := by omega
      have has : (a : Int) < (d.size : Int) := by have := HM1.out; omega
      clear hc
      obtain ⟨hx1, hk1, hk2⟩ := HC.out d0 wq c a HW.out (HB.out c (by have := HM1.out; omega) (by omega)) (HM.out.x a c (Nat.le_refl _) (by have := HM1.out; omega) (by omega) (by omega))
      have HCX := Lib.hid hx1
      have HWN := Lib.hid fun n => HW.out.drewN n
      by_cases hlv : cf d0[c]! d0[a]! < 0
      · have N1 : Hid (∀ p, m ≤ p → p < c + 1 → K d0[p]! < K d0[a]!) := Lib.hid fun p h1 h2 => Nat.lt_of_le_of_lt (HM.out.r.le h1 (by omega) (by omega)) (hk1 hlv)
        clear hx1 hk1 hk2 HB1 HW
        generalize d0[c]! = x at *
        generalize hy : d0[a]! = y at *
        have HY := Lib.hid hy
        clear hy
        go_wp2_with fail
        go_quiet (refine Calls.quiet_of (HCX.out _))
        have HW9 := Lib.hid (HWN.out nq)
        clear c1 c2 HCX HWN
        generalize wq.drewN nq = wy at *
        go_wp2_with fail
        go_roundw
        case rel => exact ⟨c + 1, j, by omega, by omega, hjb, by go_num, rfl, N1.out, HB2.out, HW9.out⟩
        case measure => simp [intOf]; omega
      · have N2 : Hid (∀ p, c ≤ p → p < b → K d0[a]! < K d0[p]!) := Lib.hid fun p h1 h2 => Nat.lt_of_lt_of_le (hk2 hlv) (HM.out.r.le (by omega) h1 h2)
        clear hx1 hk1 hk2 HB2 HW
        generalize d0[c]! = x at *
        generalize hy : d0[a]! = y at *
        have HY := Lib.hid hy
        clear hy
        go_wp2_with fail
        go_quiet (refine Calls.quiet_of (HCX.out _))
        have HW9 := Lib.hid (HWN.out nq)
        clear c1 c2 HCX HWN
        generalize wq.drewN nq = wy at *
        go_wp2_with fail
        go_roundw
        case rel => exact ⟨i, c, hmi, by omega, by omega, rfl, rfl, HB1.out, N2.out, HW9.out⟩
        case measure => simp [intOf]; omega
    · obtain rfl : i = j := by omega
      have hiw : IntKind.i64.wrap ((i : Int) - 1) = ((i - 1 : Nat) : Int) := by have := HM1.out; rw [show (i : Int) - 1 = ((i - 1 : Nat) : Int) by omega]; exact IntWalk.i64_in _ (by omega)
      have hi1 : Hid (a + 1 ≤ i ∧ i - 1 + 1 = i) := Lib.hid (by have := HM1.out; omega)
      have F9 : Hid (∀ e, ShU a (i - 1) d0 e → Srt K e a b ∧ Same a b d0 e) := Lib.hid fun e h => ⟨h.sorted hi1.out.1 hjb (by have := HM.out.r; rw [← HM1.out] at this; exact this) (by have := HB1.out; rw [← HM1.out] at this; exact this) HB2.out, h.1.wide (Nat.le_refl _) (by have := hi1.out; omega)⟩
      have S0 := Lib.hid (ShU.start a d0)
      have HI := Lib.hid hi1.out.2
      have hai : Hid (a ≤ i - 1) := Lib.hid (by have := hi1.out; omega)
      clear HB1 HB2 HM HC
      generalize i - 1 = i1 at *
      go_wp2_with fail
      go_loopw [13] (fun kv wr => ∃ (k : Nat) (e : Array Nat), a ≤ k ∧ k ≤ i1 ∧ kv = .int .i64 k ∧ ShU a k d0 e ∧ RW w blk off d e wr) (fun kv _ => i1 - (intOf kv).toNat)
      case atStart => exact ⟨a, d0, Nat.le_refl _, hai.out, rfl, S0.out, HW.out⟩
      case round =>
        clear S0 HW
        obtain ⟨k, e, hak, hki, rfl, hs, hw⟩ := hrel
        rename World => wz
        by_cases hlt2 : k < i1
        · have hz : e.size = d.size := hw.s
          have c1 := hw.cell (p := k) (by have := HI.out; omega)
          have c2 := hw.cell (p := k + 1) (by have := HI.out; omega)
          have f1 := hw.frozen (p := k) (by have := HI.out; omega)
          have f2 := hw.frozen (p := k + 1) (by have := HI.out; omega)
          have SW := Lib.hid (hw.swap (i := k) (j := k + 1) (by have := HI.out; omega) (by have := HI.out; omega) rfl rfl)
          have S9 := Lib.hid (hs.step hak (by have := HI.out; have := hs.1.1; omega))
          have hkw : IntKind.i64.wrap ((k : Int) + 1) = ((k + 1 : Nat) : Int) := by rw [show (k : Int) + 1 = ((k + 1 : Nat) : Int) by push_cast; rfl]; exact IntWalk.i64_in _ (by have := HI.out; omega)
          have hks : (k : Int) < (d.size : Int) := by have := HI.out; omega
          have hks1 : ((k + 1 : Nat) : Int) < (d.size : Int) := by have := HI.out; omega
          have hpq : k + 1 ≠ k := by omega
          have hqp : k ≠ k + 1 := by omega
          have hkk : (k : Int) < (i1 : Int) := by omega
          clear hs hw hz
          generalize e[k]! = x at *
          generalize e[k + 1]! = y at *
          generalize hk1 : k + 1 = kp at *
          have HK1 := Lib.hid hk1
          clear hk1
          go_wp2_with fail
          go_region
          generalize World.setCell (World.setCell wz _ _) _ _ = w9 at *
          generalize w9.drew = w8 at *
          go_wp2_with fail
          go_roundw
          case rel => exact ⟨kp, _, by have := HK1.out; omega, by have := HK1.out; omega, by go_num, S9.out, SW.out⟩
          case measure => have := HK1.out; simp [intOf]; omega
        · obtain rfl : k = i1 := by omega
          have F8 := Lib.hid (F9.out e hs)
          have W8 := Lib.hid hw
          have hkk : ¬ (k : Int) < (k : Int) := by omega
          clear F9 hs hw
          go_wp2_with fail
          (try simp only [Exit.inBlock, Exit.then])
          refine bodyPost_ret (results_none rfl _ _ _) rfl ?_
          exact ⟨rfl, e, F8.out.1, F8.out.2, W8.out⟩
end Go.Proofs.Ytfkjnaaplhcheaa
namespace Go.Proofs.Ytfkjnaaplhcheaa
open Go Go.RowKit Go.Sort

set_option maxRecDepth 100000 in
set_option maxHeartbeats 3200000 in
theorem symMerge_right (K : Nat → Nat) (cf : Nat → Nat → Int) (blk off cap a m bx : Nat) (d d0 : Array Nat) (w W : World) (hC : CmpAt K cf w blk off bx d) (hsz : d.size ≤ 1048576) (h : RW w blk off d d0 W) (hm : SM K a m (m + 1) d0)
    (ham : a + 1 < m) (hb : m + 1 ≤ d.size) (hbd : ∀ p, a ≤ p → p < m + 1 → d0[p]! < d.size) :
    Calls Try.prog 133 #[.slice (some ⟨blk, off, none⟩) d.size cap, .int .i64 a, .int .i64 m, .int .i64 ((m + 1 : Nat) : Int), shF bx] W (mgOut K w blk off a (m + 1) d d0) := by
  have H0 := Lib.hid h
  have HC := Lib.hid hC
  have HM := Lib.hid hm
  have HB := Lib.hid hbd
  clear h hC hm hbd
  obtain ⟨ma, hma⟩ : ∃ ma, m - a = ma := ⟨_, rfl⟩
  have w1 : IntKind.i64.wrap ((m : Int) - (a : Int)) = (ma : Int) := by rw [show (m : Int) - (a : Int) = (ma : Int) by omega]; exact IntWalk.i64_in _ (by omega)
  have w2 : IntKind.i64.wrap (((m + 1 : Nat) : Int) - (m : Int)) = 1 := by rw [show ((m + 1 : Nat) : Int) - (m : Int) = 1 by omega]; rfl
  have hne : ¬ (ma : Int) = 1 := by omega
  have hne' : ¬ ma = 1 := by omega
  unfold mgOut shF
  clear hma
  generalize hm1 : m + 1 = b at *
  have HM1 := Lib.hid hm1
  clear hm1
  go_enter Try.func133, Try.ntmps133
  go_wp2
  go_loopw [14, 15] (fun iv jv wr => ∃ i j : Nat, a ≤ i ∧ i ≤ j ∧ j ≤ m ∧ iv = .int .i64 i ∧ jv = .int .i64 j ∧ (∀ p, a ≤ p → p < i → K d0[p]! < K d0[m]!) ∧ (∀ p, j ≤ p → p < m → K d0[m]! < K d0[p]!) ∧ RW w blk off d d0 wr) (fun iv jv _ => (intOf jv).toNat - (intOf iv).toNat)
  case atStart => exact ⟨a, m, Nat.le_refl _, by omega, Nat.le_refl _, rfl, rfl, fun p h1 h2 => by omega, fun p h1 h2 => by omega, H0.out⟩
  case round =>
    clear H0
    obtain ⟨i, j, hmi, hij, hjb, rfl, rfl, hb1, hb2, hw⟩ := hrel
    rename World => wq
    have HB1 := Lib.hid hb1
    have HB2 := Lib.hid hb2
    have HW := Lib.hid hw
    clear hb1 hb2 hw
    by_cases hlt : i < j
    · obtain ⟨c, hc⟩ : ∃ c, c = (i + j) / 2 := ⟨_, rfl⟩
      have hci : i ≤ c ∧ c < j := by omega
      have hms : m < d.size := by have := HM1.out; omega
      have hcv := half_nat (i := i) (j := j) (by omega)
      have hsum : IntKind.i64.wrap ((i : Int) + (j : Int)) = (i : Int) + (j : Int) := IntWalk.i64_in _ (by omega)
      have hhalf : ((i : Int) + (j : Int)) / 2 = (c : Int) := by omega
      have hcw : IntKind.i64.wrap (c : Int) = (c : Int) := IntWalk.i64_in _ (by omega)
      have c1 := HW.out.cell (p := c) (by omega)
      have c2 := HW.out.cell (p := m) (by omega)
      have hcs : (c : Int) < (d.size : Int) := by omega
      have has : (m : Int) < (d.size : Int) := by omega
      clear hc
      obtain ⟨hx1, hk1, hk2⟩ := HC.out d0 wq m c HW.out (HB.out m (by omega) (by have := HM1.out; omega)) (HM.out.x c m (by omega) (by omega) (Nat.le_refl _) (by have := HM1.out; omega))
      have HCX := Lib.hid hx1
      have HWN := Lib.hid fun n => HW.out.drewN n
      by_cases hlv : cf d0[m]! d0[c]! < 0
      · have N2 : Hid (∀ p, c ≤ p → p < m → K d0[m]! < K d0[p]!) := Lib.hid fun p h1 h2 => Nat.lt_of_lt_of_le (hk1 hlv) (HM.out.l.le (by omega) h1 h2)
        clear hx1 hk1 hk2 HB2 HW
        generalize d0[c]! = x at *
        generalize hy : d0[m]! = y at *
        have HY := Lib.hid hy
        clear hy
        go_wp2_with fail
        go_quiet (refine Calls.quiet_of (HCX.out _))
        have HW9 := Lib.hid (HWN.out nq)
        clear c1 c2 HCX HWN
        generalize wq.drewN nq = wy at *
        go_wp2_with fail
        go_roundw
        case rel => exact ⟨i, c, hmi, by omega, by omega, rfl, rfl, HB1.out, N2.out, HW9.out⟩
        case measure => simp [intOf]; omega
      · have N1 : Hid (∀ p, a ≤ p → p < c + 1 → K d0[p]! < K d0[m]!) := Lib.hid fun p h1 h2 => Nat.lt_of_le_of_lt (HM.out.l.le h1 (by omega) (by omega)) (hk2 hlv)
        have hlv2 : decide (cf d0[m]! d0[c]! < 0) = false := decide_eq_false hlv
        clear hlv
        clear hx1 hk1 hk2 HB1 HW
        generalize d0[c]! = x at *
        generalize hy : d0[m]! = y at *
        have HY := Lib.hid hy
        clear hy
        go_wp2_with fail
        go_quiet (refine Calls.quiet_of (HCX.out _))
        have HW9 := Lib.hid (HWN.out nq)
        clear c1 c2 HCX HWN
        generalize wq.drewN nq = wy at *
        go_wp2_with fail
        go_roundw
        case rel => exact ⟨c + 1, j, by omega, by omega, hjb, by go_num, rfl, N1.out, HB2.out, HW9.out⟩
        case measure => simp [intOf]; omega
    · obtain rfl : i = j := by omega
      have F9 : Hid (∀ e, ShD m i d0 e → Srt K e a b ∧ Same a b d0 e) := Lib.hid fun e h => by
        have h1 := h.sorted hmi hjb HM.out.l HB1.out HB2.out
        have h2 := h.1.wide (a' := a) (b' := b) hmi (by have := HM1.out; omega)
        rw [HM1.out] at h1
        exact ⟨h1, h2⟩
      have S0 := Lib.hid (ShD.start m d0)
      clear HB1 HB2 HM HC
      go_wp2_with fail
      go_loopw [17] (fun kv wr => ∃ (k : Nat) (e : Array Nat), i ≤ k ∧ k ≤ m ∧ kv = .int .i64 k ∧ ShD m k d0 e ∧ RW w blk off d e wr) (fun kv _ => (intOf kv).toNat)
      case atStart => exact ⟨m, d0, hjb, Nat.le_refl _, rfl, S0.out, HW.out⟩
      case round =>
        clear S0 HW
        obtain ⟨k, e, hak, hki, rfl, hs, hw⟩ := hrel
        rename World => wz
        have hms : m < d.size := by have := HM1.out; omega
        by_cases hlt2 : i < k
        · obtain ⟨k1, rfl⟩ : ∃ k1, k = k1 + 1 := ⟨k - 1, by omega⟩
          have hz : e.size = d.size := hw.s
          have hz0 : e.size = d0.size := hs.1.1
          have c1 := hw.cell (p := k1 + 1) (by omega)
          have c2 := hw.cell (p := k1) (by omega)
          have f1 := hw.frozen (p := k1 + 1) (by omega)
          have f2 := hw.frozen (p := k1) (by omega)
          have SW := Lib.hid (hw.swap (i := k1 + 1) (j := k1) (by omega) (by omega) rfl rfl)
          have S9 := Lib.hid (hs.step hki (by omega))
          have hkw : IntKind.i64.wrap (((k1 + 1 : Nat) : Int) - 1) = (k1 : Int) := by rw [show ((k1 + 1 : Nat) : Int) - 1 = (k1 : Int) by omega]; exact IntWalk.i64_in _ (by omega)
          have hks : (k1 : Int) < (d.size : Int) := by omega
          have hks1 : ((k1 + 1 : Nat) : Int) < (d.size : Int) := by omega
          have hpq : k1 + 1 ≠ k1 := by omega
          have hqp : k1 ≠ k1 + 1 := by omega
          have hkk : (i : Int) < ((k1 + 1 : Nat) : Int) := by omega
          have hkx : Hid (i ≤ k1 ∧ k1 ≤ m) := Lib.hid (by omega)
          clear hs hw hz hz0
          generalize e[k1]! = x at *
          generalize e[k1 + 1]! = y at *
          generalize hk1 : k1 + 1 = kp at *
          have HK1 := Lib.hid hk1
          clear hk1
          go_wp2_with fail
          go_region
          generalize World.setCell (World.setCell wz _ _) _ _ = w9 at *
          generalize w9.drew = w8 at *
          go_wp2_with fail
          go_roundw
          case rel => exact ⟨k1, _, hkx.out.1, hkx.out.2, by go_num, S9.out, SW.out⟩
          case measure => have := HK1.out; simp [intOf]; omega
        · obtain rfl : k = i := by omega
          have F8 := Lib.hid (F9.out e hs)
          have W8 := Lib.hid hw
          have hkk : ¬ (k : Int) < (k : Int) := by omega
          clear F9 hs hw
          go_wp2_with fail
          (try simp only [Exit.inBlock, Exit.then])
          refine bodyPost_ret (results_none rfl _ _ _) rfl ?_
          exact ⟨rfl, e, F8.out.1, F8.out.2, W8.out⟩
end Go.Proofs.Ytfkjnaaplhcheaa
