/-
  slices.symMergeCmpFunc of indices: two stretches.
  slices.symMergeCmpFunc of indices, whole.
  slices.stableCmpFunc of indices.
  impl.byShare's comparison, and slices.SortStableFunc by it.
  impl.numbersFrom.
  The row that impl.numbersFrom gives, as the sort's own row.
  impl.byShare: the indices of a list of shares, in ascending order of the shares.
  HolmMany and StepMany, plain: the greatest and the least of capped numbers, told one after another, are those of the numbers, capped.
  spec.l06Order: the indices of a list of shares, in ascending order of the shares (each index is put behind the others and moved down).
  HolmMany and StepMany, plain: what is put where.
  impl.HolmMany.
  spec.l06Order, the walk.
  spec.HolmMany.
  HolmMany, plain: one list, whatever the order's row.
  StepMany, plain: quotients; what is put where, from the greatest share down.
-/
import Derived.Test.YtfkjnaaplhcheaaSz
import Derived.Deep.Cut
import Derived.Test.YtfkjnaaplhcheaaCm
import Derived.Test.YtfkjnaaplhcheaaMono
import Derived.Test.YtfkjnaaplhcheaaQr
import Derived.Test.YtfkjnaaplhcheaaSee
import Derived.Test.YtfkjnaaplhcheaaIs
import Derived.Deep.RegionHeld3
import Derived.Test.YtfkjnaaplhcheaaTo
import Derived.BigQuiet
namespace Go.Proofs.Ytfkjnaaplhcheaa
open Go Go.RowKit Go.Sort

/-- what a merge of a stretch that is shorter gives -/
def MgIH (K : Nat → Nat) (w : World) (blk off cap bx N : Nat) (d : Array Nat) : Prop := ∀ (a m b : Nat) (d0 : Array Nat) (W : World), b - a < N → RW w blk off d d0 W → a < m → m < b → b ≤ d.size → SM K a m b d0 → (∀ p, a ≤ p → p < b → d0[p]! < d.size) →
  Calls Try.prog 133 #[.slice (some ⟨blk, off, none⟩) d.size cap, .int .i64 a, .int .i64 m, .int .i64 b, .func (.func 100) #[] #[.pointer (some ⟨bx, 0, none⟩)]] W (fun e w' => e = .returned (.tuple #[]) ∧ ∃ d' : Array Nat, Srt K d' a b ∧ Same a b d0 d' ∧ RW w blk off d d' w')
set_option maxRecDepth 100000 in
set_option maxHeartbeats 12800000 in
theorem symMerge_gen (K : Nat → Nat) (cf : Nat → Nat → Int) (blk off cap a m b bx : Nat) (d d0 : Array Nat) (w W : World) (hC : CmpAt K cf w blk off bx d) (hsz : d.size ≤ 1048576) (IH : MgIH K w blk off cap bx (b - a) d) (h : RW w blk off d d0 W) (hm : SM K a m b d0)
    (ham : a + 1 < m) (hmb : m + 1 < b) (hb : b ≤ d.size) (hbd : ∀ p, a ≤ p → p < b → d0[p]! < d.size) :
    Calls Try.prog 133 #[.slice (some ⟨blk, off, none⟩) d.size cap, .int .i64 a, .int .i64 m, .int .i64 b, shF bx] W (mgOut K w blk off a b d d0) := by
  have H0 := Lib.hid h
  have HC := Lib.hid hC
  have HM := Lib.hid hm
  have HB := Lib.hid hbd
  have HIH := Lib.hid IH
  have HRO := Lib.hid fun x y z dk W h h1 h2 h3 => rotate_any blk off cap x y z d dk (shF bx) w W h h1 h2 h3 hsz
  clear h hC hm hbd IH
  obtain ⟨ma, hma⟩ : ∃ ma, m - a = ma := ⟨_, rfl⟩
  obtain ⟨mb, hmbx⟩ : ∃ mb, b - m = mb := ⟨_, rfl⟩
  obtain ⟨mid, hmid⟩ : ∃ mid, mid = (a + b) / 2 := ⟨_, rfl⟩
  obtain ⟨n, hn⟩ : ∃ n, n = mid + m := ⟨_, rfl⟩
  have w1 : IntKind.i64.wrap ((m : Int) - (a : Int)) = (ma : Int) := by rw [show (m : Int) - (a : Int) = (ma : Int) by omega]; exact IntWalk.i64_in _ (by omega)
  have w2 : IntKind.i64.wrap ((b : Int) - (m : Int)) = (mb : Int) := by rw [show (b : Int) - (m : Int) = (mb : Int) by omega]; exact IntWalk.i64_in _ (by omega)
  have hne : ¬ (ma : Int) = 1 := by omega
  have hne' : ¬ ma = 1 := by omega
  have hne2 : ¬ (mb : Int) = 1 := by omega
  have hne2' : ¬ mb = 1 := by omega
  have hcv := half_nat (i := a) (j := b) (by omega)
  have hsum : IntKind.i64.wrap ((a : Int) + (b : Int)) = (a : Int) + (b : Int) := IntWalk.i64_in _ (by omega)
  have hhalf : ((a : Int) + (b : Int)) / 2 = (mid : Int) := by omega
  have hmw : IntKind.i64.wrap (mid : Int) = (mid : Int) := IntWalk.i64_in _ (by omega)
  have hnw : IntKind.i64.wrap ((mid : Int) + (m : Int)) = (n : Int) := by rw [show (mid : Int) + (m : Int) = (n : Int) by omega]; exact IntWalk.i64_in _ (by omega)
  have hpw : IntKind.i64.wrap ((n : Int) - 1) = ((n - 1 : Nat) : Int) := by rw [show (n : Int) - 1 = ((n - 1 : Nat) : Int) by omega]; exact IntWalk.i64_in _ (by omega)
  have MID := Lib.hid hmid
  have NN := Lib.hid hn
  have hnm : n - b ≤ mid := by omega
  have hnbw : b ≤ n → IntKind.i64.wrap ((n : Int) - (b : Int)) = ((n - b : Nat) : Int) := fun h => by rw [show (n : Int) - (b : Int) = ((n - b : Nat) : Int) by omega]; exact IntWalk.i64_in _ (by omega)
  have START : Hid (∃ S0 R0 : Nat, ((mid < m ∧ S0 = n - b ∧ R0 = mid) ∨ (m ≤ mid ∧ S0 = a ∧ R0 = m))) := Lib.hid (by
    by_cases h : mid < m
    · exact ⟨_, _, .inl ⟨h, rfl, rfl⟩⟩
    · exact ⟨_, _, .inr ⟨by omega, rfl, rfl⟩⟩)
  obtain ⟨S0, R0, hSR⟩ := START.out
  have SR := Lib.hid hSR
  have HCUT : Hid (∀ s, S0 ≤ s → s ≤ R0 → (∀ c, S0 ≤ c → c < s → K d0[c]! < K d0[n - 1 - c]!) → (∀ c, s ≤ c → c < R0 → K d0[n - 1 - c]! < K d0[c]!) → Cut K a s m (n - s) b d0 ∧ s + (n - s) = mid + m ∧ s ≤ mid) := Lib.hid fun s h1 h2 h3 h4 => ⟨cut_of HM.out (by omega) (by omega) hmid hn SR.out ⟨h1, h2⟩ h3 h4, by omega, by omega⟩
  have HST : Hid (∀ c, S0 ≤ c → c < R0 → a ≤ c ∧ c < m ∧ m ≤ n - 1 - c ∧ n - 1 - c < b ∧ c ≤ n - 1) := Lib.hid fun c h1 h2 => by omega
  have HLE : Hid (S0 ≤ R0 ∧ R0 ≤ 1048576 ∧ R0 ≤ m) := Lib.hid (by omega)
  have HMI : Hid (a < mid ∧ mid < b) := Lib.hid (by omega)
  unfold mgOut shF
  unfold shF at HRO
  clear hma hmbx hmid hn START SR MID
  rcases hSR with hSR | hSR
  all_goals
    obtain ⟨hgt, hs0, hr0⟩ := hSR
    first
      | (have hgz : (mid : Int) < (m : Int) := by omega
         have hnb := hnbw (by have := NN.out; omega)
         have ST : Hid (S0 = n - b ∧ R0 = mid) := Lib.hid ⟨hs0, hr0⟩
         clear hs0 hr0 hnbw hgt
         generalize n - b = q at *
         generalize n - 1 = p1 at *
         go_enter Try.func133, Try.ntmps133
         go_wp2)
      | (have hgz : ¬ (mid : Int) < (m : Int) := by omega
         have ST : Hid (S0 = a ∧ R0 = m) := Lib.hid ⟨hs0, hr0⟩
         clear hs0 hr0 hnbw hgt
         generalize n - 1 = p1 at *
         go_enter Try.func133, Try.ntmps133
         go_wp2)
    go_loopw [20, 21] (fun sv rv wr => ∃ s r : Nat, S0 ≤ s ∧ s ≤ r ∧ r ≤ R0 ∧ sv = .int .i64 s ∧ rv = .int .i64 r ∧ (∀ c, S0 ≤ c → c < s → K d0[c]! < K d0[p1 - c]!) ∧ (∀ c, r ≤ c → c < R0 → K d0[p1 - c]! < K d0[c]!) ∧ RW w blk off d d0 wr) (fun sv rv _ => (intOf rv).toNat - (intOf sv).toNat)
    case atStart => exact ⟨S0, R0, Nat.le_refl _, HLE.out.1, Nat.le_refl _, by rw [ST.out.1], by rw [ST.out.2], fun c h1 h2 => by omega, fun c h1 h2 => by omega, H0.out⟩
    case round =>
      clear H0 ST
      obtain ⟨s, r, hs0, hsr, hr0, rfl, rfl, hb1, hb2, hw⟩ := hrel
      rename World => wq
      have HB1 := Lib.hid hb1
      have HB2 := Lib.hid hb2
      have HW := Lib.hid hw
      have hle := HLE.out
      clear hb1 hb2 hw
      by_cases hlt : s < r
      · obtain ⟨c, hc⟩ : ∃ c, c = (s + r) / 2 := ⟨_, rfl⟩
        have hci : s ≤ c ∧ c < r := by omega
        have hcv2 := half_nat (i := s) (j := r) (by omega)
        have hsum2 : IntKind.i64.wrap ((s : Int) + (r : Int)) = (s : Int) + (r : Int) := IntWalk.i64_in _ (by omega)
        have hhalf2 : ((s : Int) + (r : Int)) / 2 = (c : Int) := by omega
        have hcw : IntKind.i64.wrap (c : Int) = (c : Int) := IntWalk.i64_in _ (by omega)
        obtain ⟨k1, k2, k3, k4, k5⟩ := HST.out c (by omega) (by omega)
        have hpc : IntKind.i64.wrap ((p1 : Int) - (c : Int)) = ((p1 - c : Nat) : Int) := by rw [show (p1 : Int) - (c : Int) = ((p1 - c : Nat) : Int) by omega]; exact IntWalk.i64_in _ (by omega)
        have c1 := HW.out.cell (p := p1 - c) (by omega)
        have c2 := HW.out.cell (p := c) (by omega)
        have hcs : (c : Int) < (d.size : Int) := by omega
        have has : ((p1 - c : Nat) : Int) < (d.size : Int) := by omega
        clear hc
        obtain ⟨hx1, hk1, hk2⟩ := HC.out d0 wq (p1 - c) c HW.out (HB.out _ (by omega) k4) (HM.out.x c (p1 - c) k1 k2 k3 k4)
        have HCX := Lib.hid hx1
        have HWN := Lib.hid fun n => HW.out.drewN n
        by_cases hlv : cf d0[p1 - c]! d0[c]! < 0
        · have N2 : Hid (∀ c', c ≤ c' → c' < R0 → K d0[p1 - c']! < K d0[c']!) := Lib.hid fun c' h1 h2 => by
            obtain ⟨j1, j2, j3, j4, j5⟩ := HST.out c' (by omega) h2
            exact Nat.lt_of_le_of_lt (HM.out.r.le j3 (by omega) k4) (Nat.lt_of_lt_of_le (hk1 hlv) (HM.out.l.le k1 h1 j2))
          clear hx1 hk1 hk2 HB2 HW
          generalize d0[p1 - c]! = x at *
          generalize hy : d0[c]! = y at *
          have HY := Lib.hid hy
          clear hy
          generalize p1 - c = pc at *
          go_wp2_with fail
          go_quiet (refine Calls.quiet_of (HCX.out _))
          have HW9 := Lib.hid (HWN.out nq)
          clear c1 c2 HCX HWN
          generalize wq.drewN nq = wy at *
          go_wp2_with fail
          go_roundw
          case rel => exact ⟨s, c, hs0, hci.1, by omega, rfl, rfl, HB1.out, N2.out, HW9.out⟩
          case measure => simp [intOf]; omega
        · have N1 : Hid (∀ c', S0 ≤ c' → c' < c + 1 → K d0[c']! < K d0[p1 - c']!) := Lib.hid fun c' h1 h2 => by
            obtain ⟨j1, j2, j3, j4, j5⟩ := HST.out c' h1 (by omega)
            exact Nat.lt_of_le_of_lt (HM.out.l.le j1 (by omega) k2) (Nat.lt_of_lt_of_le (hk2 hlv) (HM.out.r.le k3 (by omega) j4))
          have hlv2 : decide (cf d0[p1 - c]! d0[c]! < 0) = false := decide_eq_false hlv
          clear hlv
          clear hx1 hk1 hk2 HB1 HW
          generalize d0[p1 - c]! = x at *
          generalize hy : d0[c]! = y at *
          have HY := Lib.hid hy
          clear hy
          generalize p1 - c = pc at *
          go_wp2_with fail
          go_quiet (refine Calls.quiet_of (HCX.out _))
          have HW9 := Lib.hid (HWN.out nq)
          clear c1 c2 HCX HWN
          generalize wq.drewN nq = wy at *
          go_wp2_with fail
          go_roundw
          case rel => exact ⟨c + 1, r, by omega, by omega, hr0, by go_num, rfl, N1.out, HB2.out, HW9.out⟩
          case measure => simp [intOf]; omega
      · obtain rfl : s = r := by omega
        obtain ⟨cut, hse, hsm⟩ := HCUT.out s hs0 hr0 HB1.out HB2.out
        have CT := Lib.hid cut
        have SE := Lib.hid hse
        have hew : IntKind.i64.wrap ((n : Int) - (s : Int)) = ((n - s : Nat) : Int) := by have := NN.out; rw [show (n : Int) - (s : Int) = ((n - s : Nat) : Int) by omega]; exact IntWalk.i64_in _ (by omega)
        have q1 := cut.hs
        have q2 := cut.sm
        have q3 := cut.me
        have q4 := cut.eb
        clear cut hse HB1 HB2 HCUT HST HC
        generalize n - s = e at *
        have hs1 : mid ≤ e := by have := SE.out; omega
        have hmi := HMI.out
        have h3 : (s < m ∧ m < e) ∨ (s < m ∧ e ≤ m) ∨ m ≤ s := by omega
        rcases h3 with h3 | h3 | h3
        all_goals
          first
            | (obtain ⟨z1, z2⟩ := h3
               have z3 : (s : Int) < (m : Int) := by omega
               have z4 : (m : Int) < (e : Int) := by omega
               have RC := Lib.hid (HRO.out s m e d0 _ HW.out z1 z2 (by omega))
               clear HRO HW
               go_upto_region 41 with (go_at_call 139; refine RC.out.mono ?_; rintro e' w1' ⟨rfl, dr, hrt, hw1⟩; have ROT := Lib.hid hrt; have WR := Lib.hid hw1; clear hrt hw1)
               clear z3 z4 z1 z2 RC)
            | (obtain ⟨z1, z2⟩ := h3
               have z3 : (s : Int) < (m : Int) := by omega
               have z4 : ¬ (m : Int) < (e : Int) := by omega
               obtain ⟨dr, hrt, hw1⟩ : ∃ dr, IsRot s m e d0 dr ∧ RW w blk off d dr _ := ⟨d0, rot_none (by omega) q2 q3, HW.out⟩
               have ROT := Lib.hid hrt
               have WR := Lib.hid hw1
               clear hrt hw1 HW HRO
               go_upto_region 41 with fail
               clear z3 z4 z1 z2)
            | (have z3 : ¬ (s : Int) < (m : Int) := by omega
               obtain ⟨dr, hrt, hw1⟩ : ∃ dr, IsRot s m e d0 dr ∧ RW w blk off d dr _ := ⟨d0, rot_none (by omega) q2 q3, HW.out⟩
               have ROT := Lib.hid hrt
               have WR := Lib.hid hw1
               clear hrt hw1 HW HRO
               go_upto_region 41 with fail
               clear z3 h3)
          have SL := Lib.hid (CT.out.left HM.out ROT.out SE.out.symm)
          have SR := Lib.hid (CT.out.right HM.out ROT.out SE.out.symm)
          have SA := Lib.hid (CT.out.all ROT.out SE.out.symm)
          have SS := Lib.hid ((ROT.out.same q2 q3).wide (a' := a) (b' := b) q1 q4)
          have BR := Lib.hid (SS.out.all (P := fun z => z < d.size) HB.out)
          clear ROT CT HM
          have h4 : (a < s ∧ s < mid) ∨ (a < s ∧ mid ≤ s) ∨ s ≤ a := by omega
          rcases h4 with h4 | h4 | h4
          all_goals
            first
              | (obtain ⟨z1, z2⟩ := h4
                 have z3 : (a : Int) < (s : Int) := by omega
                 have z4 : (s : Int) < (mid : Int) := by omega
                 have RC := Lib.hid (HIH.out a s mid dr _ (by omega) WR.out z1 z2 (by omega) SL.out fun p h1 h2 => BR.out p h1 (by omega))
                 clear WR
                 go_upto_region 43 with (go_at_call 133; refine RC.out.mono ?_; rintro e' w1' ⟨rfl, d1, hs1, hm1, hw1⟩; have T1 := Lib.hid hs1; have M1 := Lib.hid hm1; have WR := Lib.hid hw1; clear hs1 hm1 hw1)
                 clear z3 z4 z1 z2 RC)
              | (obtain ⟨z1, z2⟩ := h4
                 have z3 : (a : Int) < (s : Int) := by omega
                 have z4 : ¬ (s : Int) < (mid : Int) := by omega
                 obtain ⟨d1, hs1, hm1, hw1⟩ : ∃ d1, Srt K d1 a mid ∧ Same a mid dr d1 ∧ RW w blk off d d1 _ := ⟨dr, SL.out.one (.inr (by omega)), Same.refl _ _ _, WR.out⟩
                 have T1 := Lib.hid hs1
                 have M1 := Lib.hid hm1
                 clear WR
                 have WR := Lib.hid hw1
                 clear hs1 hm1 hw1
                 go_upto_region 43 with fail
                 clear z3 z4 z1 z2)
              | (have z3 : ¬ (a : Int) < (s : Int) := by omega
                 obtain ⟨d1, hs1, hm1, hw1⟩ : ∃ d1, Srt K d1 a mid ∧ Same a mid dr d1 ∧ RW w blk off d d1 _ := ⟨dr, SL.out.one (.inl (by omega)), Same.refl _ _ _, WR.out⟩
                 have T1 := Lib.hid hs1
                 have M1 := Lib.hid hm1
                 clear WR
                 have WR := Lib.hid hw1
                 clear hs1 hm1 hw1
                 go_upto_region 43 with fail
                 clear z3 h4)
            have SR1 : Hid (SM K mid e b d1) := Lib.hid (SR.out.congr (fun p h1 h2 => M1.out.2.2 p (by omega)) (by omega) q4)
            have BR1 : Hid (∀ p, a ≤ p → p < b → d1[p]! < d.size) := Lib.hid ((M1.out.wide (a' := a) (b' := b) (Nat.le_refl _) (by omega)).all (P := fun z => z < d.size) BR.out)
            have FIN : Hid (∀ d2, Srt K d2 mid b → Same mid b d1 d2 → Srt K d2 a b ∧ Same a b d0 d2) := Lib.hid fun d2 h1 h2 => by
              obtain ⟨g1, g2⟩ := merged (a := a) (by omega) (by omega) SA.out T1.out M1.out h1 h2
              exact ⟨g1, SS.out.trans g2⟩
            clear SR SL SA SS BR T1 M1
            have h5 : (mid < e ∧ e < b) ∨ (mid < e ∧ b ≤ e) ∨ e ≤ mid := by omega
            rcases h5 with h5 | h5 | h5
            all_goals
              first
                | (obtain ⟨z1, z2⟩ := h5
                   have z3 : (mid : Int) < (e : Int) := by omega
                   have z4 : (e : Int) < (b : Int) := by omega
                   have RC := Lib.hid (HIH.out mid e b d1 _ (by omega) WR.out z1 z2 hb SR1.out fun p h1 h2 => BR1.out p (by omega) h2)
                   clear WR
                   go_wp2_with (go_at_call 133; refine RC.out.mono ?_; rintro e' w2' ⟨rfl, d2, hs2, hm2, hw2⟩; have F9 := Lib.hid (FIN.out d2 hs2 hm2); have WR := Lib.hid hw2; clear hs2 hm2 hw2)
                   go_end0
                   exact ⟨rfl, d2, F9.out.1, F9.out.2, WR.out⟩)
                | (obtain ⟨z1, z2⟩ := h5
                   have z3 : (mid : Int) < (e : Int) := by omega
                   have z4 : ¬ (e : Int) < (b : Int) := by omega
                   have F9 := Lib.hid (FIN.out d1 (SR1.out.one (.inr (by omega))) (Same.refl _ _ _))
                   go_wp2_with fail
                   go_end0
                   exact ⟨rfl, d1, F9.out.1, F9.out.2, WR.out⟩)
                | (have z3 : ¬ (mid : Int) < (e : Int) := by omega
                   have F9 := Lib.hid (FIN.out d1 (SR1.out.one (.inl (by omega))) (Same.refl _ _ _))
                   go_wp2_with fail
                   go_end0
                   exact ⟨rfl, d1, F9.out.1, F9.out.2, WR.out⟩)
end Go.Proofs.Ytfkjnaaplhcheaa
namespace Go.Proofs.Ytfkjnaaplhcheaa
open Go Go.RowKit Go.Sort

theorem symMerge_any (K : Nat → Nat) (cf : Nat → Nat → Int) (blk off cap bx : Nat) (d : Array Nat) (w : World) (hC : CmpAt K cf w blk off bx d) (hsz : d.size ≤ 1048576) : ∀ N, MgIH K w blk off cap bx N d
  | 0 => fun a m b d0 W h => absurd h (by omega)
  | N + 1 => fun a m b d0 W hN h h1 h2 h3 hm hbd => by
    have IH := symMerge_any K cf blk off cap bx d w hC hsz N
    by_cases hl : m = a + 1
    · subst hl
      exact symMerge_left K cf blk off cap a b bx d d0 w W hC hsz h hm h2 h3 hbd
    · by_cases hr : b = m + 1
      · subst hr
        exact symMerge_right K cf blk off cap a m bx d d0 w W hC hsz h hm (by omega) h3 hbd
      · exact symMerge_gen K cf blk off cap a m b bx d d0 w W hC hsz (fun a' m' b' d' W' g1 g2 g3 g4 g5 g6 g7 => IH a' m' b' d' W' (by omega) g2 g3 g4 g5 g6 g7) h hm (by omega) (by omega) h3 hbd

/-- a stretch that rises and holds the numbers of its own places -/
structure Blk (K : Nat → Nat) (d : Array Nat) (a b : Nat) : Prop where
  s : Srt K d a b
  i : ∀ p, a ≤ p → p < b → a ≤ d[p]! ∧ d[p]! < b
theorem Blk.merge {K : Nat → Nat} {d : Array Nat} {a m b : Nat} (h : Blk K d a m) (h' : Blk K d m b) : SM K a m b d := ⟨h.s, h'.s, fun p q h1 h2 h3 h4 => by
  have := h.i p h1 h2
  have := h'.i q h3 h4
  omega⟩
theorem Blk.of {K : Nat → Nat} {d e : Array Nat} {a m b : Nat} (h : Blk K d a m) (h' : Blk K d m b) (hs : Srt K e a b) (hm : Same a b d e) (ha : a ≤ m) (hb : m ≤ b) : Blk K e a b := ⟨hs, hm.all (P := fun z => a ≤ z ∧ z < b) fun p h1 h2 => by
  by_cases hp : p < m
  · have := h.i p h1 hp
    omega
  · have := h'.i p (by omega) h2
    omega⟩
theorem Blk.far {K : Nat → Nat} {d e : Array Nat} {a b a' b' : Nat} (h : Blk K d a b) (hm : Same a' b' d e) (hd : b ≤ a' ∨ b' ≤ a) : Blk K e a b :=
  ⟨h.s.congr fun p h1 h2 => hm.2.2 p (by omega), fun p h1 h2 => by rw [hm.2.2 p (by omega)]; exact h.i p h1 h2⟩
theorem Blk.none {K : Nat → Nat} {d : Array Nat} {a b : Nat} (h : b ≤ a) : Blk K d a b := ⟨fun p q h1 h2 h3 => by omega, fun p h1 h2 => by omega⟩
/-- two rows that rise by a key, with the same numbers, are one -/
theorem srt_unique {K : Nat → Nat} {d e : Array Nat} {n : Nat} (h : Srt K d 0 n) (h' : Srt K e 0 n) (h1 : ∀ p, p < n → ∃ q, q < n ∧ e[q]! = d[p]!) (h2 : ∀ p, p < n → ∃ q, q < n ∧ d[q]! = e[p]!) : ∀ p, p < n → d[p]! = e[p]! := by
  intro p
  induction p using Nat.strongRecOn with
  | ind p ih =>
    intro hp
    obtain ⟨q, hq, e1⟩ := h1 p hp
    obtain ⟨r, hr, e2⟩ := h2 p hp
    rcases Nat.lt_trichotomy q p with hqp | hqp | hqp
    · have := ih q hqp hq
      have h3 := h q p (by omega) hqp hp
      rw [this, e1] at h3
      omega
    · subst hqp
      exact e1.symm
    · rcases Nat.lt_trichotomy r p with hrp | hrp | hrp
      · have := ih r hrp hr
        have h3 := h' r p (by omega) hrp hp
        rw [← this, e2] at h3
        omega
      · subst hrp
        exact e2
      · have h3 := h' p q (by omega) hqp hq
        have h4 := h p r (by omega) hrp hr
        rw [e1] at h3
        rw [e2] at h4
        omega
theorem dvd_next {c x y : Nat} (h : c ∣ x) (h' : c ∣ y) (h1 : x ≤ y) (h2 : y < x + c) : y = x := by
  obtain ⟨i, rfl⟩ := h
  obtain ⟨j, rfl⟩ := h'
  have h3 : c * j < c * (i + 1) := by rw [Nat.mul_add, Nat.mul_one]; exact h2
  have h4 := Nat.lt_of_mul_lt_mul_left h3
  have h5 : i ≤ j := by
    rcases Nat.lt_or_ge j i with h | h
    · have h6 : c * (j + 1) ≤ c * i := Nat.mul_le_mul_left c h
      have h7 : c * (j + 1) = c * j + c := by rw [Nat.mul_add, Nat.mul_one]
      have h8 : c = 0 := by omega
      subst h8
      omega
    · exact h
  rw [show j = i by omega]
def BlkS (K : Nat → Nat) (d : Array Nat) (n bs : Nat) : Prop := ∀ x, bs ∣ x → x < n → Blk K d x (min (x + bs) n)
structure Ins (K : Nat → Nat) (d : Array Nat) (n a : Nat) : Prop where
  l : ∀ x, 20 ∣ x → x < a → Blk K d x (min (x + 20) n)
  r : ∀ p, a ≤ p → p < n → d[p]! = p
structure Mid (K : Nat → Nat) (d : Array Nat) (n bs a : Nat) : Prop where
  l : ∀ x, 2 * bs ∣ x → x < a → Blk K d x (min (x + 2 * bs) n)
  r : ∀ x, bs ∣ x → a ≤ x → x < n → Blk K d x (min (x + bs) n)
theorem Ins.blk {K : Nat → Nat} {d e : Array Nat} {n a b : Nat} (h : Ins K d n a) (hb : b ≤ n) (hs : Srt K e a b) (hm : Same a b d e) : Blk K e a b := ⟨hs, hm.all (P := fun z => a ≤ z ∧ z < b) fun p h1 h2 => by rw [h.r p h1 (by omega)]; omega⟩
theorem Ins.asc {K : Nat → Nat} {d : Array Nat} {n a b : Nat} (h : Ins K d n a) (hb : b ≤ n) : ∀ p q, a ≤ p → p < q → q < b → d[p]! < d[q]! := fun p q h1 h2 h3 => by rw [h.r p h1 (by omega), h.r q (by omega) (by omega)]; exact h2
theorem Ins.step {K : Nat → Nat} {d e : Array Nat} {n a : Nat} (h : Ins K d n a) (ha : 20 ∣ a) (hn : a + 20 ≤ n) (hs : Srt K e a (a + 20)) (hm : Same a (a + 20) d e) : Ins K e n (a + 20) := by
  refine ⟨fun x hx hxa => ?_, fun p h1 h2 => by rw [hm.2.2 p (by omega)]; exact h.r p (by omega) h2⟩
  rcases Nat.lt_or_ge x a with hlt | hge
  · have h3 : x + 20 ≤ a := by
      rcases Nat.lt_or_ge a (x + 20) with h4 | h4
      · have := dvd_next hx ha (by omega) h4
        omega
      · exact h4
    exact (h.l x hx hlt).far hm (.inl (by omega))
  · obtain rfl := dvd_next ha hx hge hxa
    rw [show min (x + 20) n = x + 20 by omega]
    exact h.blk (by omega) hs hm
theorem Ins.last {K : Nat → Nat} {d e : Array Nat} {n a : Nat} (h : Ins K d n a) (ha : 20 ∣ a) (hn : n < a + 20) (hs : Srt K e a n) (hm : Same a n d e) : BlkS K e n 20 := fun x hx hxn => by
  rcases Nat.lt_or_ge x a with hlt | hge
  · have h3 : x + 20 ≤ a := by
      rcases Nat.lt_or_ge a (x + 20) with h4 | h4
      · have := dvd_next hx ha (by omega) h4
        omega
      · exact h4
    exact (h.l x hx hlt).far hm (.inl (by omega))
  · obtain rfl := dvd_next ha hx hge (by omega)
    rw [show min (x + 20) n = n by omega]
    exact h.blk (Nat.le_refl _) hs hm
theorem Mid.step {K : Nat → Nat} {d e : Array Nat} {n bs a : Nat} (h : Mid K d n bs a) (ha : 2 * bs ∣ a) (hb : Blk K e a (a + 2 * bs)) (hn : a + 2 * bs ≤ n) (hm : Same a (a + 2 * bs) d e) : Mid K e n bs (a + 2 * bs) := by
  refine ⟨fun x hx hxa => ?_, fun x hx h1 h2 => (h.r x hx (by omega) h2).far hm (.inr h1)⟩
  rcases Nat.lt_or_ge x a with hlt | hge
  · have h3 : x + 2 * bs ≤ a := by
      rcases Nat.lt_or_ge a (x + 2 * bs) with h4 | h4
      · have := dvd_next hx ha (by omega) h4
        omega
      · exact h4
    exact (h.l x hx hlt).far hm (.inl (by omega))
  · obtain rfl := dvd_next ha hx hge hxa
    rw [show min (x + 2 * bs) n = x + 2 * bs by omega]
    exact hb
theorem Mid.last {K : Nat → Nat} {d e : Array Nat} {n bs a : Nat} (h : Mid K d n bs a) (ha : 2 * bs ∣ a) (hb : Blk K e a n) (hn : n < a + 2 * bs) (hm : Same a n d e) : BlkS K e n (bs * 2) := fun x hx hxn => by
  rw [Nat.mul_comm] at hx
  rw [Nat.mul_comm bs 2]
  rcases Nat.lt_or_ge x a with hlt | hge
  · have h3 : x + 2 * bs ≤ a := by
      rcases Nat.lt_or_ge a (x + 2 * bs) with h4 | h4
      · have := dvd_next hx ha (by omega) h4
        omega
      · exact h4
    exact (h.l x hx hlt).far hm (.inl (by omega))
  · obtain rfl := dvd_next ha hx hge (by omega)
    rw [show min (x + 2 * bs) n = n by omega]
    exact hb
theorem Mid.left {K : Nat → Nat} {d : Array Nat} {n bs a : Nat} (h : Mid K d n bs a) (ha : 2 * bs ∣ a) (hn : a + bs ≤ n) (h0 : 0 < bs) : Blk K d a (a + bs) := by
  have := h.r a (Nat.dvd_trans ⟨2, Nat.mul_comm 2 bs⟩ ha) (Nat.le_refl _) (by omega)
  rw [show min (a + bs) n = a + bs by omega] at this
  exact this
theorem Mid.right {K : Nat → Nat} {d : Array Nat} {n bs a b : Nat} (h : Mid K d n bs a) (ha : 2 * bs ∣ a) (hb : min (a + bs + bs) n = b) (h0 : a + bs < n) : Blk K d (a + bs) b := by
  have h1 : bs ∣ a := Nat.dvd_trans ⟨2, Nat.mul_comm 2 bs⟩ ha
  have := h.r (a + bs) ((Nat.dvd_add_right h1).2 (Nat.dvd_refl bs)) (by omega) h0
  rw [hb] at this
  exact this
theorem Mid.rest {K : Nat → Nat} {d : Array Nat} {n bs a : Nat} (h : Mid K d n bs a) (ha : 2 * bs ∣ a) (hn : n ≤ a + bs) : Blk K d a n := by
  rcases Nat.lt_or_ge a n with hlt | hge
  · have := h.r a (Nat.dvd_trans ⟨2, Nat.mul_comm 2 bs⟩ ha) (Nat.le_refl _) hlt
    rw [show min (a + bs) n = n by omega] at this
    exact this
  · exact Blk.none (by omega)
end Go.Proofs.Ytfkjnaaplhcheaa
namespace Go.Proofs.Ytfkjnaaplhcheaa
open Go Go.RowKit Go.Sort

theorem Same.bound {n : Nat} {d e : Array Nat} (h : Same 0 n d e) (h0 : ∀ p, p < n → d[p]! = p) : ∀ p, p < n → e[p]! < n := fun p hp => h.all (P := fun z => z < n) (fun p _ h2 => by rw [h0 p h2]; exact h2) p (Nat.zero_le _) hp
set_option maxRecDepth 100000 in
set_option maxHeartbeats 6400000 in
theorem stable_any (K : Nat → Nat) (cf : Nat → Nat → Int) (blk off cap bx : Nat) (d d0 : Array Nat) (w W : World) (hC : ShCmp w blk off bx d cf) (hK : KeyOf K cf d.size) (hsz : d.size ≤ 1024) (h : RW w blk off d d0 W) (h0 : ∀ p, p < d.size → d0[p]! = p) :
    Calls Try.prog 119 #[.slice (some ⟨blk, off, none⟩) d.size cap, .int .i64 d.size, shF bx] W (fun e w' => e = .returned (.tuple #[]) ∧ ∃ d' : Array Nat, Blk K d' 0 d.size ∧ Same 0 d.size d0 d' ∧ RW w blk off d d' w') := by
  have HIN : Hid (∀ a b dk W, RW w blk off d dk W → a ≤ b → b ≤ d.size → (∀ p q, a ≤ p → p < q → q < b → dk[p]! < dk[q]!) → (∀ p, p < d.size → dk[p]! < d.size) → Calls Try.prog 132 #[.slice (some ⟨blk, off, none⟩) d.size cap, .int .i64 a, .int .i64 b, .func (.func 100) #[] #[.pointer (some ⟨bx, 0, none⟩)]] W (fun e w' => e = .returned (.tuple #[]) ∧ ∃ d' : Array Nat, Srt K d' a b ∧ Same a b dk d' ∧ RW w blk off d d' w')) := Lib.hid fun a b dk W h1 h2 h3 h4 h5 => insertion_any K cf blk off cap a b bx d dk w W h1 hC hK h2 h3 (by omega) h4 fun p _ hp => h5 p (by omega)
  have HMG : Hid (∀ a m b dk W, RW w blk off d dk W → a < m → m < b → b ≤ d.size → SM K a m b dk → (∀ p, p < d.size → dk[p]! < d.size) → Calls Try.prog 133 #[.slice (some ⟨blk, off, none⟩) d.size cap, .int .i64 a, .int .i64 m, .int .i64 b, .func (.func 100) #[] #[.pointer (some ⟨bx, 0, none⟩)]] W (fun e w' => e = .returned (.tuple #[]) ∧ ∃ d' : Array Nat, Srt K d' a b ∧ Same a b dk d' ∧ RW w blk off d d' w')) := Lib.hid fun a m b dk W h1 h2 h3 h4 h5 h6 => symMerge_any K cf blk off cap bx d w (cmpAt_of hC hK) (by omega) (b - a + 1) a m b dk W (by omega) h1 h2 h3 h4 h5 fun p _ hp => h6 p (by omega)
  have START : Hid (Ins K d0 d.size 0 ∧ RW w blk off d d0 W) := Lib.hid ⟨⟨fun x _ hx => by omega, fun p _ hp => h0 p hp⟩, h⟩
  have HBD : Hid (∀ dk, Same 0 d.size d0 dk → ∀ p, p < d.size → dk[p]! < d.size) := Lib.hid fun dk h => h.bound h0
  clear hC hK h h0
  generalize hn : d.size = n at *
  unfold shF
  go_enter Try.func119, Try.ntmps119
  go_wp2
  go_loopw [7, 8] (fun av bv wr => ∃ (a : Nat) (dk : Array Nat), a ≤ n ∧ 20 ∣ a ∧ av = .int .i64 a ∧ bv = .int .i64 ((a + 20 : Nat) : Int) ∧ Ins K dk n a ∧ Same 0 n d0 dk ∧ RW w blk off d dk wr) (fun _ bv _ => n + 40 - (intOf bv).toNat)
  case atStart => exact ⟨0, d0, Nat.zero_le _, ⟨0, rfl⟩, rfl, rfl, START.out.1, Same.refl _ _ _, START.out.2⟩
  case round =>
    clear START
    obtain ⟨a, dk, han, h20, rfl, rfl, hi, hs, hw⟩ := hrel
    rename World => wq
    have H20 := Lib.hid h20
    have HI := Lib.hid hi
    have HS := Lib.hid hs
    have HW := Lib.hid hw
    clear h20 hi hs hw
    by_cases hlt : a + 20 ≤ n
    · have hz : ((a + 20 : Nat) : Int) ≤ (n : Int) := by omega
      have hw20 : IntKind.i64.wrap (((a + 20 : Nat) : Int) + 20) = ((a + 20 + 20 : Nat) : Int) := by rw [show ((a + 20 : Nat) : Int) + 20 = ((a + 20 + 20 : Nat) : Int) by push_cast; omega]; exact IntWalk.i64_in _ (by omega)
      have RC := Lib.hid (HIN.out a (a + 20) dk wq HW.out (by omega) hlt (HI.out.asc hlt) (HBD.out dk HS.out))
      have N9 : Hid (∀ e, Srt K e a (a + 20) → Same a (a + 20) dk e → Ins K e n (a + 20) ∧ Same 0 n d0 e ∧ 20 ∣ a + 20) := Lib.hid fun e h1 h2 => ⟨HI.out.step H20.out hlt h1 h2, HS.out.trans (h2.wide (Nat.zero_le _) hlt), (Nat.dvd_add_right H20.out).2 ⟨1, rfl⟩⟩
      clear HI HS HW H20
      generalize ha2 : a + 20 = a2 at *
      have HA2 := Lib.hid ha2
      clear ha2
      go_wp2_with (go_at_call 132; refine RC.out.mono ?_; rintro e' w1' ⟨rfl, d1, hs1, hm1, hw1⟩; have F9 := Lib.hid (N9.out d1 hs1 hm1); have WR := Lib.hid hw1; clear hs1 hm1 hw1)
      go_roundw
      case rel => exact ⟨a2, d1, by omega, F9.out.2.2, by go_num, by go_num, F9.out.1, F9.out.2.1, WR.out⟩
      case measure => have := HA2.out; simp [intOf]; omega
    · have hz : ¬ ((a + 20 : Nat) : Int) ≤ (n : Int) := by omega
      have RC := Lib.hid (HIN.out a n dk wq HW.out han (Nat.le_refl _) (HI.out.asc (Nat.le_refl _)) (HBD.out dk HS.out))
      have N9 : Hid (∀ e, Srt K e a n → Same a n dk e → BlkS K e n 20 ∧ Same 0 n d0 e) := Lib.hid fun e h1 h2 => ⟨HI.out.last H20.out (by omega) h1 h2, HS.out.trans (h2.wide (Nat.zero_le _) (Nat.le_refl _))⟩
      clear HI HS HW H20 HIN
      generalize a + 20 = a2 at *
      go_wp2_with (go_at_call 132; refine RC.out.mono ?_; rintro e' w1' ⟨rfl, d1, hs1, hm1, hw1⟩; have F9 := Lib.hid (N9.out d1 hs1 hm1); have WR := Lib.hid hw1; clear hs1 hm1 hw1)
      clear RC N9 hz
      go_loopw [6] (fun sv wr => ∃ (bs : Nat) (dk : Array Nat), 1 ≤ bs ∧ bs ≤ 2048 ∧ sv = .int .i64 bs ∧ BlkS K dk n bs ∧ Same 0 n d0 dk ∧ RW w blk off d dk wr) (fun sv _ => n - (intOf sv).toNat)
      case atStart => exact ⟨20, d1, by omega, by omega, rfl, F9.out.1, F9.out.2, WR.out⟩
      case round =>
        clear F9 WR
        obtain ⟨bs, dk, hb1, hb2, rfl, hi, hs, hw⟩ := hrel
        rename World => wp
        have HI := Lib.hid hi
        have HS := Lib.hid hs
        have HW := Lib.hid hw
        clear hi hs hw
        by_cases hlt2 : bs < n
        · have hz : (bs : Int) < (n : Int) := by omega
          obtain ⟨b2, hb2e⟩ : ∃ b2, b2 = 2 * bs := ⟨_, rfl⟩
          have B2 := Lib.hid hb2e
          have hw2 : IntKind.i64.wrap (2 * (bs : Int)) = (b2 : Int) := by rw [show 2 * (bs : Int) = (b2 : Int) by omega]; exact IntWalk.i64_in _ (by omega)
          have hw3 : IntKind.i64.wrap ((bs : Int) * 2) = (b2 : Int) := by rw [show (bs : Int) * 2 = (b2 : Int) by omega]; exact IntWalk.i64_in _ (by omega)
          have M0 : Hid (Mid K dk n bs 0) := Lib.hid ⟨fun x _ hx => by omega, fun x hx _ hxn => HI.out x hx hxn⟩
          have hb2n : b2 ≤ 2048 := by omega
          clear hb2e HI
          go_wp2_with fail
          go_loopw [7, 8] (fun av bv wr => ∃ (a b : Nat) (dk : Array Nat), a ≤ n ∧ b2 ∣ a ∧ a + b2 = b ∧ av = .int .i64 a ∧ bv = .int .i64 b ∧ Mid K dk n bs a ∧ Same 0 n d0 dk ∧ RW w blk off d dk wr) (fun _ bv _ => n + 5000 - (intOf bv).toNat)
          case atStart => exact ⟨0, b2, dk, Nat.zero_le _, ⟨0, rfl⟩, Nat.zero_add _, rfl, rfl, M0.out, HS.out, HW.out⟩
          case round =>
            clear M0 HS HW
            obtain ⟨a, b, dk, han, hdv, hab, rfl, rfl, hm, hs, hw⟩ := hrel
            rename World => wr
            have HDV : Hid (2 * bs ∣ a) := Lib.hid (B2.out ▸ hdv)
            have HM := Lib.hid hm
            have HS := Lib.hid hs
            have HW := Lib.hid hw
            have HAB := Lib.hid hab
            clear hm hs hw hdv
            have hmw : IntKind.i64.wrap ((a : Int) + (bs : Int)) = ((a + bs : Nat) : Int) := by rw [show (a : Int) + (bs : Int) = ((a + bs : Nat) : Int) by push_cast; rfl]; exact IntWalk.i64_in _ (by omega)
            have hbe := B2.out
            by_cases hbn : b ≤ n
            · have hz2 : (b : Int) ≤ (n : Int) := by omega
              have hbw : IntKind.i64.wrap ((b : Int) + (b2 : Int)) = ((b + b2 : Nat) : Int) := by rw [show (b : Int) + (b2 : Int) = ((b + b2 : Nat) : Int) by push_cast; rfl]; exact IntWalk.i64_in _ (by omega)
              have L1 := HM.out.left HDV.out (by omega) (by omega)
              have R1 := HM.out.right HDV.out (b := b) (by omega) (by omega)
              have RC := Lib.hid (HMG.out a (a + bs) b dk wr HW.out (by omega) (by omega) hbn (L1.merge R1) (HBD.out dk HS.out))
              have N9 : Hid (∀ e, Srt K e a b → Same a b dk e → Mid K e n bs b ∧ Same 0 n d0 e ∧ b2 ∣ b) := Lib.hid fun e h1 h2 => by
                have hb' : b = a + 2 * bs := by omega
                refine ⟨?_, HS.out.trans (h2.wide (Nat.zero_le _) hbn), ?_⟩
                · have g1 := L1.of R1 h1 h2 (by omega) (by omega)
                  subst hb'
                  exact HM.out.step HDV.out g1 hbn h2
                · rw [hb', hbe]
                  exact (Nat.dvd_add_right HDV.out).2 (Nat.dvd_refl _)
              clear L1 R1 HM HS HW hab hbe HDV
              generalize a + bs = m at *
              generalize hb4 : b + b2 = b4 at *
              have HB4 := Lib.hid hb4
              clear hb4
              go_wp2_with (go_at_call 133; refine RC.out.mono ?_; rintro e' w2' ⟨rfl, d2, hs2, hm2, hw2⟩; have F9 := Lib.hid (N9.out d2 hs2 hm2); have WR := Lib.hid hw2; clear hs2 hm2 hw2)
              go_roundw
              case rel => exact ⟨b, b4, d2, hbn, F9.out.2.2, HB4.out, rfl, by go_num, F9.out.1, F9.out.2.1, WR.out⟩
              case measure => have h1 := HB4.out; have h2 := HAB.out; have h3 := B2.out; simp [intOf]; omega
            · have hz2 : ¬ (b : Int) ≤ (n : Int) := by omega
              have N9 : Hid (∀ e, Blk K e a n → Same a n dk e → BlkS K e n b2 ∧ Same 0 n d0 e) := Lib.hid fun e h1 h2 => ⟨by have := HM.out.last HDV.out h1 (by omega) h2; rw [show bs * 2 = b2 by omega] at this; exact this, HS.out.trans (h2.wide (Nat.zero_le _) (Nat.le_refl _))⟩
              by_cases hmn : a + bs < n
              · have hz3 : ((a + bs : Nat) : Int) < (n : Int) := by omega
                have L1 := HM.out.left HDV.out (by omega) (by omega)
                have R1 := HM.out.right HDV.out (b := n) (by omega) (by omega)
                have RC := Lib.hid (HMG.out a (a + bs) n dk wr HW.out (by omega) (by omega) (Nat.le_refl _) (L1.merge R1) (HBD.out dk HS.out))
                have N8 : Hid (∀ e, Srt K e a n → Same a n dk e → BlkS K e n b2 ∧ Same 0 n d0 e) := Lib.hid fun e h1 h2 => N9.out e (L1.of R1 h1 h2 (by omega) (by omega)) h2
                clear L1 R1 HM HS HW hab hbe HDV N9
                generalize a + bs = m at *
                go_wp2_with (go_at_call 133; refine RC.out.mono ?_; rintro e' w2' ⟨rfl, d2, hs2, hm2, hw2⟩; have F9 := Lib.hid (N8.out d2 hs2 hm2); have WR := Lib.hid hw2; clear hs2 hm2 hw2)
                go_roundw
                case rel => exact ⟨b2, d2, by have := B2.out; omega, hb2n, by go_num, F9.out.1, F9.out.2, WR.out⟩
                case measure => have := B2.out; simp [intOf]; omega
              · have hz3 : ¬ ((a + bs : Nat) : Int) < (n : Int) := by omega
                have F9 := Lib.hid (N9.out dk (HM.out.rest HDV.out (by omega)) (Same.refl _ _ _))
                clear HM HS hab hbe HDV N9
                generalize a + bs = m at *
                go_wp2_with fail
                go_roundw
                case rel => exact ⟨b2, dk, by have := B2.out; omega, hb2n, by go_num, F9.out.1, F9.out.2, HW.out⟩
                case measure => have := B2.out; simp [intOf]; omega
        · have hz : ¬ (bs : Int) < (n : Int) := by omega
          have F9 : Hid (Blk K dk 0 n) := Lib.hid (by
            rcases Nat.eq_zero_or_pos n with h | h
            · exact Blk.none (by omega)
            · have := HI.out 0 ⟨0, rfl⟩ h
              rw [show min (0 + bs) n = n by omega] at this
              exact this)
          clear HI
          go_wp2_with fail
          go_end0
          exact ⟨rfl, dk, F9.out, HS.out, HW.out⟩
end Go.Proofs.Ytfkjnaaplhcheaa
namespace Go.Proofs.Ytfkjnaaplhcheaa
open Go Go.RowKit Go.Sort Ieee

/-- the key by which the indices of a list of shares rise: the value, then the index -/
def keyI (xs : List Nat) (i : Nat) : Nat := (key single (xs.getD i 0)).toNat * 64 + i
def cfI (xs : List Nat) (x y : Nat) : Int := cmpI (xs.getD x 0) (xs.getD y 0)
theorem getD_part {xs : List Nat} (hp : xs.all partB = true) {i : Nat} (hi : i < xs.length) : partB (xs.getD i 0) = true := by
  rw [List.getD_eq_getElem?_getD, List.getElem?_eq_getElem hi]
  exact List.all_eq_true.1 hp _ (List.getElem_mem hi)
theorem cmpI_neg {x y : Nat} (hx : partB x = true) (hy : partB y = true) : cmpI x y < 0 ↔ (key single x).toNat < (key single y).toNat := by
  have h1 := lt_key (f := single) (by decide) (part_key hx).1 (part_key hy).1
  have k1 := (part_key hx).2.1
  have k2 := (part_key hy).2.1
  unfold cmpI
  by_cases h : single.order x y = some .lt
  · rw [if_pos h]
    rw [h] at h1
    have h2 := of_decide_eq_true h1.symm
    constructor
    · intro _; omega
    · intro _; omega
  · rw [if_neg h]
    have h2 : ¬ key single x < key single y := of_decide_eq_false (by rw [← h1]; simpa using h)
    constructor
    · intro h3
      exfalso
      split at h3 <;> omega
    · intro h3; omega
theorem keyOf_parts {xs : List Nat} (hp : xs.all partB = true) (hl : xs.length ≤ 64) : KeyOf (keyI xs) (cfI xs) xs.length := fun x y hx hy => by
  have h := cmpI_neg (getD_part hp hx) (getD_part hp (show y < xs.length by omega))
  unfold keyI cfI
  constructor
  · intro h1
    have := h.1 h1
    omega
  · intro h1
    have : ¬ _ := fun h2 => h1 (h.2 h2)
    omega
set_option maxRecDepth 100000 in
set_option maxHeartbeats 1600000 in
theorem byShare1_any (A : Option Addr) (xs : List Nat) (c bx x y : Nat) (w : World) (hp : xs.all partB = true) (hx : x < xs.length) (hy : y < xs.length) (hb : w.cell? ⟨bx, 0, none⟩ = some (.slice A xs.length c)) (h : Rd w w.heap.size A (fl xs)) :
    Calls Try.prog 100 #[.int .i64 x, .int .i64 y, .pointer (some ⟨bx, 0, none⟩)] w (Quiet (.int .i64 (cfI xs x y)) w) := by
  obtain ⟨b, off, rfl, hbl, c1⟩ := h.flAt hx
  obtain ⟨b', off', e, -, c2⟩ := h.flAt hy
  cases e
  have HC := Lib.hid fun w => Compare_any (xs.getD x 0) (xs.getD y 0) (part_key (getD_part hp hx)).1 (part_key (getD_part hp hy)).1 w
  have e1 : xs[x] = xs.getD x 0 := by rw [List.getD_eq_getElem?_getD, List.getElem?_eq_getElem hx]; rfl
  have e2 : xs[y] = xs.getD y 0 := by rw [List.getD_eq_getElem?_getD, List.getElem?_eq_getElem hy]; rfl
  rw [e1] at c1
  rw [e2] at c2
  unfold cfI
  clear h hp e1 e2
  have hxi : (x : Int) < (xs.length : Int) := by omega
  have hyi : (y : Int) < (xs.length : Int) := by omega
  generalize xs.getD x 0 = u at *
  generalize xs.getD y 0 = v at *
  generalize xs.length = n at *
  go_enter Try.func100, Try.ntmps100
  go_wp2_with fail
  go_quiet (refine Calls.quiet_of (HC.out _))
  go_wp2_with fail
  go_ret
  exact ⟨rfl, _, rfl⟩
/-- the sort of the indices 0 .. n - 1 by a list of shares -/
theorem SortStable_any (A : Option Addr) (xs : List Nat) (c blk cap bx : Nat) (d : Array Nat) (w : World) (hp : xs.all partB = true) (hl : xs.length ≤ 64) (hd : d.size = xs.length) (h0 : ∀ p, p < d.size → d[p]! = p) (hH : Holds eN w blk 0 d)
    (hb : w.cell? ⟨bx, 0, none⟩ = some (.slice A xs.length c)) (hbx : bx ≠ blk) (h : Rd w blk A (fl xs)) (hlt : blk < w.heap.size) :
    Calls Try.prog 99 #[.slice (some ⟨blk, 0, none⟩) d.size cap, shF bx] w (fun e w' => e = .returned (.tuple #[]) ∧ ∃ d' : Array Nat, Blk (keyI xs) d' 0 d.size ∧ Same 0 d.size d d' ∧ RW w blk 0 d d' w') := by
  have hC : ShCmp w blk 0 bx d (cfI xs) := fun dk W x y hW hx hy => by
    obtain ⟨hh, hs, k, rfl⟩ := hW
    refine byShare1_any A xs c bx x y _ hp (by omega) (by omega) ?_ ?_
    · show (putRow eN w blk 0 dk).cell? _ = _
      rw [cell?_putRow_other _ _ _ _ _ _ (.inl hbx)]
      exact hb
    · refine Rd.more (Rd.keep (w' := (putRow eN w blk 0 dk).drewN k) h fun p hp' => ?_) ?_
      · show (putRow eN w blk 0 dk).cell? _ = _
        exact cell?_putRow_other _ _ _ _ _ _ (.inl (by omega))
      · show blk ≤ (putRow eN w blk 0 dk).heap.size
        rw [size_putRow]
        exact Nat.le_of_lt hlt
  have HS := Lib.hid (stable_any (keyI xs) (cfI xs) blk 0 cap bx d d w w hC (by rw [hd]; exact keyOf_parts hp hl) (by omega) (RW.start hH) h0)
  clear hC hp h0 hH hb h hd
  unfold shF at HS ⊢
  generalize hn : d.size = n at *
  generalize keyI xs = K at *
  go_enter Try.func99, Try.ntmps99
  go_wp2_with (go_at_call 119; refine HS.out.mono ?_; rintro e w1 ⟨rfl, hx9⟩; have H9 := Lib.hid hx9; clear hx9)
  go_end0
  exact ⟨rfl, H9.out⟩
end Go.Proofs.Ytfkjnaaplhcheaa
namespace Go.Proofs.Ytfkjnaaplhcheaa
open Go Go.RowKit

def upsN (n : Nat) : List Int := (List.range n).map Int.ofNat
theorem upsN_len (n : Nat) : (upsN n).length = n := by simp [upsN]
theorem upsN_succ (n : Nat) : upsN (n + 1) = upsN n ++ [(n : Int)] := by simp [upsN, List.range_succ]

set_option maxRecDepth 100000 in
theorem numbersFrom_any (n : Nat) (hn : 1 ≤ n ∧ n ≤ 64) (w : World) : Calls Try.prog 98 #[.int .i64 0, .int .i64 ((n : Int) - 1)] w (fun e w' => ∃ A c, e = .returned (.slice A n c) ∧ w'.ownsRow w.heap.size 2 1 (.slice A n c) n (il (upsN n)) ∧ Below w.heap.size w w') := by
  obtain ⟨j0, hj0, hy0, hy1, hy2⟩ := info_parts info_i64
  obtain ⟨n1, n2⟩ := hn
  have START : Hid (Grow w 2 0 [] (.slice (some ⟨w.heap.size, 0, none⟩) 0 0) (w.alloc (.cells #[] 2))) := Lib.hid (Grow.empty _ _)
  have HUP : Hid (∀ k, il (upsN (k + 1)) = il (upsN k) ++ [.int .i64 (k : Nat)]) := Lib.hid fun k => by rw [upsN_succ]; simp [il]
  go_enter Try.func98, Try.ntmps98
  go_wp2_with fail
  go_loopw [5, 6] (fun v kv wr => ∃ k : Nat, k ≤ n ∧ kv = .int .i64 k ∧ Grow w 2 k (il (upsN k)) v wr) (fun _ kv _ => n - (intOf kv).toNat)
  case atStart => exact ⟨0, Nat.zero_le _, rfl, START.out⟩
  case round =>
    obtain ⟨k, hk, rfl, hb, A, c, rfl, ho⟩ := hrel
    rename World => wr
    have HB := Lib.hid hb
    have HO := Lib.hid ho
    have hz := hb.size
    clear hb ho START
    by_cases hlt : k < n
    · have hle : (k : Int) ≤ (n : Int) - 1 := by omega
      go_wp2_with (refine wpList_append_lies _ rfl _ _ _ rfl w.heap.size 2 j0 _ 1 8 Try.underlying25 hj0 hy0 hy1 hy2 rfl (by omega) (.slice A k c) k (il (upsN k)) (by rfl) (HO.out.alloc _) ⟨wr.heap.size, 0, none⟩ 1 1 [.int .i64 (k : Nat)] (by rfl) (by rfl) (World.news_of_block (cs := #[.int .i64 (k : Nat)]) (t := 2) (fr := (0, 0)) (heap_alloc_new wr _)) (by simp [Value.oneCell']) (by omega) (by unfold maxLen; omega) (by omega) (by simp; omega) (wr.heap.size + 1) (by simp) ?_; intro g9 cap9 w9 hown9 hgrow hat hlt9; have G9 := Lib.hid (Grow.step HB.out HO.out (Below.refl _ _) hgrow hown9); clear hown9 hgrow hat)
      go_roundw
      case rel => exact ⟨k + 1, by omega, by go_num, by rw [HUP.out]; exact G9.out⟩
      case measure => simp [intOf]; omega
    · obtain rfl : k = n := by omega
      go_wp2_with fail
      go_ret
      exact ⟨A, c, rfl, HO.out, HB.out⟩

end Go.Proofs.Ytfkjnaaplhcheaa
namespace Go.Proofs.Ytfkjnaaplhcheaa
open Go Go.RowKit Go.Sort

theorem range_at {n p : Nat} (h : p < n) : (Array.range n)[p]! = p := by
  rw [getElem!_pos (Array.range n) p (by simpa using h)]
  simp
theorem own_holds {w : World} {base n c : Nat} {A : Option Addr} (h : w.ownsRow base 2 1 (.slice A n c) n (il (upsN n))) (hn : 1 ≤ n) :
    ∃ g, A = some ⟨g, 0, none⟩ ∧ base ≤ g ∧ g < w.heap.size ∧ Holds eN w g 0 (Array.range n) := by
  have h' := h
  rcases h.2 with ⟨hv, hz⟩ | ⟨g, cap, cur, hv, hb, hg, h1, h2, h3⟩
  · omega
  · cases hv
    refine ⟨g, rfl, hb, ?_, fun j hj => ⟨?_, ?_⟩⟩
    · rcases Nat.lt_or_ge g w.heap.size with hlt | hge
      · exact hlt
      · rw [Array.getElem?_eq_none hge] at hg
        cases hg
    · have hj' : j < n := by simpa using hj
      rw [range_at hj', Nat.zero_add]
      refine own_cellAt h' ?_
      simp [il, upsN, hj', eN]
    · simp [World.frozen?, hg]
end Go.Proofs.Ytfkjnaaplhcheaa
namespace Go.Proofs.Ytfkjnaaplhcheaa
open Go Go.RowKit Go.Sort

theorem RW.below {w W : World} {blk off B : Nat} {d dk : Array Nat} (h : RW w blk off d dk W) (hB : B ≤ blk) : Below B w W := by
  obtain ⟨hh, hz, k, rfl⟩ := h
  have h1 : Below B w (putRow eN w blk off dk) := ⟨rfl, rfl, rfl, by rw [size_putRow]; exact Nat.le_refl _, fun j hj => by
    show (putRow eN w blk off dk).heap[j]? = _
    unfold putRow mapBlock
    dsimp only
    rw [Array.getElem?_modify, if_neg (by omega)]⟩
  exact below_drewN h1 k
set_option maxRecDepth 100000 in
set_option maxHeartbeats 1600000 in
theorem byShare_any (A : Option Addr) (xs : List Nat) (c : Nat) (w : World) (hp : xs.all partB = true) (hl : 1 ≤ xs.length ∧ xs.length ≤ 64) (h : Rd w w.heap.size A (fl xs)) :
    Calls Try.prog 66 #[.slice A xs.length c] w (fun e w' => ∃ (g c' : Nat) (d' : Array Nat), e = .returned (.slice (some ⟨g, 0, none⟩) xs.length c') ∧ w.heap.size ≤ g ∧ g < w'.heap.size ∧ Blk (keyI xs) d' 0 xs.length ∧ Same 0 xs.length (Array.range xs.length) d' ∧ (∀ p, p < xs.length → w'.cell? ⟨g, p, none⟩ = some (.int .i64 (d'[p]! : Nat))) ∧ Below w.heap.size w w') := by
  have HN := Lib.hid fun W => numbersFrom_any xs.length hl W
  have HS : Hid (∀ (g c' : Nat) (W : World), w.heap.size + 1 ≤ g → g < W.heap.size → Below w.heap.size w W → W.cell? ⟨w.heap.size, 0, none⟩ = some (.slice A xs.length c) → Holds eN W g 0 (Array.range xs.length) → Calls Try.prog 99 #[.slice (some ⟨g, 0, none⟩) xs.length c', .func (.func 100) #[] #[.pointer (some ⟨w.heap.size, 0, none⟩)]] W (fun e w' => e = .returned (.tuple #[]) ∧ ∃ d' : Array Nat, Blk (keyI xs) d' 0 xs.length ∧ Same 0 xs.length (Array.range xs.length) d' ∧ RW W g 0 (Array.range xs.length) d' w')) := Lib.hid fun g c' W h1 h2 h3 h4 h5 => by
    have hz : (Array.range xs.length).size = xs.length := by simp
    have := SortStable_any A xs c g c' w.heap.size (Array.range xs.length) W hp hl.2 hz (fun p hp' => range_at (by omega)) h5 h4 (by omega) ((h.below h3).more (by omega)) h2
    rw [hz] at this
    exact this
  have hw : IntKind.i64.wrap ((xs.length : Int) - 1) = (xs.length : Int) - 1 := IntWalk.i64_in _ (by omega)
  have y0 : (w.alloc (.cells #[.slice A xs.length c] 46)).cell? ⟨w.heap.size, 0, none⟩ = some (.slice A xs.length c) := by
    rw [World.cell?_alloc_new]
    rfl
  have HB := Lib.hid (below_al (Below.refl w.heap.size w) (.cells #[.slice A xs.length c] 46))
  have hsz : Hid ((w.alloc (.cells #[.slice A xs.length c] 46)).heap.size = w.heap.size + 1) := Lib.hid (by simp)
  have hmf : ∀ (fn : Fn) (first cap : Array Value) (w : World), (Instr.makeFunc fn first cap).run Try.prog w = .ok (.func fn first cap) w := fun _ _ _ _ => rfl
  have HL := Lib.hid hl
  clear h hp hl
  generalize keyI xs = K at *
  generalize xs.length = n at *
  go_enter Try.func66, Try.ntmps66
  go_upto_region 1 with fail
  generalize World.alloc w _ = W1 at *
  have Y0 := Lib.hid y0
  go_wp2_with (first
    | (go_at_call 98; refine (HN.out _).mono ?_; rintro e w1 ⟨A2, c2, rfl, ho2, hb2⟩; obtain ⟨g, rfl, hg1, hg2, hg3⟩ := own_holds ho2 HL.out.1; have G1 := Lib.hid hg1; have G2 := Lib.hid hg2; have G3 := Lib.hid hg3; have B2 := Lib.hid hb2; clear ho2 hb2 hg1 hg2 hg3)
    | (go_at_call 99; refine (HS.out g c2 _ (by have h1 := G1.out; have h2 := hsz.out; omega) G2.out (HB.out.trans (B2.out.mono (by have h2 := hsz.out; omega))) (keepC B2.out Y0.out) G3.out).mono ?_; rintro e w2 ⟨rfl, d', hd1, hd2, hd3⟩; have D1 := Lib.hid hd1; have D2 := Lib.hid hd2; have D3 := Lib.hid hd3; clear hd1 hd2 hd3))
  go_ret
  have h1 := G1.out
  have h2 := hsz.out
  have hb3 := (HB.out.trans (B2.out.mono (by omega)))
  refine ⟨g, c2, d', rfl, by omega, ?_, D1.out, D2.out, fun p hp => ?_, hb3.trans (D3.out.below (by omega))⟩
  · have := (D3.out.below (B := 0) (Nat.zero_le _)).size
    have := G2.out
    omega
  · have := D3.out.cell (p := p) (by simpa using hp)
    rw [Nat.zero_add] at this
    exact this
end Go.Proofs.Ytfkjnaaplhcheaa
namespace Go.Proofs.Ytfkjnaaplhcheaa
open Go Go.RowKit Ieee

theorem lt_key' {x y : Nat} (hx : isNan single x = false) (hy : isNan single y = false) : FloatKind.f32.format.order x y = some .lt ↔ key single x < key single y := by
  have h := lt_key (f := single) (by decide) hx hy
  constructor
  · intro h1
    have h2 : (single.order x y == some .lt) = true := by
      show (FloatKind.f32.format.order x y == some .lt) = true
      rw [h1]
      rfl
    rw [h2] at h
    exact of_decide_eq_true h.symm
  · intro h1
    rw [decide_eq_true h1] at h
    exact eq_of_beq h
theorem gt_key' {x y : Nat} (hx : isNan single x = false) (hy : isNan single y = false) : FloatKind.f32.format.order x y = some .gt ↔ key single y < key single x := by
  have h := gt_key (f := single) (by decide) hx hy
  constructor
  · intro h1
    have h2 : (single.order x y == some .gt) = true := by
      show (FloatKind.f32.format.order x y == some .gt) = true
      rw [h1]
      rfl
    rw [h2] at h
    exact of_decide_eq_true h.symm
  · intro h1
    rw [decide_eq_true h1] at h
    exact eq_of_beq h
def wordN (x : Nat) : Prop := isNan single x = false ∧ x < 4294967296
theorem one_word {x : Nat} (hx : x < 4294967296) (h : key single x = 1065353216) : x = 1065353216 := by
  have hn : negOf single x = false := by
    cases h1 : negOf single x with
    | false => rfl
    | true =>
      unfold key at h
      rw [h1] at h
      simp at h
      omega
  have h2 := word_nn hx hn
  unfold key at h
  rw [hn] at h
  simp at h
  omega
theorem cap_key {x : Nat} (hx : isNan single x = false) : (key single x ≤ 1065353216 ∧ capF x = x) ∨ (1065353216 < key single x ∧ capF x = 1065353216) := by
  have h := gt_key' hx one_notNan
  rw [key_one] at h
  unfold capF
  by_cases h1 : 1065353216 < key single x
  · exact .inr ⟨h1, if_pos (h.2 h1)⟩
  · exact .inl ⟨by omega, if_neg fun h2 => h1 (h.1 h2)⟩
theorem cap_word {x : Nat} (hx : wordN x) : wordN (capF x) := by
  rcases cap_key hx.1 with ⟨-, h⟩ | ⟨-, h⟩
  · rw [h]; exact hx
  · rw [h]; exact ⟨one_notNan, by decide⟩

/-- the greatest so far -/
def mostI (f : Nat → Nat) : Nat → Nat
  | 0 => 0
  | k + 1 => if k = 0 ∨ FloatKind.f32.format.order (f k) (mostI f k) = some .gt then f k else mostI f k
/-- the least so far -/
def leastI (f : Nat → Nat) : Nat → Nat
  | 0 => 0
  | k + 1 => if k = 0 ∨ FloatKind.f32.format.order (f k) (leastI f k) ≠ some .gt then f k else leastI f k
theorem mostI_word {f : Nat → Nat} {n : Nat} (h : ∀ k, k < n → wordN (f k)) : ∀ k, k < n → wordN (mostI f (k + 1))
  | 0, hk => by
    show wordN (if 0 = 0 ∨ _ then _ else _)
    rw [if_pos (.inl rfl)]
    exact h 0 hk
  | k + 1, hk => by
    show wordN (if k + 1 = 0 ∨ _ then _ else _)
    split
    · exact h _ hk
    · exact mostI_word h k (by omega)
theorem leastI_word {f : Nat → Nat} {n : Nat} (h : ∀ k, k < n → wordN (f k)) : ∀ k, k < n → wordN (leastI f (k + 1))
  | 0, hk => by
    show wordN (if 0 = 0 ∨ _ then _ else _)
    rw [if_pos (.inl rfl)]
    exact h 0 hk
  | k + 1, hk => by
    show wordN (if k + 1 = 0 ∨ _ then _ else _)
    split
    · exact h _ hk
    · exact leastI_word h k (by omega)
theorem most_cap {f : Nat → Nat} {n : Nat} (h : ∀ k, k < n → wordN (f k)) : ∀ k, k < n → mostI (fun i => capF (f i)) (k + 1) = capF (mostI f (k + 1))
  | 0, hk => rfl
  | k + 1, hk => by
    have ih := most_cap h k (by omega)
    have hm := mostI_word h k (by omega)
    have hx := h (k + 1) hk
    show (if k + 1 = 0 ∨ FloatKind.f32.format.order (capF (f (k + 1))) (mostI (fun i => capF (f i)) (k + 1)) = some .gt then capF (f (k + 1)) else mostI (fun i => capF (f i)) (k + 1)) = capF (if k + 1 = 0 ∨ FloatKind.f32.format.order (f (k + 1)) (mostI f (k + 1)) = some .gt then f (k + 1) else mostI f (k + 1))
    rw [ih]
    generalize mostI f (k + 1) = m at *
    generalize f (k + 1) = x at *
    have g1 := gt_key' hx.1 hm.1
    have g2 := gt_key' (cap_word hx).1 (cap_word hm).1
    have z : ¬ (k + 1 = 0) := by omega
    simp only [g1, g2]
    rcases cap_key hx.1 with ⟨a1, a2⟩ | ⟨a1, a2⟩ <;> rcases cap_key hm.1 with ⟨b1, b2⟩ | ⟨b1, b2⟩ <;> rw [a2, b2]
    · by_cases hc : key single m < key single x
      · rw [if_pos (Or.inr hc), a2]
      · rw [if_neg (show ¬ (k + 1 = 0 ∨ key single m < key single x) by omega), b2]
    · rw [if_neg (by rw [key_one]; omega), if_neg (by omega), b2]
    · rw [if_pos (show k + 1 = 0 ∨ key single m < key single x by omega), a2, key_one]
      by_cases hc : key single m < 1065353216
      · rw [if_pos (.inr hc)]
      · rw [if_neg (by omega)]
        exact one_word hm.2 (by omega)
    · rw [if_neg (by omega)]
      split
      · rw [a2]
      · rw [b2]
theorem least_cap {f : Nat → Nat} {n : Nat} (h : ∀ k, k < n → wordN (f k)) : ∀ k, k < n → leastI (fun i => capF (f i)) (k + 1) = capF (leastI f (k + 1))
  | 0, hk => rfl
  | k + 1, hk => by
    have ih := least_cap h k (by omega)
    have hm := leastI_word h k (by omega)
    have hx := h (k + 1) hk
    show (if k + 1 = 0 ∨ FloatKind.f32.format.order (capF (f (k + 1))) (leastI (fun i => capF (f i)) (k + 1)) ≠ some .gt then capF (f (k + 1)) else leastI (fun i => capF (f i)) (k + 1)) = capF (if k + 1 = 0 ∨ FloatKind.f32.format.order (f (k + 1)) (leastI f (k + 1)) ≠ some .gt then f (k + 1) else leastI f (k + 1))
    rw [ih]
    generalize leastI f (k + 1) = m at *
    generalize f (k + 1) = x at *
    have g1 := gt_key' hx.1 hm.1
    have g2 := gt_key' (cap_word hx).1 (cap_word hm).1
    have z : ¬ (k + 1 = 0) := by omega
    simp only [ne_eq, g1, g2]
    rcases cap_key hx.1 with ⟨a1, a2⟩ | ⟨a1, a2⟩ <;> rcases cap_key hm.1 with ⟨b1, b2⟩ | ⟨b1, b2⟩ <;> rw [a2, b2]
    · by_cases hc : key single m < key single x
      · rw [if_neg (show ¬ (k + 1 = 0 ∨ ¬ key single m < key single x) by omega), b2]
      · rw [if_pos (Or.inr hc), a2]
    · rw [if_pos (by rw [key_one]; omega), if_pos (by omega), a2]
    · rw [if_neg (show ¬ (k + 1 = 0 ∨ ¬ key single m < key single x) by omega), b2, key_one]
      by_cases hc : key single m < 1065353216
      · rw [if_neg (by omega)]
      · rw [if_pos (.inr hc)]
        exact (one_word hm.2 (by omega)).symm
    · rw [if_pos (.inr (by omega))]
      split
      · rw [a2]
      · rw [b2]
end Go.Proofs.Ytfkjnaaplhcheaa
namespace Go.Proofs.Ytfkjnaaplhcheaa
open Go Go.RowKit Go.Sort Ieee

/-- an order's indices, as a list -/
def dl (d : Array Nat) : List Int := d.toList.map Int.ofNat
theorem dl_len (d : Array Nat) : (dl d).length = d.size := by simp [dl]
theorem dl_push (d : Array Nat) (i : Nat) : dl (d.push i) = dl d ++ [(i : Int)] := by simp [dl]
theorem dl_get {d : Array Nat} {j : Nat} (h : j < d.size) : (il (dl d))[j]? = some (.int .i64 (d[j]! : Nat)) := by
  rw [getElem!_pos d j h]
  simp [il, dl, h]
theorem own_holdsD {w : World} {base n c : Nat} {e : TypeId} {A : Option Addr} {d : Array Nat} (h : w.ownsRow base e 1 (.slice A n c) n (il (dl d))) (_hd : d.size = n) (hn : 1 ≤ n) :
    ∃ g, A = some ⟨g, 0, none⟩ ∧ base ≤ g ∧ g < w.heap.size ∧ Holds eN w g 0 d := by
  have h' := h
  rcases h.2 with ⟨hv, hz⟩ | ⟨g, cap, cur, hv, hb, hg, h1, h2, h3⟩
  · omega
  · cases hv
    refine ⟨g, rfl, hb, ?_, fun j hj => ⟨?_, ?_⟩⟩
    · rcases Nat.lt_or_ge g w.heap.size with hlt | hge
      · exact hlt
      · rw [Array.getElem?_eq_none hge] at hg
        cases hg
    · rw [Nat.zero_add]
      exact own_cellAt h' (dl_get hj)
    · simp [World.frozen?, hg]
theorem RW.own {w W : World} {base n c g : Nat} {e : TypeId} {d dk : Array Nat} {vs : List Value} (h : RW w g 0 d dk W) (ho : w.ownsRow base e 1 (.slice (some ⟨g, 0, none⟩) n c) n vs) (hn : d.size = n) :
    W.ownsRow base e 1 (.slice (some ⟨g, 0, none⟩) n c) n (il (dl dk)) := by
  obtain ⟨hh, hs, k, rfl⟩ := h
  refine ⟨by rw [il_len, dl_len, hs, hn]; omega, ?_⟩
  rcases ho.2 with ⟨hv, hz⟩ | ⟨g', cap, cur, hv, hb, hg, h1, h2, h3, h4⟩
  · cases hv
  · cases hv
    refine .inr ⟨g, c, putCells eN 0 dk cur, rfl, hb, ?_, h1, h2, by unfold putCells; rw [Array.size_mapIdx]; exact h3, ?_⟩
    · show (putRow eN w g 0 dk).heap[g]? = _
      unfold putRow mapBlock
      dsimp only
      rw [Array.getElem?_modify, if_pos rfl, hg]
      rfl
    · have hcs : n ≤ cur.size := by omega
      refine List.ext_getElem (by simp [putCells, il_len, dl_len]; omega) fun i hi1 hi2 => ?_
      rw [il_len, dl_len] at hi2
      rw [List.getElem_take]
      simp only [putCells, Array.getElem_toList, Array.getElem_mapIdx]
      rw [if_pos (by omega)]
      have := dl_get hi2
      rw [List.getElem?_eq_getElem (by rw [il_len, dl_len]; exact hi2)] at this
      rw [Option.some.inj this, Nat.sub_zero]
      rfl
/-- the indices so far, in order -/
structure OrdTo (K : Nat → Nat) (i : Nat) (d : Array Nat) : Prop where
  z : d.size = i
  s : Srt K d 0 i
  m : Same 0 i (Array.range i) d
theorem OrdTo.start (K : Nat → Nat) : OrdTo K 0 #[] := ⟨rfl, fun p q _ _ h => absurd h (by omega), rfl, fun x => Iff.rfl, fun p _ => rfl⟩
theorem OrdTo.lt {K : Nat → Nat} {i : Nat} {d : Array Nat} (h : OrdTo K i d) {p : Nat} (hp : p < i) : d[p]! < i :=
  h.m.all (P := fun z => z < i) (fun p _ h2 => by rw [range_at h2]; exact h2) p (Nat.zero_le _) hp
theorem push_at (d : Array Nat) (x p : Nat) : (d.push x)[p]! = if p = d.size then x else d[p]! := by
  by_cases h : p < d.size
  · rw [getElem!_pos (d.push x) p (by simp; omega), getElem!_pos d p h, Array.getElem_push_lt h, if_neg (by omega)]
  · by_cases h1 : p = d.size
    · subst h1
      rw [getElem!_pos (d.push x) _ (by simp), Array.getElem_push_eq, if_pos rfl]
    · rw [getElem!_neg _ p (by simp; omega), getElem!_neg d p h, if_neg h1]
theorem OrdTo.begin {K : Nat → Nat} {i : Nat} {d : Array Nat} (h : OrdTo K i d) : InsJ K 0 i i (d.push i) (d.push i) :=
  InsJ.start (fun p q h1 h2 h3 => by rw [push_at, push_at, if_neg (by have := h.z; omega), if_neg (by have := h.z; omega)]; exact h.s p q h1 h2 h3)
    (fun p _ h2 => by rw [push_at, push_at, if_neg (by have := h.z; omega), if_pos h.z.symm]; exact h.lt h2)
theorem OrdTo.next {K : Nat → Nat} {i j : Nat} {d dj : Array Nat} (h : OrdTo K i d) (hj : InsJ K 0 i j (d.push i) dj) (hk : 0 < j → K dj[j - 1]! < K dj[j]!) : OrdTo K (i + 1) dj := by
  have hp : Same 0 (i + 1) (Array.range (i + 1)) (d.push i) := by
    refine ⟨by simp [h.z], fun x => ⟨fun ⟨p, p1, p2, p3⟩ => ?_, fun ⟨p, p1, p2, p3⟩ => ?_⟩, fun p hp => ?_⟩
    · rw [range_at p2] at p3
      subst p3
      by_cases he : p = i
      · subst he
        exact ⟨p, p1, p2, by rw [push_at, if_pos h.z.symm]⟩
      · obtain ⟨q, q1, q2, q3⟩ := (h.m.2.1 p).1 ⟨p, p1, by omega, range_at (by omega)⟩
        exact ⟨q, q1, by omega, by rw [push_at, if_neg (by have := h.z; omega)]; exact q3⟩
    · have hx : x < i + 1 := by
        rw [← p3, push_at]
        split
        · omega
        · have := h.lt (p := p) (by have := h.z; omega)
          omega
      exact ⟨x, Nat.zero_le _, hx, range_at hx⟩
    · rw [getElem!_neg _ p (by simp [h.z]; omega), getElem!_neg _ p (by simp; omega)]
  exact ⟨by rw [hj.m.1]; simp [h.z], hj.stop hk, hp.trans hj.m⟩
theorem cfI_lt {xs : List Nat} {x y : Nat} : cfI xs x y < 0 ↔ FloatKind.f32.format.order (xs.getD x 0) (xs.getD y 0) = some .lt := by
  unfold cfI cmpI
  constructor
  · intro h
    split at h
    · next h1 => exact h1
    · exfalso
      split at h <;> omega
  · intro h
    rw [if_pos (show single.order (xs.getD x 0) (xs.getD y 0) = some .lt from h)]
    decide
end Go.Proofs.Ytfkjnaaplhcheaa
namespace Go.Proofs.Ytfkjnaaplhcheaa
open Go Go.RowKit Go.Sort Ieee

/-- a row behind k stores: at d[j] lies g (j + 1), j below k -/
def outTo (g : Nat → Nat) (d : Array Nat) : Nat → Nat → Nat
  | 0, _ => 0
  | k + 1, p => if p = d[k]! then g (k + 1) else outTo g d k p
def outL (g : Nat → Nat) (d : Array Nat) (n : Nat) : List Nat := (List.range n).map (outTo g d n)
theorem outL_len (g : Nat → Nat) (d : Array Nat) (n : Nat) : (outL g d n).length = n := by simp [outL]
theorem outTo_congr {g g' : Nat → Nat} {d d' : Array Nat} : ∀ k, (∀ j, j < k → g (j + 1) = g' (j + 1)) → (∀ j, j < k → d[j]! = d'[j]!) → ∀ p, outTo g d k p = outTo g' d' k p
  | 0, _, _, _ => rfl
  | k + 1, h, h', p => by
    show (if _ then _ else _) = (if _ then _ else _)
    rw [h k (by omega), h' k (by omega), outTo_congr k (fun j hj => h j (by omega)) (fun j hj => h' j (by omega)) p]
theorem outL_congr {g g' : Nat → Nat} {d d' : Array Nat} {n : Nat} (h : ∀ j, j < n → g (j + 1) = g' (j + 1)) (h' : ∀ j, j < n → d[j]! = d'[j]!) : outL g d n = outL g' d' n := by
  unfold outL
  exact List.map_congr_left fun p _ => outTo_congr n h h' p
/-- two orders of one list are one -/
theorem OrdTo.same {K : Nat → Nat} {n : Nat} {d e : Array Nat} (h : OrdTo K n d) (h' : OrdTo K n e) : ∀ p, p < n → d[p]! = e[p]! := by
  refine srt_unique h.s h'.s (fun p hp => ?_) (fun p hp => ?_)
  · obtain ⟨q, -, q2, q3⟩ := (h'.m.2.1 d[p]!).1 ⟨d[p]!, Nat.zero_le _, h.lt hp, range_at (h.lt hp)⟩
    exact ⟨q, q2, q3⟩
  · obtain ⟨q, -, q2, q3⟩ := (h.m.2.1 e[p]!).1 ⟨e[p]!, Nat.zero_le _, h'.lt hp, range_at (h'.lt hp)⟩
    exact ⟨q, q2, q3⟩
theorem OrdTo.of_blk {K : Nat → Nat} {n : Nat} {d : Array Nat} (h : Blk K d 0 n) (h' : Same 0 n (Array.range n) d) : OrdTo K n d := ⟨by rw [h'.1]; simp, h.s, h'⟩

theorem int_fin : ∀ j : Nat, j < 65 → isFin single (floatOfInt .f32 (j : Int)) = true := by decide +kernel
theorem int_pos : ∀ j : Nat, j < 65 → 0 < j → 0 < key single (floatOfInt .f32 (j : Int)) := by decide +kernel
/-- a share times so many: HolmMany -/
def holmX (xs : List Nat) (d : Array Nat) (k : Nat) : Nat := fmul (xs.getD d[k]! 0) (floatOfInt .f32 ((xs.length - k : Nat) : Int))
theorem mul_run' {x j : Nat} (hx : partB x = true) (hj : j < 65) : floatBits .mul .f32 x (floatOfInt .f32 (j : Int)) = some (fmul x (floatOfInt .f32 (j : Int))) ∧ wordN (fmul x (floatOfInt .f32 (j : Int))) := by
  have := fmul_run (part_key hx).2.2.2 (int_fin j hj)
  exact ⟨this.1, this.2, fmul_lt _ _⟩
/-- an order's entries, read -/
def mostG (xs : List Nat) (d : Array Nat) (k : Nat) : Nat := capF (mostI (holmX xs d) k)
def holmL (xs : List Nat) (d : Array Nat) : List Nat := outL (mostG xs d) d xs.length
theorem holm_word {xs : List Nat} {d : Array Nat} (hp : xs.all partB = true) (hl : xs.length ≤ 64) (hd : ∀ k, k < xs.length → d[k]! < xs.length) : ∀ k, k < xs.length → wordN (holmX xs d k) := fun k hk =>
  (mul_run' (getD_part hp (hd k hk)) (by omega)).2
end Go.Proofs.Ytfkjnaaplhcheaa
namespace Go.Proofs.Ytfkjnaaplhcheaa
open Go Go.RowKit Go.Sort Ieee
attribute [local go_sem] run_store_float

theorem info_f32h : (Try.prog.info? 50).map (fun i => (i.zero, i.size, i.bytes)) = some (some (.float .f32 0), 1, 4) := by kernel_rfl
/-- what both give: a list and whether there is one -/
def smOut (xs : List Nat) (ok : Bool) (w : World) : Ending → World → Prop := fun e w' =>
  ∃ A c, e = .returned (.tuple #[.slice A xs.length c, .bool ok]) ∧ w'.ownsRow w.heap.size 50 1 (.slice A xs.length c) xs.length (fl xs) ∧ Below w.heap.size w w'
theorem smOut_none {w w' : World} (hb : Below w.heap.size w w') : smOut [] false w (.returned (.tuple #[.slice none 0 0, .bool false])) w' := ⟨none, 0, rfl, World.ownsRow_nil _ _ _ _, hb⟩
theorem own_row {w : World} {g base m : Nat} {e : TypeId} {f : Nat → Value} (h : w.rowIs g e m f) (hb : base ≤ g) (hm : m ≤ maxLen) : w.ownsRow base e 1 (.slice (some ⟨g, 0, none⟩) m m) m ((List.range m).map f) := by
  obtain ⟨c, h1, h2, h3⟩ := h
  refine ⟨by simp, .inr ⟨g, m, c, rfl, hb, h1, Nat.le_refl _, hm, by omega, ?_⟩⟩
  refine List.ext_getElem (by simp; omega) fun i hi1 hi2 => ?_
  have hi : i < m := by simp at hi2; exact hi2
  have := h3 i hi
  rw [Array.getElem?_eq_getElem (by omega)] at this
  rw [List.getElem_take, List.getElem_map, List.getElem_range]
  exact Option.some.inj this
/-- the loop's world: the row G behind k stores, the order at g, all below B as it was -/
structure HW (w0 : World) (B G n g : Nat) (d : Array Nat) (f : Nat → Nat) (W : World) : Prop where
  b : Below B w0 W
  r : W.rowIs G 50 n (fun p => .float .f32 (f p))
  o : ∀ p, p < n → W.cell? ⟨g, p, none⟩ = some (.int .i64 (d[p]! : Nat))
  ne : g ≠ G
  lo : B ≤ G
theorem HW.set {w0 : World} {B G n g : Nat} {d : Array Nat} {f : Nat → Nat} {W : World} (h : HW w0 B G n g d f W) (i x : Nat) : HW w0 B G n g d (fun p => if p = i then x else f p) (W.setCell ⟨G, i, none⟩ (.float .f32 x)) :=
  ⟨h.b.setCell (p := ⟨G, i, none⟩) h.lo _, (h.r.set i _).congr fun p _ => by split <;> rfl, fun p hp => (World.cell?_setCell_other _ _ _ _ (by simp; intro e; exact absurd e.symm h.ne)).trans (h.o p hp), h.ne, h.lo⟩
theorem HW.drewN {w0 : World} {B G n g : Nat} {d : Array Nat} {f : Nat → Nat} {W : World} (h : HW w0 B G n g d f W) (m : Nat) : HW w0 B G n g d f (W.drewN m) :=
  ⟨below_drewN h.b m, h.r.of_block rfl, h.o, h.ne, h.lo⟩
theorem list_at {w : World} {B : Nat} {A : Option Addr} {xs : List Nat} (h : Rd w B A (fl xs)) (hl : 1 ≤ xs.length) : ∃ b off, A = some ⟨b, off, none⟩ ∧ b < B ∧ ∀ i, i < xs.length → w.cell? ⟨b, off + i, none⟩ = some (.float .f32 (xs.getD i 0)) := by
  obtain ⟨b, off, e, hb, -⟩ := h.flAt (show 0 < xs.length by omega)
  refine ⟨b, off, e, hb, fun i hi => ?_⟩
  obtain ⟨b', off', e', -, hc⟩ := h.flAt hi
  rw [e] at e'
  cases e'
  rw [hc, List.getD_eq_getElem?_getD, List.getElem?_eq_getElem hi]
  rfl
set_option maxHeartbeats 800000 in
theorem HolmMany_bad (A : Option Addr) (xs : List Nat) (c : Nat) (w : World) (hx : xs.length ≤ 9223372036854775807) (h : Rd w w.heap.size A (fl xs)) (hb : sharesB xs = false) : Calls Try.prog 25 #[.slice A xs.length c] w (smOut [] false w) := by
  have HS := Lib.hid (areShares_any A xs c w hx h)
  rw [hb] at HS
  clear h hb
  go_enter Try.func25, Try.ntmps25
  go_wp2_with (go_at_call 64; refine HS.out.mono ?_; rintro e w1 ⟨rfl, m, rfl⟩)
  go_ret2
  exact smOut_none (below_drewN (Below.refl _ _) _)
set_option maxRecDepth 100000 in
set_option maxHeartbeats 3200000 in
theorem HolmMany_ok (A : Option Addr) (xs : List Nat) (c : Nat) (w : World) (h : Rd w w.heap.size A (fl xs)) (hb : sharesB xs = true) :
    Calls Try.prog 25 #[.slice A xs.length c] w (fun e w' => ∃ d, OrdTo (keyI xs) xs.length d ∧ smOut (holmL xs d) true w e w') := by
  have hl : 1 ≤ xs.length ∧ xs.length ≤ 64 := by
    unfold sharesB at hb
    simp only [Bool.and_eq_true, decide_eq_true_eq] at hb
    exact hb.1
  have hp : xs.all partB = true := by
    unfold sharesB at hb
    simp only [Bool.and_eq_true] at hb
    exact hb.2
  have HS := Lib.hid (areShares_any A xs c w (by omega) h)
  rw [hb] at HS
  have HBY := Lib.hid fun W h => byShare_any A xs c W hp hl h
  have HR := Lib.hid h
  have HLA := Lib.hid (list_at h hl.1)
  have HPT := Lib.hid fun (d : Array Nat) (hd : ∀ k, k < xs.length → d[k]! < xs.length) k (hk : k < xs.length) => mul_run' (getD_part hp (hd k hk)) (show xs.length - k < 65 by omega)
  have HC := Lib.hid fun x w => atMostOne_any x w
  obtain ⟨i0, hi0, hz0, hz1, hz2⟩ := info_parts info_f32h
  have hmk := run_make_row (P := Try.prog) 46 50 i0 (.float .f32 0) Try.underlying46 hi0 hz0 hz1 rfl .i64 .i64 xs.length (by rw [hz2]; omega) (by omega)
  have HL : Hid (∀ d, holmL xs d = outL (mostG xs d) d xs.length) := Lib.hid fun d => rfl
  have HN : Hid (∀ d : Array Nat, (holmL xs d).length = xs.length) := Lib.hid fun d => outL_len _ _ _
  have HG : Hid (∀ (d : Array Nat) k, k < xs.length → mostI (holmX xs d) (k + 1) = if k = 0 ∨ FloatKind.f32.format.order (fmul (xs.getD d[k]! 0) (floatOfInt .f32 ((xs.length - k : Nat) : Int))) (mostI (holmX xs d) k) = some .gt then fmul (xs.getD d[k]! 0) (floatOfInt .f32 ((xs.length - k : Nat) : Int)) else mostI (holmX xs d) k) := Lib.hid fun d k hk => rfl
  have HGG : Hid (∀ (d : Array Nat) k, mostG xs d k = capF (mostI (holmX xs d) k)) := Lib.hid fun d k => rfl
  have HLT : Hid (∀ d, OrdTo (keyI xs) xs.length d → ∀ k, k < xs.length → d[k]! < xs.length) := Lib.hid fun d hd k hk => hd.lt hk
  clear h hb hp hi0 hz0 hz1 hz2
  obtain ⟨b0, off0, rfl, hb0, hc0⟩ := HLA.out
  have HC0 := Lib.hid hc0
  clear hc0 HLA
  generalize holmL xs = hL at *
  generalize mostG xs = mG at *
  generalize holmX xs = hX at *
  generalize keyI xs = K at *
  generalize hgx : (fun i => xs.getD i 0) = fx at *
  have hgx' : ∀ i, xs.getD i 0 = fx i := fun i => by rw [← hgx]
  simp only [hgx'] at HPT HC0 HG
  clear hgx hgx'
  have hfl : ∀ ys : List Nat, fl ys = ys.map (Value.float .f32) := fun _ => rfl
  unfold smOut
  generalize fl xs = fxs at *
  generalize xs.length = n at *
  go_enter Try.func25, Try.ntmps25
  go_upto_region 3 with (go_at_call 64; refine HS.out.mono ?_; rintro e w1 ⟨rfl, m, rfl⟩)
  have HRm : Hid (Rd (w.drewN m) (w.drewN m).heap.size (some ⟨b0, off0, none⟩) fxs) := Lib.hid HR.out
  have hszm : (w.drewN m).heap.size = w.heap.size := rfl
  have HBm : Hid (Below w.heap.size w (w.drewN m)) := Lib.hid (below_drewN (Below.refl _ _) _)
  clear HS HR
  generalize w.drewN m = wm at *
  have R0 := Lib.hid (World.rowIs_made wm (.float .f32 0) n 50)
  have B0 := Lib.hid (below_al (Below.refl wm.heap.size wm) (.cells (madeCells #[.float .f32 0] n) 50))
  have hsz1 : Hid ((wm.alloc (.cells (madeCells #[.float .f32 0] n) 50)).heap.size = w.heap.size + 1) := Lib.hid (by simp [hszm])
  rw [hszm] at R0
  go_upto_region 4 with fail
  generalize World.alloc wm _ = W1 at *
  go_wp2_with (go_at_call 66; refine (HBY.out _ (HRm.out.at_ B0.out)).mono ?_; rintro e w2 ⟨g, c2, d, rfl, hg1, hg2, hd1, hd2, hd3, hb2⟩; have D0 := Lib.hid (OrdTo.of_blk hd1 hd2); have D3 := Lib.hid hd3; have G1 := Lib.hid hg1; have B2 := Lib.hid hb2; clear hg1 hg2 hd1 hd2 hd3 hb2)
  have H0 : Hid (HW w w.heap.size w.heap.size n g d (fun _ => 0) w2) := Lib.hid (by
    have h1 := G1.out
    have h2 := hsz1.out
    refine ⟨(HBm.out.trans (B0.out.mono (by omega))).trans (B2.out.mono (by omega)), R0.out.of_block (B2.out.block _ (by omega)), D3.out, by omega, Nat.le_refl _⟩)
  clear R0 B0 B2 HRm HBY HBm D3 hsz1
  have hne : g ≠ w.heap.size := H0.out.ne
  go_loopw [5, 18] (fun mv kv wr => ∃ k : Nat, k ≤ n ∧ kv = .int .i64 k ∧ mv = .float .f32 (mostI (hX d) k) ∧ HW w w.heap.size w.heap.size n g d (outTo (mG d) d k) wr) (fun _ kv _ => n - (intOf kv).toNat)
  case atStart => exact ⟨0, Nat.zero_le _, rfl, rfl, H0.out⟩
  case round =>
    clear H0
    obtain ⟨k, hk, rfl, rfl, hw⟩ := hrel
    rename World => wr
    by_cases hlt : k < n
    · have hi := HLT.out d D0.out k hlt
      have y0 := hw.o k hlt
      have z1 := (hw.b.cell (p := ⟨b0, off0 + d[k]!, none⟩) hb0).trans (HC0.out _ hi)
      have y2 := hw.r.cell hi
      have f0 := hw.r.frozen d[k]!
      have H9 : Hid (∀ q, HW w w.heap.size w.heap.size n g d (outTo (mG d) d (k + 1)) ((wr.drewN q).setCell ⟨w.heap.size, d[k]!, none⟩ (.float .f32 (mG d (k + 1))))) := Lib.hid fun q => (hw.drewN q).set _ _
      rw [HGG.out] at H9
      have hm := HG.out d k hlt
      have hms := HPT.out d (HLT.out d D0.out) k hlt
      have hrun := fun w => run_float_arith (P := Try.prog) w .mul 50 .f32 _ _ _ hms.1
      have hwk : IntKind.i64.wrap ((n : Int) - (k : Int)) = ((n - k : Nat) : Int) := by rw [show (n : Int) - (k : Int) = ((n - k : Nat) : Int) by omega]; exact IntWalk.i64_in _ (by omega)
      have hkz : (k : Int) < (n : Int) := by omega
      have hiz : ((d[k]! : Nat) : Int) < (n : Int) := by omega
      clear hw hms HPT HG HGG HLT HC0
      have HIZ := Lib.hid hi
      clear hi
      generalize d[k]! = i at *
      generalize fx i = xi at *
      generalize outTo (mG d) d k i = oi at *
      generalize hmm : mostI (hX d) k = mm at *
      generalize hmn : mostI (hX d) (k + 1) = mn at *
      generalize n - k = nk at *
      generalize fmul xi _ = x at *
      have HMN := Lib.hid hmn
      have HMM := Lib.hid hmm
      clear hmm hmn
      by_cases h0 : k = 0
      · rw [if_pos (.inl h0)] at hm
        subst hm
        subst h0
        have hwk' : IntKind.i64.wrap (n : Int) = (nk : Int) := by
          rw [← hwk]
          congr 1
        have hkz' : 0 < n := by omega
        go_wp2_with (go_at_call 65; refine (HC.out _ _).mono ?_; rintro e w' ⟨rfl, q, rfl⟩)
        go_roundw
        case rel => exact ⟨0 + 1, by omega, by go_num, by rw [HMN.out], H9.out q⟩
        case measure => simp [intOf]; omega
      · have hk0 : ¬ (k : Int) = 0 := by omega
        cases ho : (FloatKind.f32.format.order x mm == some .gt) with
        | true =>
          rw [if_pos (.inr (eq_of_beq ho))] at hm
          subst hm
          clear h0
          go_wp2_with (go_at_call 65; refine (HC.out _ _).mono ?_; rintro e w' ⟨rfl, q, rfl⟩)
          go_roundw
          case rel => exact ⟨k + 1, by omega, by go_num, by rw [HMN.out], H9.out q⟩
          case measure => simp [intOf]; omega
        | false =>
          rw [if_neg (by rintro (h | h); exact h0 h; exact absurd h (beq_eq_false_iff_ne.1 ho))] at hm
          subst hm
          clear h0
          go_wp2_with (go_at_call 65; refine (HC.out _ _).mono ?_; rintro e w' ⟨rfl, q, rfl⟩)
          go_roundw
          case rel => exact ⟨k + 1, by omega, by go_num, by rw [HMN.out], H9.out q⟩
          case measure => simp [intOf]; omega
    · obtain rfl : k = n := by omega
      go_wp2_with fail
      go_ret2
      refine ⟨d, D0.out, some ⟨w.heap.size, 0, none⟩, k, by rw [HN.out]; rfl, ?_, hw.b⟩
      rw [HN.out, hfl, HL.out]
      have := own_row hw.r (Nat.le_refl _) (by unfold maxLen; omega)
      unfold outL
      rw [List.map_map]
      exact this
end Go.Proofs.Ytfkjnaaplhcheaa
namespace Go.Proofs.Ytfkjnaaplhcheaa
open Go Go.RowKit Go.Sort Ieee

theorem RW.swap0 {w W : World} {blk off : Nat} {d dk : Array Nat} (h : RW w blk off d dk W) {i j : Nat} (hi : i < d.size) (hj : j < d.size) {x y : Nat} (hx : dk[i]! = x) (hy : dk[j]! = y) : RW w blk off d (swp dk i j) ((W.setCell ⟨blk, off + i, none⟩ (.int .i64 (y : Nat))).setCell ⟨blk, off + j, none⟩ (.int .i64 (x : Nat))) := by
  obtain ⟨hh, hs, k, rfl⟩ := h
  subst hx hy
  refine ⟨hh, (size_swp dk i j).trans hs, k, ?_⟩
  rw [← putRow_swp eN w blk off dk i j (by omega) (by omega)]
  rfl
theorem info_int : (Try.prog.info? 3).map (fun i => (i.zero, i.size, i.bytes)) = some (some (.int .i64 0), 1, 8) := by kernel_rfl
end Go.Proofs.Ytfkjnaaplhcheaa
namespace Go.Proofs.Ytfkjnaaplhcheaa
open Go Go.RowKit Go.Sort Ieee
attribute [local go_sem] run_store_float

/-- the numbers of the reference, capped one by one -/
def capX (xs : List Nat) (d : Array Nat) (k : Nat) : Nat := capF (holmX xs d k)
def specG (xs : List Nat) (d : Array Nat) (k : Nat) : Nat := mostI (capX xs d) k
theorem holm_same {xs : List Nat} {d : Array Nat} (hp : xs.all partB = true) (hl : xs.length ≤ 64) (hd : ∀ k, k < xs.length → d[k]! < xs.length) : outL (specG xs d) d xs.length = holmL xs d :=
  outL_congr (fun j hj => most_cap (holm_word hp hl hd) j hj) (fun _ _ => rfl)
end Go.Proofs.Ytfkjnaaplhcheaa
namespace Go.Proofs.Ytfkjnaaplhcheaa
open Go Go.RowKit Go.Sort Ieee

theorem mostI_congr {f g : Nat → Nat} {n : Nat} (h : ∀ k, k < n → f k = g k) : ∀ k, k ≤ n → mostI f k = mostI g k
  | 0, _ => rfl
  | k + 1, hk => by
    show (if _ then _ else _) = (if _ then _ else _)
    rw [h k (by omega), mostI_congr h k (by omega)]
theorem leastI_congr {f g : Nat → Nat} {n : Nat} (h : ∀ k, k < n → f k = g k) : ∀ k, k ≤ n → leastI f k = leastI g k
  | 0, _ => rfl
  | k + 1, hk => by
    show (if _ then _ else _) = (if _ then _ else _)
    rw [h k (by omega), leastI_congr h k (by omega)]
theorem holmL_congr {xs : List Nat} {d e : Array Nat} (h : ∀ p, p < xs.length → d[p]! = e[p]!) : holmL xs d = holmL xs e := by
  refine outL_congr (fun j hj => ?_) h
  show capF (mostI _ _) = capF (mostI _ _)
  rw [mostI_congr (n := xs.length) (f := holmX xs d) (g := holmX xs e) (fun k hk => by unfold holmX; rw [h k hk]) (j + 1) (by omega)]
theorem sharesB_len {xs : List Nat} (h : sharesB xs = true) : xs.length ≤ 64 := by
  unfold sharesB at h
  simp only [Bool.and_eq_true, decide_eq_true_eq] at h
  exact h.1.2
theorem holm_one (xs : List Nat) : ∃ ys : List Nat, ys.length = xs.length ∧ ∀ d, OrdTo (keyI xs) xs.length d → holmL xs d = ys := by
  by_cases h : ∃ d, OrdTo (keyI xs) xs.length d
  · obtain ⟨d, hd⟩ := h
    exact ⟨holmL xs d, outL_len _ _ _, fun e he => holmL_congr (he.same hd)⟩
  · exact ⟨xs, rfl, fun d hd => absurd ⟨d, hd⟩ h⟩
end Go.Proofs.Ytfkjnaaplhcheaa
namespace Go.Proofs.Ytfkjnaaplhcheaa
open Go Go.RowKit Go.Sort Ieee

/-- a quotient by a finite number that is not 0 is no NaN -/
theorem div_some {x y : Nat} (hx : isFin single x = true) (hy : isFin single y = true) (hk : key single y ≠ 0) : ∃ r, single.div x y = some r ∧ isNan single r = false := by
  have he : 1 ≤ single.exponentBits := by decide
  obtain ⟨m, i, hr, -, -⟩ := read_fin ((fin_iff single he x).1 hx)
  obtain ⟨n, j, hq, -, hn⟩ := read_fin ((fin_iff single he y).1 hy)
  have hn0 : n ≠ 0 := by
    intro h0
    rw [h0, Nat.zero_mul] at hn
    have h1 : rungOf single y = 0 := by
      rcases Nat.eq_zero_or_pos (rungOf single y) with h | h
      · exact h
      · have := mu_mono single h
        omega
    unfold key at hk
    rw [h1] at hk
    simp at hk
  unfold Format.div
  rw [hr, hq]
  simp only [Datum.quotient, if_neg hn0, Option.map_some]
  exact ⟨_, rfl, notNan_write single he _ rfl⟩
theorem fdiv_run {x y : Nat} (hx : isFin single x = true) (hy : isFin single y = true) (hk : key single y ≠ 0) : floatBits .quo .f32 x y = some (fdiv x y) ∧ isNan single (fdiv x y) = false := by
  obtain ⟨r, h1, h2⟩ := div_some hx hy hk
  have h3 : fdiv x y = r := by unfold fdiv; rw [h1]; rfl
  rw [h3]
  exact ⟨h1, h2⟩

theorem fdiv_lt (x y : Nat) : fdiv x y < 4294967296 := by
  unfold fdiv Format.div
  cases (single.read x).quotient (single.fractionBits + 2) (single.read y) with
  | none => decide
  | some d => exact write_lt d
theorem product_comm (a b : Datum) : a.product b = b.product a := by
  cases a <;> cases b <;> simp [Datum.product, Bool.xor_comm, Nat.mul_comm, Int.add_comm]
theorem fmul_comm (x y : Nat) : fmul x y = fmul y x := by
  unfold fmul Format.mul
  rw [product_comm]
/-- a row behind k stores: at D j lies g (j + 1), j below k -/
def outF (g D : Nat → Nat) : Nat → Nat → Nat
  | 0, _ => 0
  | k + 1, p => if p = D k then g (k + 1) else outF g D k p
def outFL (g D : Nat → Nat) (n : Nat) : List Nat := (List.range n).map (outF g D n)
theorem outFL_len (g D : Nat → Nat) (n : Nat) : (outFL g D n).length = n := by simp [outFL]
theorem outF_congr {g g' D D' : Nat → Nat} : ∀ k, (∀ j, j < k → g (j + 1) = g' (j + 1)) → (∀ j, j < k → D j = D' j) → ∀ p, outF g D k p = outF g' D' k p
  | 0, _, _, _ => rfl
  | k + 1, h, h', p => by
    show (if _ then _ else _) = (if _ then _ else _)
    rw [h k (by omega), h' k (by omega), outF_congr k (fun j hj => h j (by omega)) (fun j hj => h' j (by omega)) p]
theorem outFL_congr {g g' D D' : Nat → Nat} {n : Nat} (h : ∀ j, j < n → g (j + 1) = g' (j + 1)) (h' : ∀ j, j < n → D j = D' j) : outFL g D n = outFL g' D' n := by
  unfold outFL
  exact List.map_congr_left fun p _ => outF_congr n h h' p
/-- the order from its end -/
def backD (d : Array Nat) (n j : Nat) : Nat := d[n - 1 - j]!
/-- a share times all, by how many are not greater -/
def stepV (x n m : Nat) : Nat := fdiv (fmul x (floatOfInt .f32 (n : Int))) (floatOfInt .f32 (m : Int))
theorem stepV_run {x n m : Nat} (hx : partB x = true) (hn : n < 65) (hm : m < 65) (h0 : 0 < m) :
    floatBits .mul .f32 x (floatOfInt .f32 (n : Int)) = some (fmul x (floatOfInt .f32 (n : Int))) ∧ floatBits .quo .f32 (fmul x (floatOfInt .f32 (n : Int))) (floatOfInt .f32 (m : Int)) = some (stepV x n m) ∧ wordN (stepV x n m) := by
  have hp := part_key hx
  have h1 := (mul_run' hx hn).1
  have h2 : isFin single (fmul x (floatOfInt .f32 (n : Int))) = true := by
    rw [fmul_comm]
    rcases Nat.eq_zero_or_pos n with h | h
    · subst h
      exact (mul_nn (int_fin 0 (by omega)) hp.2.2.2 (by decide +kernel) hp.2.1 hp.2.2.1).1
    · exact (mul_nn (int_fin n hn) hp.2.2.2 (Int.le_of_lt (int_pos n hn h)) hp.2.1 hp.2.2.1).1
  have h3 := fdiv_run h2 (int_fin m hm) (by have := int_pos m hm h0; omega)
  exact ⟨h1, h3.1, h3.2, fdiv_lt _ _⟩
def stepX (xs : List Nat) (d : Array Nat) (j : Nat) : Nat := stepV (xs.getD (backD d xs.length j) 0) xs.length (xs.length - j)
def leastG (xs : List Nat) (d : Array Nat) (k : Nat) : Nat := capF (leastI (stepX xs d) k)
def stepL (xs : List Nat) (d : Array Nat) : List Nat := outFL (leastG xs d) (backD d xs.length) xs.length
theorem step_word {xs : List Nat} {d : Array Nat} (hp : xs.all partB = true) (hl : xs.length ≤ 64) (hd : ∀ k, k < xs.length → d[k]! < xs.length) : ∀ k, k < xs.length → wordN (stepX xs d k) := fun k hk =>
  (stepV_run (getD_part hp (hd (xs.length - 1 - k) (by omega))) (by omega) (by omega) (by omega)).2.2
/-- the numbers of the reference, capped one by one -/
def capS (xs : List Nat) (d : Array Nat) (k : Nat) : Nat := capF (stepX xs d k)
def specS (xs : List Nat) (d : Array Nat) (k : Nat) : Nat := leastI (capS xs d) k
theorem step_same {xs : List Nat} {d : Array Nat} (hp : xs.all partB = true) (hl : xs.length ≤ 64) (hd : ∀ k, k < xs.length → d[k]! < xs.length) : outFL (specS xs d) (backD d xs.length) xs.length = stepL xs d :=
  outFL_congr (fun j hj => least_cap (step_word hp hl hd) j hj) (fun _ _ => rfl)
theorem stepL_congr {xs : List Nat} {d e : Array Nat} (h : ∀ p, p < xs.length → d[p]! = e[p]!) : stepL xs d = stepL xs e := by
  have hb : ∀ j, j < xs.length → backD d xs.length j = backD e xs.length j := fun j hj => h _ (by omega)
  refine outFL_congr (fun j hj => ?_) hb
  show capF (leastI _ _) = capF (leastI _ _)
  rw [leastI_congr (n := xs.length) (f := stepX xs d) (g := stepX xs e) (fun k hk => by unfold stepX; rw [hb k hk]) (j + 1) (by omega)]
theorem step_one (xs : List Nat) : ∃ ys : List Nat, ys.length = xs.length ∧ ∀ d, OrdTo (keyI xs) xs.length d → stepL xs d = ys := by
  by_cases h : ∃ d, OrdTo (keyI xs) xs.length d
  · obtain ⟨d, hd⟩ := h
    exact ⟨stepL xs d, outFL_len _ _ _, fun e he => stepL_congr (he.same hd)⟩
  · exact ⟨xs, rfl, fun d hd => absurd ⟨d, hd⟩ h⟩
/-- the test of a number that is not greater, as the code makes it -/
theorem le_test {x m : Nat} (hx : wordN x) (hm : wordN m) : (FloatKind.f32.format.order x m == some .lt || FloatKind.f32.format.order x m == some .eq) = decide (FloatKind.f32.format.order x m ≠ some .gt) := by
  have hne : FloatKind.f32.format.order x m ≠ none := by
    intro h
    have e1 : ¬ key single x < key single m := fun h9 => by
      have := (lt_key' hx.1 hm.1).2 h9
      rw [h] at this
      cases this
    have e2 : ¬ key single m < key single x := fun h9 => by
      have := (gt_key' hx.1 hm.1).2 h9
      rw [h] at this
      cases this
    have h3 := eq_key (f := single) (by decide) hx.1 hm.1
    rw [decide_eq_true (show key single x = key single m by omega)] at h3
    have h4 : FloatKind.f32.format.order x m = some .eq := eq_of_beq h3
    rw [h] at h4
    cases h4
  rcases h : FloatKind.f32.format.order x m with _ | o
  · exact absurd h hne
  · cases o <;> decide
end Go.Proofs.Ytfkjnaaplhcheaa
