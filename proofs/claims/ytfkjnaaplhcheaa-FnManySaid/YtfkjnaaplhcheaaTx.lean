/-
  slices.symMergeCmpFunc of float32 numbers: two stretches.
-/
import Derived.Test.YtfkjnaaplhcheaaTz
import Derived.Deep.Cut
namespace Go.Proofs.Ytfkjnaaplhcheaa.Fs
open Go Go.RowKit Go.Sort
attribute [local go_sem] run_store_float

/-- what a merge of a stretch that is shorter gives -/
def MgIH (K V : Nat → Nat) (w : World) (blk off cap N : Nat) (d : Array Nat) : Prop := ∀ (a m b : Nat) (d0 : Array Nat) (W : World), b - a < N → RW V w blk off d d0 W → a < m → m < b → b ≤ d.size → SM K a m b d0 → (∀ p, a ≤ p → p < b → d0[p]! < d.size) →
  Calls Try.prog 124 #[.slice (some ⟨blk, off, none⟩) d.size cap, .int .i64 a, .int .i64 m, .int .i64 b, .func (.func 72) #[] #[]] W (fun e w' => e = .returned (.tuple #[]) ∧ ∃ d' : Array Nat, Srt K d' a b ∧ Same a b d0 d' ∧ RW V w blk off d d' w')
set_option maxRecDepth 100000 in
set_option maxHeartbeats 12800000 in
theorem symMerge_gen (K V : Nat → Nat) (cf : Nat → Nat → Int) (blk off cap a m b : Nat) (d d0 : Array Nat) (w W : World) (hC : CmpAt K V cf w blk off d) (hsz : d.size ≤ 1048576) (IH : MgIH K V w blk off cap (b - a) d) (h : RW V w blk off d d0 W) (hm : SM K a m b d0)
    (ham : a + 1 < m) (hmb : m + 1 < b) (hb : b ≤ d.size) (hbd : ∀ p, a ≤ p → p < b → d0[p]! < d.size) :
    Calls Try.prog 124 #[.slice (some ⟨blk, off, none⟩) d.size cap, .int .i64 a, .int .i64 m, .int .i64 b, shF] W (mgOut K V w blk off a b d d0) := by
  have H0 := Lib.hid h
  have HC := Lib.hid hC
  have HM := Lib.hid hm
  have HB := Lib.hid hbd
  have HIH := Lib.hid IH
  have HRO := Lib.hid fun x y z dk W h h1 h2 h3 => rotate_any V blk off cap x y z d dk (shF) w W h h1 h2 h3 hsz
  clear h hC hm hbd IH
  obtain ⟨ma, hma⟩ : ∃ ma, m - a = ma := ⟨_, rfl⟩
  obtain ⟨mb, hmbx⟩ : ∃ mb, b - m = mb := ⟨_, rfl⟩
  obtain ⟨mid, hmid⟩ : ∃ mid, mid = (a + b) / 2 := ⟨_, rfl⟩
  obtain ⟨n, hn⟩ : ∃ n, n = mid + m := ⟨_, rfl⟩
  have w1 : IntKind.i64.wrap ((m : Int) - (a : Int)) = (ma : Int) := by rw [show (m : Int) - (a : Int) = (ma : Int) by omega]; exact IntWalk.i64_in _ (by omega)
  have w2 : IntKind.i64.wrap ((b : Int) - (m : Int)) = (mb : Int) := by rw [show (b : Int) - (m : Int) = (mb : Int) by omega]; exact IntWalk.i64_in _ (by omega)
  have hne : ¬ (ma : Int) = 1 := by omega
  have hne' : ¬ ma = 1 := by omega
  have hne2 : ¬ (mb : Int) = 1 := by omega
  have hne2' : ¬ mb = 1 := by omega
  have hcv := half_nat (i := a) (j := b) (by omega)
  have hsum : IntKind.i64.wrap ((a : Int) + (b : Int)) = (a : Int) + (b : Int) := IntWalk.i64_in _ (by omega)
  have hhalf : ((a : Int) + (b : Int)) / 2 = (mid : Int) := by omega
  have hmw : IntKind.i64.wrap (mid : Int) = (mid : Int) := IntWalk.i64_in _ (by omega)
  have hnw : IntKind.i64.wrap ((mid : Int) + (m : Int)) = (n : Int) := by rw [show (mid : Int) + (m : Int) = (n : Int) by omega]; exact IntWalk.i64_in _ (by omega)
  have hpw : IntKind.i64.wrap ((n : Int) - 1) = ((n - 1 : Nat) : Int) := by rw [show (n : Int) - 1 = ((n - 1 : Nat) : Int) by omega]; exact IntWalk.i64_in _ (by omega)
  have MID := Lib.hid hmid
  have NN := Lib.hid hn
  have hnm : n - b ≤ mid := by omega
  have hnbw : b ≤ n → IntKind.i64.wrap ((n : Int) - (b : Int)) = ((n - b : Nat) : Int) := fun h => by rw [show (n : Int) - (b : Int) = ((n - b : Nat) : Int) by omega]; exact IntWalk.i64_in _ (by omega)
  have START : Hid (∃ S0 R0 : Nat, ((mid < m ∧ S0 = n - b ∧ R0 = mid) ∨ (m ≤ mid ∧ S0 = a ∧ R0 = m))) := Lib.hid (by
    by_cases h : mid < m
    · exact ⟨_, _, .inl ⟨h, rfl, rfl⟩⟩
    · exact ⟨_, _, .inr ⟨by omega, rfl, rfl⟩⟩)
  obtain ⟨S0, R0, hSR⟩ := START.out
  have SR := Lib.hid hSR
  have HCUT : Hid (∀ s, S0 ≤ s → s ≤ R0 → (∀ c, S0 ≤ c → c < s → K d0[c]! < K d0[n - 1 - c]!) → (∀ c, s ≤ c → c < R0 → K d0[n - 1 - c]! < K d0[c]!) → Cut K a s m (n - s) b d0 ∧ s + (n - s) = mid + m ∧ s ≤ mid) := Lib.hid fun s h1 h2 h3 h4 => ⟨cut_of HM.out (by omega) (by omega) hmid hn SR.out ⟨h1, h2⟩ h3 h4, by omega, by omega⟩
  have HST : Hid (∀ c, S0 ≤ c → c < R0 → a ≤ c ∧ c < m ∧ m ≤ n - 1 - c ∧ n - 1 - c < b ∧ c ≤ n - 1) := Lib.hid fun c h1 h2 => by omega
  have HLE : Hid (S0 ≤ R0 ∧ R0 ≤ 1048576 ∧ R0 ≤ m) := Lib.hid (by omega)
  have HMI : Hid (a < mid ∧ mid < b) := Lib.hid (by omega)
  unfold mgOut shF
  unfold shF at HRO
  clear hma hmbx hmid hn START SR MID
  rcases hSR with hSR | hSR
  all_goals
    obtain ⟨hgt, hs0, hr0⟩ := hSR
    first
      | (have hgz : (mid : Int) < (m : Int) := by omega
         have hnb := hnbw (by have := NN.out; omega)
         have ST : Hid (S0 = n - b ∧ R0 = mid) := Lib.hid ⟨hs0, hr0⟩
         clear hs0 hr0 hnbw hgt
         generalize n - b = q at *
         generalize n - 1 = p1 at *
         go_enter Try.func124, Try.ntmps124
         go_wp2)
      | (have hgz : ¬ (mid : Int) < (m : Int) := by omega
         have ST : Hid (S0 = a ∧ R0 = m) := Lib.hid ⟨hs0, hr0⟩
         clear hs0 hr0 hnbw hgt
         generalize n - 1 = p1 at *
         go_enter Try.func124, Try.ntmps124
         go_wp2)
    go_loopw [20, 21] (fun sv rv wr => ∃ s r : Nat, S0 ≤ s ∧ s ≤ r ∧ r ≤ R0 ∧ sv = .int .i64 s ∧ rv = .int .i64 r ∧ (∀ c, S0 ≤ c → c < s → K d0[c]! < K d0[p1 - c]!) ∧ (∀ c, r ≤ c → c < R0 → K d0[p1 - c]! < K d0[c]!) ∧ RW V w blk off d d0 wr) (fun sv rv _ => (intOf rv).toNat - (intOf sv).toNat)
    case atStart => exact ⟨S0, R0, Nat.le_refl _, HLE.out.1, Nat.le_refl _, by rw [ST.out.1], by rw [ST.out.2], fun c h1 h2 => by omega, fun c h1 h2 => by omega, H0.out⟩
    case round =>
      clear H0 ST
      obtain ⟨s, r, hs0, hsr, hr0, rfl, rfl, hb1, hb2, hw⟩ := hrel
      rename World => wq
      have HB1 := Lib.hid hb1
      have HB2 := Lib.hid hb2
      have HW := Lib.hid hw
      have hle := HLE.out
      clear hb1 hb2 hw
      by_cases hlt : s < r
      · obtain ⟨c, hc⟩ : ∃ c, c = (s + r) / 2 := ⟨_, rfl⟩
        have hci : s ≤ c ∧ c < r := by omega
        have hcv2 := half_nat (i := s) (j := r) (by omega)
        have hsum2 : IntKind.i64.wrap ((s : Int) + (r : Int)) = (s : Int) + (r : Int) := IntWalk.i64_in _ (by omega)
        have hhalf2 : ((s : Int) + (r : Int)) / 2 = (c : Int) := by omega
        have hcw : IntKind.i64.wrap (c : Int) = (c : Int) := IntWalk.i64_in _ (by omega)
        obtain ⟨k1, k2, k3, k4, k5⟩ := HST.out c (by omega) (by omega)
        have hpc : IntKind.i64.wrap ((p1 : Int) - (c : Int)) = ((p1 - c : Nat) : Int) := by rw [show (p1 : Int) - (c : Int) = ((p1 - c : Nat) : Int) by omega]; exact IntWalk.i64_in _ (by omega)
        have c1 := HW.out.cell (p := p1 - c) (by omega)
        have c2 := HW.out.cell (p := c) (by omega)
        have hcs : (c : Int) < (d.size : Int) := by omega
        have has : ((p1 - c : Nat) : Int) < (d.size : Int) := by omega
        clear hc
        obtain ⟨hx1, hk1, hk2⟩ := HC.out d0 wq (p1 - c) c HW.out (HB.out _ (by omega) k4) (HM.out.x c (p1 - c) k1 k2 k3 k4)
        have HCX := Lib.hid hx1
        have HWN := Lib.hid fun n => HW.out.drewN n
        by_cases hlv : cf d0[p1 - c]! d0[c]! < 0
        · have N2 : Hid (∀ c', c ≤ c' → c' < R0 → K d0[p1 - c']! < K d0[c']!) := Lib.hid fun c' h1 h2 => by
            obtain ⟨j1, j2, j3, j4, j5⟩ := HST.out c' (by omega) h2
            exact Nat.lt_of_le_of_lt (HM.out.r.le j3 (by omega) k4) (Nat.lt_of_lt_of_le (hk1 hlv) (HM.out.l.le k1 h1 j2))
          clear hx1 hk1 hk2 HB2 HW
          generalize d0[p1 - c]! = x at *
          generalize hy : d0[c]! = y at *
          have HY := Lib.hid hy
          clear hy
          generalize p1 - c = pc at *
          go_wp2_with fail
          go_quiet (refine Calls.quiet_of (HCX.out _))
          have HW9 := Lib.hid (HWN.out nq)
          clear c1 c2 HCX HWN
          generalize wq.drewN nq = wy at *
          go_wp2_with fail
          go_roundw
          case rel => exact ⟨s, c, hs0, hci.1, by omega, rfl, rfl, HB1.out, N2.out, HW9.out⟩
          case measure => simp [intOf]; omega
        · have N1 : Hid (∀ c', S0 ≤ c' → c' < c + 1 → K d0[c']! < K d0[p1 - c']!) := Lib.hid fun c' h1 h2 => by
            obtain ⟨j1, j2, j3, j4, j5⟩ := HST.out c' h1 (by omega)
            exact Nat.lt_of_le_of_lt (HM.out.l.le j1 (by omega) k2) (Nat.lt_of_lt_of_le (hk2 hlv) (HM.out.r.le k3 (by omega) j4))
          have hlv2 : decide (cf d0[p1 - c]! d0[c]! < 0) = false := decide_eq_false hlv
          clear hlv
          clear hx1 hk1 hk2 HB1 HW
          generalize d0[p1 - c]! = x at *
          generalize hy : d0[c]! = y at *
          have HY := Lib.hid hy
          clear hy
          generalize p1 - c = pc at *
          go_wp2_with fail
          go_quiet (refine Calls.quiet_of (HCX.out _))
          have HW9 := Lib.hid (HWN.out nq)
          clear c1 c2 HCX HWN
          generalize wq.drewN nq = wy at *
          go_wp2_with fail
          go_roundw
          case rel => exact ⟨c + 1, r, by omega, by omega, hr0, by go_num, rfl, N1.out, HB2.out, HW9.out⟩
          case measure => simp [intOf]; omega
      · obtain rfl : s = r := by omega
        obtain ⟨cut, hse, hsm⟩ := HCUT.out s hs0 hr0 HB1.out HB2.out
        have CT := Lib.hid cut
        have SE := Lib.hid hse
        have hew : IntKind.i64.wrap ((n : Int) - (s : Int)) = ((n - s : Nat) : Int) := by have := NN.out; rw [show (n : Int) - (s : Int) = ((n - s : Nat) : Int) by omega]; exact IntWalk.i64_in _ (by omega)
        have q1 := cut.hs
        have q2 := cut.sm
        have q3 := cut.me
        have q4 := cut.eb
        clear cut hse HB1 HB2 HCUT HST HC
        generalize n - s = e at *
        have hs1 : mid ≤ e := by have := SE.out; omega
        have hmi := HMI.out
        have h3 : (s < m ∧ m < e) ∨ (s < m ∧ e ≤ m) ∨ m ≤ s := by omega
        rcases h3 with h3 | h3 | h3
        all_goals
          first
            | (obtain ⟨z1, z2⟩ := h3
               have z3 : (s : Int) < (m : Int) := by omega
               have z4 : (m : Int) < (e : Int) := by omega
               have RC := Lib.hid (HRO.out s m e d0 _ HW.out z1 z2 (by omega))
               clear HRO HW
               go_upto_region 41 with (go_at_call 134; refine RC.out.mono ?_; rintro e' w1' ⟨rfl, dr, hrt, hw1⟩; have ROT := Lib.hid hrt; have WR := Lib.hid hw1; clear hrt hw1)
               clear z3 z4 z1 z2 RC)
            | (obtain ⟨z1, z2⟩ := h3
               have z3 : (s : Int) < (m : Int) := by omega
               have z4 : ¬ (m : Int) < (e : Int) := by omega
               obtain ⟨dr, hrt, hw1⟩ : ∃ dr, IsRot s m e d0 dr ∧ RW V w blk off d dr _ := ⟨d0, rot_none (by omega) q2 q3, HW.out⟩
               have ROT := Lib.hid hrt
               have WR := Lib.hid hw1
               clear hrt hw1 HW HRO
               go_upto_region 41 with fail
               clear z3 z4 z1 z2)
            | (have z3 : ¬ (s : Int) < (m : Int) := by omega
               obtain ⟨dr, hrt, hw1⟩ : ∃ dr, IsRot s m e d0 dr ∧ RW V w blk off d dr _ := ⟨d0, rot_none (by omega) q2 q3, HW.out⟩
               have ROT := Lib.hid hrt
               have WR := Lib.hid hw1
               clear hrt hw1 HW HRO
               go_upto_region 41 with fail
               clear z3 h3)
          have SL := Lib.hid (CT.out.left HM.out ROT.out SE.out.symm)
          have SR := Lib.hid (CT.out.right HM.out ROT.out SE.out.symm)
          have SA := Lib.hid (CT.out.all ROT.out SE.out.symm)
          have SS := Lib.hid ((ROT.out.same q2 q3).wide (a' := a) (b' := b) q1 q4)
          have BR := Lib.hid (SS.out.all (P := fun z => z < d.size) HB.out)
          clear ROT CT HM
          have h4 : (a < s ∧ s < mid) ∨ (a < s ∧ mid ≤ s) ∨ s ≤ a := by omega
          rcases h4 with h4 | h4 | h4
          all_goals
            first
              | (obtain ⟨z1, z2⟩ := h4
                 have z3 : (a : Int) < (s : Int) := by omega
                 have z4 : (s : Int) < (mid : Int) := by omega
                 have RC := Lib.hid (HIH.out a s mid dr _ (by omega) WR.out z1 z2 (by omega) SL.out fun p h1 h2 => BR.out p h1 (by omega))
                 clear WR
                 go_upto_region 43 with (go_at_call 124; refine RC.out.mono ?_; rintro e' w1' ⟨rfl, d1, hs1, hm1, hw1⟩; have T1 := Lib.hid hs1; have M1 := Lib.hid hm1; have WR := Lib.hid hw1; clear hs1 hm1 hw1)
                 clear z3 z4 z1 z2 RC)
              | (obtain ⟨z1, z2⟩ := h4
                 have z3 : (a : Int) < (s : Int) := by omega
                 have z4 : ¬ (s : Int) < (mid : Int) := by omega
                 obtain ⟨d1, hs1, hm1, hw1⟩ : ∃ d1, Srt K d1 a mid ∧ Same a mid dr d1 ∧ RW V w blk off d d1 _ := ⟨dr, SL.out.one (.inr (by omega)), Same.refl _ _ _, WR.out⟩
                 have T1 := Lib.hid hs1
                 have M1 := Lib.hid hm1
                 clear WR
                 have WR := Lib.hid hw1
                 clear hs1 hm1 hw1
                 go_upto_region 43 with fail
                 clear z3 z4 z1 z2)
              | (have z3 : ¬ (a : Int) < (s : Int) := by omega
                 obtain ⟨d1, hs1, hm1, hw1⟩ : ∃ d1, Srt K d1 a mid ∧ Same a mid dr d1 ∧ RW V w blk off d d1 _ := ⟨dr, SL.out.one (.inl (by omega)), Same.refl _ _ _, WR.out⟩
                 have T1 := Lib.hid hs1
                 have M1 := Lib.hid hm1
                 clear WR
                 have WR := Lib.hid hw1
                 clear hs1 hm1 hw1
                 go_upto_region 43 with fail
                 clear z3 h4)
            have SR1 : Hid (SM K mid e b d1) := Lib.hid (SR.out.congr (fun p h1 h2 => M1.out.2.2 p (by omega)) (by omega) q4)
            have BR1 : Hid (∀ p, a ≤ p → p < b → d1[p]! < d.size) := Lib.hid ((M1.out.wide (a' := a) (b' := b) (Nat.le_refl _) (by omega)).all (P := fun z => z < d.size) BR.out)
            have FIN : Hid (∀ d2, Srt K d2 mid b → Same mid b d1 d2 → Srt K d2 a b ∧ Same a b d0 d2) := Lib.hid fun d2 h1 h2 => by
              obtain ⟨g1, g2⟩ := merged (a := a) (by omega) (by omega) SA.out T1.out M1.out h1 h2
              exact ⟨g1, SS.out.trans g2⟩
            clear SR SL SA SS BR T1 M1
            have h5 : (mid < e ∧ e < b) ∨ (mid < e ∧ b ≤ e) ∨ e ≤ mid := by omega
            rcases h5 with h5 | h5 | h5
            all_goals
              first
                | (obtain ⟨z1, z2⟩ := h5
                   have z3 : (mid : Int) < (e : Int) := by omega
                   have z4 : (e : Int) < (b : Int) := by omega
                   have RC := Lib.hid (HIH.out mid e b d1 _ (by omega) WR.out z1 z2 hb SR1.out fun p h1 h2 => BR1.out p (by omega) h2)
                   clear WR
                   go_wp2_with (go_at_call 124; refine RC.out.mono ?_; rintro e' w2' ⟨rfl, d2, hs2, hm2, hw2⟩; have F9 := Lib.hid (FIN.out d2 hs2 hm2); have WR := Lib.hid hw2; clear hs2 hm2 hw2)
                   go_end0
                   exact ⟨rfl, d2, F9.out.1, F9.out.2, WR.out⟩)
                | (obtain ⟨z1, z2⟩ := h5
                   have z3 : (mid : Int) < (e : Int) := by omega
                   have z4 : ¬ (e : Int) < (b : Int) := by omega
                   have F9 := Lib.hid (FIN.out d1 (SR1.out.one (.inr (by omega))) (Same.refl _ _ _))
                   go_wp2_with fail
                   go_end0
                   exact ⟨rfl, d1, F9.out.1, F9.out.2, WR.out⟩)
                | (have z3 : ¬ (mid : Int) < (e : Int) := by omega
                   have F9 := Lib.hid (FIN.out d1 (SR1.out.one (.inl (by omega))) (Same.refl _ _ _))
                   go_wp2_with fail
                   go_end0
                   exact ⟨rfl, d1, F9.out.1, F9.out.2, WR.out⟩)
end Go.Proofs.Ytfkjnaaplhcheaa.Fs
