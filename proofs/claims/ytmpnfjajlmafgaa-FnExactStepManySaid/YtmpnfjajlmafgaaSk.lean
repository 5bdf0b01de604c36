/-
  slices.stableCmpFunc of indices.
-/
import Derived.Test.YtmpnfjajlmafgaaSv
namespace Go.Proofs.Ytmpnfjajlmafgaa
open Go Go.RowKit Go.Sort

theorem Same.bound {n : Nat} {d e : Array Nat} (h : Same 0 n d e) (h0 : ∀ p, p < n → d[p]! = p) : ∀ p, p < n → e[p]! < n := fun p hp => h.all (P := fun z => z < n) (fun p _ h2 => by rw [h0 p h2]; exact h2) p (Nat.zero_le _) hp
set_option maxRecDepth 100000 in
set_option maxHeartbeats 6400000 in
theorem stable_any (K : Nat → Nat) (cf : Nat → Nat → Int) (blk off cap bx : Nat) (d d0 : Array Nat) (w W : World) (hC : ShCmp w blk off bx d cf) (hK : KeyOf K cf d.size) (hsz : d.size ≤ 1024) (h : RW w blk off d d0 W) (h0 : ∀ p, p < d.size → d0[p]! = p) :
    Calls Try.prog 95 #[.slice (some ⟨blk, off, none⟩) d.size cap, .int .i64 d.size, shF bx] W (fun e w' => e = .returned (.tuple #[]) ∧ ∃ d' : Array Nat, Blk K d' 0 d.size ∧ Same 0 d.size d0 d' ∧ RW w blk off d d' w') := by
  have HIN : Hid (∀ a b dk W, RW w blk off d dk W → a ≤ b → b ≤ d.size → (∀ p q, a ≤ p → p < q → q < b → dk[p]! < dk[q]!) → (∀ p, p < d.size → dk[p]! < d.size) → Calls Try.prog 101 #[.slice (some ⟨blk, off, none⟩) d.size cap, .int .i64 a, .int .i64 b, .func (.func 81) #[] #[.pointer (some ⟨bx, 0, none⟩)]] W (fun e w' => e = .returned (.tuple #[]) ∧ ∃ d' : Array Nat, Srt K d' a b ∧ Same a b dk d' ∧ RW w blk off d d' w')) := Lib.hid fun a b dk W h1 h2 h3 h4 h5 => insertion_any K cf blk off cap a b bx d dk w W h1 hC hK h2 h3 (by omega) h4 fun p _ hp => h5 p (by omega)
  have HMG : Hid (∀ a m b dk W, RW w blk off d dk W → a < m → m < b → b ≤ d.size → SM K a m b dk → (∀ p, p < d.size → dk[p]! < d.size) → Calls Try.prog 102 #[.slice (some ⟨blk, off, none⟩) d.size cap, .int .i64 a, .int .i64 m, .int .i64 b, .func (.func 81) #[] #[.pointer (some ⟨bx, 0, none⟩)]] W (fun e w' => e = .returned (.tuple #[]) ∧ ∃ d' : Array Nat, Srt K d' a b ∧ Same a b dk d' ∧ RW w blk off d d' w')) := Lib.hid fun a m b dk W h1 h2 h3 h4 h5 h6 => symMerge_any K cf blk off cap bx d w (cmpAt_of hC hK) (by omega) (b - a + 1) a m b dk W (by omega) h1 h2 h3 h4 h5 fun p _ hp => h6 p (by omega)
  have START : Hid (Ins K d0 d.size 0 ∧ RW w blk off d d0 W) := Lib.hid ⟨⟨fun x _ hx => by omega, fun p _ hp => h0 p hp⟩, h⟩
  have HBD : Hid (∀ dk, Same 0 d.size d0 dk → ∀ p, p < d.size → dk[p]! < d.size) := Lib.hid fun dk h => h.bound h0
  clear hC hK h h0
  generalize hn : d.size = n at *
  unfold shF
  go_enter Try.func95, Try.ntmps95
  go_wp2
  go_loopw [7, 8] (fun av bv wr => ∃ (a : Nat) (dk : Array Nat), a ≤ n ∧ 20 ∣ a ∧ av = .int .i64 a ∧ bv = .int .i64 ((a + 20 : Nat) : Int) ∧ Ins K dk n a ∧ Same 0 n d0 dk ∧ RW w blk off d dk wr) (fun _ bv _ => n + 40 - (intOf bv).toNat)
  case atStart => exact ⟨0, d0, Nat.zero_le _, ⟨0, rfl⟩, rfl, rfl, START.out.1, Same.refl _ _ _, START.out.2⟩
  case round =>
    clear START
    obtain ⟨a, dk, han, h20, rfl, rfl, hi, hs, hw⟩ := hrel
    rename World => wq
    have H20 := Lib.hid h20
    have HI := Lib.hid hi
    have HS := Lib.hid hs
    have HW := Lib.hid hw
    clear h20 hi hs hw
    by_cases hlt : a + 20 ≤ n
    · have hz : ((a + 20 : Nat) : Int) ≤ (n : Int) := by omega
      have hw20 : IntKind.i64.wrap (((a + 20 : Nat) : Int) + 20) = ((a + 20 + 20 : Nat) : Int) := by rw [show ((a + 20 : Nat) : Int) + 20 = ((a + 20 + 20 : Nat) : Int) by push_cast; omega]; exact IntWalk.i64_in _ (by omega)
      have RC := Lib.hid (HIN.out a (a + 20) dk wq HW.out (by omega) hlt (HI.out.asc hlt) (HBD.out dk HS.out))
      have N9 : Hid (∀ e, Srt K e a (a + 20) → Same a (a + 20) dk e → Ins K e n (a + 20) ∧ Same 0 n d0 e ∧ 20 ∣ a + 20) := Lib.hid fun e h1 h2 => ⟨HI.out.step H20.out hlt h1 h2, HS.out.trans (h2.wide (Nat.zero_le _) hlt), (Nat.dvd_add_right H20.out).2 ⟨1, rfl⟩⟩
      clear HI HS HW H20
      generalize ha2 : a + 20 = a2 at *
      have HA2 := Lib.hid ha2
      clear ha2
      go_wp2_with (go_at_call 101; refine RC.out.mono ?_; rintro e' w1' ⟨rfl, d1, hs1, hm1, hw1⟩; have F9 := Lib.hid (N9.out d1 hs1 hm1); have WR := Lib.hid hw1; clear hs1 hm1 hw1)
      go_roundw
      case rel => exact ⟨a2, d1, by omega, F9.out.2.2, by go_num, by go_num, F9.out.1, F9.out.2.1, WR.out⟩
      case measure => have := HA2.out; simp [intOf]; omega
    · have hz : ¬ ((a + 20 : Nat) : Int) ≤ (n : Int) := by omega
      have RC := Lib.hid (HIN.out a n dk wq HW.out han (Nat.le_refl _) (HI.out.asc (Nat.le_refl _)) (HBD.out dk HS.out))
      have N9 : Hid (∀ e, Srt K e a n → Same a n dk e → BlkS K e n 20 ∧ Same 0 n d0 e) := Lib.hid fun e h1 h2 => ⟨HI.out.last H20.out (by omega) h1 h2, HS.out.trans (h2.wide (Nat.zero_le _) (Nat.le_refl _))⟩
      clear HI HS HW H20 HIN
      generalize a + 20 = a2 at *
      go_wp2_with (go_at_call 101; refine RC.out.mono ?_; rintro e' w1' ⟨rfl, d1, hs1, hm1, hw1⟩; have F9 := Lib.hid (N9.out d1 hs1 hm1); have WR := Lib.hid hw1; clear hs1 hm1 hw1)
      clear RC N9 hz
      go_loopw [6] (fun sv wr => ∃ (bs : Nat) (dk : Array Nat), 1 ≤ bs ∧ bs ≤ 2048 ∧ sv = .int .i64 bs ∧ BlkS K dk n bs ∧ Same 0 n d0 dk ∧ RW w blk off d dk wr) (fun sv _ => n - (intOf sv).toNat)
      case atStart => exact ⟨20, d1, by omega, by omega, rfl, F9.out.1, F9.out.2, WR.out⟩
      case round =>
        clear F9 WR
        obtain ⟨bs, dk, hb1, hb2, rfl, hi, hs, hw⟩ := hrel
        rename World => wp
        have HI := Lib.hid hi
        have HS := Lib.hid hs
        have HW := Lib.hid hw
        clear hi hs hw
        by_cases hlt2 : bs < n
        · have hz : (bs : Int) < (n : Int) := by omega
          obtain ⟨b2, hb2e⟩ : ∃ b2, b2 = 2 * bs := ⟨_, rfl⟩
          have B2 := Lib.hid hb2e
          have hw2 : IntKind.i64.wrap (2 * (bs : Int)) = (b2 : Int) := by rw [show 2 * (bs : Int) = (b2 : Int) by omega]; exact IntWalk.i64_in _ (by omega)
          have hw3 : IntKind.i64.wrap ((bs : Int) * 2) = (b2 : Int) := by rw [show (bs : Int) * 2 = (b2 : Int) by omega]; exact IntWalk.i64_in _ (by omega)
          have M0 : Hid (Mid K dk n bs 0) := Lib.hid ⟨fun x _ hx => by omega, fun x hx _ hxn => HI.out x hx hxn⟩
          have hb2n : b2 ≤ 2048 := by omega
          clear hb2e HI
          go_wp2_with fail
          go_loopw [7, 8] (fun av bv wr => ∃ (a b : Nat) (dk : Array Nat), a ≤ n ∧ b2 ∣ a ∧ a + b2 = b ∧ av = .int .i64 a ∧ bv = .int .i64 b ∧ Mid K dk n bs a ∧ Same 0 n d0 dk ∧ RW w blk off d dk wr) (fun _ bv _ => n + 5000 - (intOf bv).toNat)
          case atStart => exact ⟨0, b2, dk, Nat.zero_le _, ⟨0, rfl⟩, Nat.zero_add _, rfl, rfl, M0.out, HS.out, HW.out⟩
          case round =>
            clear M0 HS HW
            obtain ⟨a, b, dk, han, hdv, hab, rfl, rfl, hm, hs, hw⟩ := hrel
            rename World => wr
            have HDV : Hid (2 * bs ∣ a) := Lib.hid (B2.out ▸ hdv)
            have HM := Lib.hid hm
            have HS := Lib.hid hs
            have HW := Lib.hid hw
            have HAB := Lib.hid hab
            clear hm hs hw hdv
            have hmw : IntKind.i64.wrap ((a : Int) + (bs : Int)) = ((a + bs : Nat) : Int) := by rw [show (a : Int) + (bs : Int) = ((a + bs : Nat) : Int) by push_cast; rfl]; exact IntWalk.i64_in _ (by omega)
            have hbe := B2.out
            by_cases hbn : b ≤ n
            · have hz2 : (b : Int) ≤ (n : Int) := by omega
              have hbw : IntKind.i64.wrap ((b : Int) + (b2 : Int)) = ((b + b2 : Nat) : Int) := by rw [show (b : Int) + (b2 : Int) = ((b + b2 : Nat) : Int) by push_cast; rfl]; exact IntWalk.i64_in _ (by omega)
              have L1 := HM.out.left HDV.out (by omega) (by omega)
              have R1 := HM.out.right HDV.out (b := b) (by omega) (by omega)
              have RC := Lib.hid (HMG.out a (a + bs) b dk wr HW.out (by omega) (by omega) hbn (L1.merge R1) (HBD.out dk HS.out))
              have N9 : Hid (∀ e, Srt K e a b → Same a b dk e → Mid K e n bs b ∧ Same 0 n d0 e ∧ b2 ∣ b) := Lib.hid fun e h1 h2 => by
                have hb' : b = a + 2 * bs := by omega
                refine ⟨?_, HS.out.trans (h2.wide (Nat.zero_le _) hbn), ?_⟩
                · have g1 := L1.of R1 h1 h2 (by omega) (by omega)
                  subst hb'
                  exact HM.out.step HDV.out g1 hbn h2
                · rw [hb', hbe]
                  exact (Nat.dvd_add_right HDV.out).2 (Nat.dvd_refl _)
              clear L1 R1 HM HS HW hab hbe HDV
              generalize a + bs = m at *
              generalize hb4 : b + b2 = b4 at *
              have HB4 := Lib.hid hb4
              clear hb4
              go_wp2_with (go_at_call 102; refine RC.out.mono ?_; rintro e' w2' ⟨rfl, d2, hs2, hm2, hw2⟩; have F9 := Lib.hid (N9.out d2 hs2 hm2); have WR := Lib.hid hw2; clear hs2 hm2 hw2)
              go_roundw
              case rel => exact ⟨b, b4, d2, hbn, F9.out.2.2, HB4.out, rfl, by go_num, F9.out.1, F9.out.2.1, WR.out⟩
              case measure => have h1 := HB4.out; have h2 := HAB.out; have h3 := B2.out; simp [intOf]; omega
            · have hz2 : ¬ (b : Int) ≤ (n : Int) := by omega
              have N9 : Hid (∀ e, Blk K e a n → Same a n dk e → BlkS K e n b2 ∧ Same 0 n d0 e) := Lib.hid fun e h1 h2 => ⟨by have := HM.out.last HDV.out h1 (by omega) h2; rw [show bs * 2 = b2 by omega] at this; exact this, HS.out.trans (h2.wide (Nat.zero_le _) (Nat.le_refl _))⟩
              by_cases hmn : a + bs < n
              · have hz3 : ((a + bs : Nat) : Int) < (n : Int) := by omega
                have L1 := HM.out.left HDV.out (by omega) (by omega)
                have R1 := HM.out.right HDV.out (b := n) (by omega) (by omega)
                have RC := Lib.hid (HMG.out a (a + bs) n dk wr HW.out (by omega) (by omega) (Nat.le_refl _) (L1.merge R1) (HBD.out dk HS.out))
                have N8 : Hid (∀ e, Srt K e a n → Same a n dk e → BlkS K e n b2 ∧ Same 0 n d0 e) := Lib.hid fun e h1 h2 => N9.out e (L1.of R1 h1 h2 (by omega) (by omega)) h2
                clear L1 R1 HM HS HW hab hbe HDV N9
                generalize a + bs = m at *
                go_wp2_with (go_at_call 102; refine RC.out.mono ?_; rintro e' w2' ⟨rfl, d2, hs2, hm2, hw2⟩; have F9 := Lib.hid (N8.out d2 hs2 hm2); have WR := Lib.hid hw2; clear hs2 hm2 hw2)
                go_roundw
                case rel => exact ⟨b2, d2, by have := B2.out; omega, hb2n, by go_num, F9.out.1, F9.out.2, WR.out⟩
                case measure => have := B2.out; simp [intOf]; omega
              · have hz3 : ¬ ((a + bs : Nat) : Int) < (n : Int) := by omega
                have F9 := Lib.hid (N9.out dk (HM.out.rest HDV.out (by omega)) (Same.refl _ _ _))
                clear HM HS hab hbe HDV N9
                generalize a + bs = m at *
                go_wp2_with fail
                go_roundw
                case rel => exact ⟨b2, dk, by have := B2.out; omega, hb2n, by go_num, F9.out.1, F9.out.2, HW.out⟩
                case measure => have := B2.out; simp [intOf]; omega
        · have hz : ¬ (bs : Int) < (n : Int) := by omega
          have F9 : Hid (Blk K dk 0 n) := Lib.hid (by
            rcases Nat.eq_zero_or_pos n with h | h
            · exact Blk.none (by omega)
            · have := HI.out 0 ⟨0, rfl⟩ h
              rw [show min (0 + bs) n = n by omega] at this
              exact this)
          clear HI
          go_wp2_with fail
          go_end0
          exact ⟨rfl, dk, F9.out, HS.out, HW.out⟩
end Go.Proofs.Ytmpnfjajlmafgaa
