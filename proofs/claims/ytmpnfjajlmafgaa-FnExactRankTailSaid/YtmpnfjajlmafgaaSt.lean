/-
  spec.RankTail.
-/
import Derived.Test.YtmpnfjajlmafgaaMi
namespace Go.Proofs.Ytmpnfjajlmafgaa
open Go Go.RowKit

theorem info_sl : (Try.prog.info? 22).map (fun i => (i.zero, i.size, i.bytes)) = some (some (.slice none 0 0), 1, 24) := by kernel_rfl
set_option maxRecDepth 100000 in
set_option maxHeartbeats 1600000 in
theorem specRankTail_bad (A B : Option Addr) (xs ys : List Int) (c d : Nat) (w : World) (hx : xs.length ≤ 1048576) (hy : ys.length ≤ 1048576) (h : Rd w w.heap.size A (il xs)) (h' : Rd w w.heap.size B (il ys)) (hb : sampsB xs ys = false) : Calls Try.prog 18 #[.slice A xs.length c, .slice B ys.length d] w (rtOut 0 0 false w) := by
  have H := Lib.hid (specRankSum_bad A B xs ys c d w hx hy h h' hb)
  clear h h' hb
  unfold rsOut at H
  go_enter Try.func18, Try.ntmps18
  go_wp2_with (go_at_call 43; refine H.out.mono ?_; rintro e w1 ⟨rfl, hb1⟩; have B1 := Lib.hid hb1; clear hb1)
  go_ret3
  exact ⟨rfl, B1.out⟩
set_option maxRecDepth 100000 in
set_option maxHeartbeats 3200000 in
theorem specRankTail_ok (A B : Option Addr) (xs ys : List Int) (c d : Nat) (w : World) (hx : xs.length ≤ 1048576) (hy : ys.length ≤ 1048576) (h : Rd w w.heap.size A (il xs)) (h' : Rd w w.heap.size B (il ys)) (hb : sampsB xs ys = true) : Calls Try.prog 18 #[.slice A xs.length c, .slice B ys.length d] w (rtOut (rankTailB xs ys) (pas (xs.length + ys.length) xs.length : Nat) true w) := by
  obtain ⟨⟨x1, x2⟩, ⟨y1, y2⟩, xy⟩ := sampsB_len hb
  have H := Lib.hid (specRankSum_ok A B xs ys c d w hx hy h h' hb)
  unfold rsOut at H
  have hlen : (xs ++ ys).length = xs.length + ys.length := List.length_append
  have HCC := Lib.hid fun W hA hB => l06Joined_any A B xs ys c d W ⟨x1, x2⟩ ⟨y1, y2⟩ hA hB
  have HRK := Lib.hid fun A c W h => l06Ranks_any A (xs ++ ys) c W (by omega) h
  have hrl : (ranksN (xs ++ ys)).length = xs.length + ys.length := by rw [ranksN_len, hlen]
  have hrs := ranks_sum (xs := xs ++ ys) (by omega)
  have hown : rankSumB xs ys ≤ (ranksN (xs ++ ys)).sum := sumTo_le _ _
  have HTO := Lib.hid fun A c W h => l06First_any A (ranksN (xs ++ ys)) (ranksN (xs ++ ys)).length c W (Nat.le_refl _) (by omega) (by omega) h
  have HSA : Hid (sumTo (ranksN (xs ++ ys)) (ranksN (xs ++ ys)).length = (ranksN (xs ++ ys)).sum) := Lib.hid (sumTo_all _)
  rw [HSA.out] at HTO
  have HRP : Hid (∀ i, i < (ranksN (xs ++ ys)).length → 1 ≤ (ranksN (xs ++ ys)).getD i 0 ∧ (ranksN (xs ++ ys)).getD i 0 ≤ 81) := Lib.hid fun i hi => ranksN_mem (xs := xs ++ ys) (by omega) (by rw [List.getD_eq_getElem?_getD, List.getElem?_eq_getElem hi]; exact List.getElem_mem hi)
  have HT : Hid (IntKind.i64.wrap (sumF (way (ranksN (xs ++ ys)) (ranksN (xs ++ ys)).length xs.length) (rankSumB xs ys + 1)) = rankTailB xs ys) := Lib.hid rfl
  have HCH : Hid (∀ W, Calls Try.prog 47 #[.int .i64 (((ranksN (xs ++ ys)).length : Nat) : Int), .int .i64 (xs.length : Int)] W (fun e w' => e = .returned (.int .i64 (pas (xs.length + ys.length) xs.length : Nat)) ∧ Below W.heap.size W w')) := Lib.hid fun W => by
    rw [hrl]
    exact l06Choose_any (xs.length + ys.length) xs.length (by omega) (by omega) W
  have HNV : Hid (∀ (A3 : Option Addr) (W3 : World), Rd W3 W3.heap.size A3 (nlv (ranksN (xs ++ ys))) → ∀ k, k < (ranksN (xs ++ ys)).length → ∃ b off, A3 = some ⟨b, off, none⟩ ∧ ∀ W, Below W3.heap.size W3 W → W.cell? ⟨b, off + k, none⟩ = some (.int .i64 ((ranksN (xs ++ ys)).getD k 0 : Nat))) := Lib.hid fun A3 W3 h k hk => by
    obtain ⟨b, off, e, hb, hc⟩ := h.nlvAt hk
    refine ⟨b, off, e, fun W hW => keepC hW ?_⟩
    rw [hc, List.getD_eq_getElem?_getD, List.getElem?_eq_getElem hk]
    rfl
  have HDM0 : Hid (∀ i q y, q ≤ xs.length → way (ranksN (xs ++ ys)) i q y = dpM (ranksN (xs ++ ys)) i xs.length q y) := Lib.hid fun i q y h => dpM_start h
  have HDG0 : Hid (∀ i K q y, y ≤ (ranksN (xs ++ ys)).sum → dpM (ranksN (xs ++ ys)) i K q y = dpG (ranksN (xs ++ ys)) i K (ranksN (xs ++ ys)).sum q y) := Lib.hid fun i K q y h => dpG_start h
  have HDGS : Hid (∀ i k x q y, (ranksN (xs ++ ys)).getD i 0 ≤ x + 1 → (if q = k + 1 ∧ y = x + 1 then IntKind.i64.wrap (dpG (ranksN (xs ++ ys)) i (k + 1) (x + 1) (k + 1) (x + 1) + dpG (ranksN (xs ++ ys)) i (k + 1) (x + 1) k (x + 1 - (ranksN (xs ++ ys)).getD i 0)) else dpG (ranksN (xs ++ ys)) i (k + 1) (x + 1) q y) = dpG (ranksN (xs ++ ys)) i (k + 1) x q y) := Lib.hid fun i k x q y h => dpG_step h
  have HDGE : Hid (∀ i k x q y, x < (ranksN (xs ++ ys)).getD i 0 → dpG (ranksN (xs ++ ys)) i (k + 1) x q y = dpM (ranksN (xs ++ ys)) i k q y) := Lib.hid fun i k x q y h => dpG_end h
  have HDME : Hid (∀ i q y, dpM (ranksN (xs ++ ys)) i 0 q y = way (ranksN (xs ++ ys)) (i + 1) q y) := Lib.hid fun i q y => dpM_end
  have HW0 : Hid (∀ q y, way (ranksN (xs ++ ys)) 0 q y = if q = 0 ∧ y = 0 then 1 else 0) := Lib.hid fun q y => rfl
  have HPS : Hid (∀ x, IntKind.i64.wrap (IntKind.i64.wrap (sumF (way (ranksN (xs ++ ys)) (ranksN (xs ++ ys)).length xs.length) x) + way (ranksN (xs ++ ys)) (ranksN (xs ++ ys)).length xs.length x) = IntKind.i64.wrap (sumF (way (ranksN (xs ++ ys)) (ranksN (xs ++ ys)).length xs.length) (x + 1))) := Lib.hid fun x => part_sum _ x
  have HP0 : Hid (IntKind.i64.wrap (sumF (way (ranksN (xs ++ ys)) (ranksN (xs ++ ys)).length xs.length) 0) = 0) := Lib.hid rfl
  have HR1 := Lib.hid h
  have HR2 := Lib.hid h'
  unfold rkOut at HRK
  unfold ilOut at HCC
  have hN : (ranksN (xs ++ ys)).length ≤ 40 := by omega
  have hT : (ranksN (xs ++ ys)).sum ≤ 1048576 := by omega
  rw [hlen, ← hrl] at HRK HCC
  clear h h' hb hlen hrs hrl HSA
  generalize sumF (way (ranksN (xs ++ ys)) (ranksN (xs ++ ys)).length xs.length) = sf at *
  generalize rankTailB xs ys = tail at *
  generalize rankSumB xs ys = own at *
  generalize pas (xs.length + ys.length) xs.length = ch at *
  generalize way (ranksN (xs ++ ys)) = wy at *
  generalize dpM (ranksN (xs ++ ys)) = dm at *
  generalize dpG (ranksN (xs ++ ys)) = dg at *
  generalize (ranksN (xs ++ ys)).sum = T at *
  generalize (ranksN (xs ++ ys)).length = N at *
  generalize ranksN (xs ++ ys) = rs at *
  generalize xs ++ ys = zs at *
  clear xy y1 y2 hy
  go_enter Try.func18, Try.ntmps18
  go_upto_region 6 with (first
    | (go_at_call 43; refine H.out.mono ?_; rintro e w1 ⟨rfl, hb1⟩; have B1 := Lib.hid hb1; clear hb1)
    | (go_at_call 45; refine (HCC.out _ (HR1.out.at_ B1.out) (HR2.out.at_ B1.out)).mono ?_; rintro e w2 ⟨A2, c2, rfl, ho2, hb2⟩; have O2 := Lib.hid ho2; have B2 := Lib.hid (below_next B1.out hb2); clear ho2 hb2)
    | (go_at_call 44; refine (HRK.out _ _ _ (Rd.of_own O2.out)).mono ?_; rintro e w3 ⟨A3, c3, rfl, ho3, hb3⟩; have O3 := Lib.hid ho3; have B3 := Lib.hid (below_next B2.out hb3); clear ho3 hb3)
    | (go_at_call 46; refine (HTO.out _ _ _ (Rd.of_own O3.out)).mono ?_; rintro e w4 ⟨rfl, rfl⟩))
  have HAT := Lib.hid (HNV.out A3 w3 (Rd.of_own O3.out))
  clear HNV O2 O3 B1 B2 H HCC HRK HTO HR1 HR2
  generalize xs.length = many at *
  obtain ⟨iA, hiA, hzA0, hzA1, hzA2⟩ := info_parts info_sl
  have hmkA := run_make_row (P := Try.prog) 60 22 iA (.slice none 0 0) Try.underlying60 hiA hzA0 hzA1 rfl .i64 .i64 (many + 1) (by rw [hzA2]; omega) (by omega)
  push_cast at hmkA
  obtain ⟨iB, hiB, hzB0, hzB1, hzB2⟩ := info_parts info_i64
  have hmkB := run_make_row (P := Try.prog) 22 2 iB (.int .i64 0) Try.underlying22 hiB hzB0 hzB1 rfl .i64 .i64 (T + 1) (by rw [hzB2]; omega) (by omega)
  push_cast at hmkB
  clear hiA hzA0 hzA1 hzA2 hiB hzB0 hzB1 hzB2
  have hm1 : IntKind.i64.wrap ((many : Int) + 1) = (many : Int) + 1 := IntWalk.i64_in _ (by omega)
  have hT1 : IntKind.i64.wrap ((T : Int) + 1) = (T : Int) + 1 := IntWalk.i64_in _ (by omega)
  have START := Lib.hid (show MI (w3.alloc (.cells (madeCells #[.slice none 0 0] (many + 1)) 22)) w3.heap.size (many + 1) w3.heap.size 0 (fun _ => 0) T (fun _ _ => 0) ∧ Below w3.heap.size w3 (w3.alloc (.cells (madeCells #[.slice none 0 0] (many + 1)) 22)) from ⟨MI.start w3 _ _ _, below_al (Below.refl _ _) _⟩)
  go_upto_region 7 with fail
  generalize World.alloc w3 _ = W1 at *
  go_wp2_with fail
  go_loopw [12] (fun iv wr => ∃ (k : Nat) (bl : Nat → Nat), k ≤ many + 1 ∧ iv = .int .i64 k ∧ MI wr w3.heap.size (many + 1) w3.heap.size k bl T (fun _ _ => 0) ∧ Below w3.heap.size w3 wr) (fun iv _ => many + 1 - (intOf iv).toNat)
  case atStart => exact ⟨0, _, Nat.zero_le _, rfl, START.out.1, START.out.2⟩
  case round =>
    clear START
    obtain ⟨k, bl, hk, rfl, hm, hb⟩ := hrel
    rename World => wr
    have MM := Lib.hid hm
    have B := Lib.hid hb
    have hbz := hb.size
    clear hm hb
    by_cases hkm : k < many + 1
    · have y0 := MM.out.o.cell hkm
      rw [if_neg (Nat.lt_irrefl k)] at y0
      have f0 := MM.out.o.frozen k
      have hR := MM.out.ltR
      have P9 := Lib.hid (MM.out.push hbz)
      have B9 : Hid (Below w3.heap.size w3 ((wr.setCell ⟨w3.heap.size, k, none⟩ (.slice (some ⟨wr.heap.size, 0, none⟩) (T + 1) (T + 1))).alloc (.cells (madeCells #[.int .i64 0] (T + 1)) 2))) := Lib.hid (below_al (below_set B.out ⟨w3.heap.size, k, none⟩ _ (Nat.le_refl _)) _)
      have y1 := keepC (below_al (Below.refl wr.heap.size wr) (.cells (madeCells #[.int .i64 0] (T + 1)) 2)) y0
      have f1 : (wr.alloc (.cells (madeCells #[.int .i64 0] (T + 1)) 2)).frozen? ⟨w3.heap.size, k, none⟩ = false := ((below_al (Below.refl wr.heap.size wr) (.cells (madeCells #[.int .i64 0] (T + 1)) 2)).frozen (p := ⟨_, k, none⟩) hR).trans f0
      have hki : (k : Int) < (many : Int) + 1 := by omega
      have hcond : (k : Int) ≤ (many : Int) := by omega
      go_wp2_with fail
      exact ⟨⟨k + 1, _, by omega, by go_num, P9.out, B9.out⟩, by simp [intOf]; omega⟩
    · obtain rfl : k = many + 1 := by omega
      have y0 := MM.out.row (show 0 < many + 1 by omega) (Nat.le_refl _)
      have y1 := MM.out.cell (q := 0) (x := 0) (by omega) (by omega)
      have f0 := (MM.out.m 0 (by omega)).frozen 0
      have HLO := Lib.hid (MM.out.lo 0 (by omega))
      have M1 : Hid (MI (wr.setCell ⟨bl 0, 0, none⟩ (.int .i64 1)) w3.heap.size (many + 1) w3.heap.size (many + 1) bl T (fun q y => wy 0 q y)) := Lib.hid ((MM.out.set (k := 0) (x := 0) (by omega) 1).congr fun q y _ _ => (HW0.out q y).symm)
      have B1 := Lib.hid (below_set B.out ⟨bl 0, 0, none⟩ (.int .i64 1) HLO.out)
      have hcond : ¬ ((many : Int) + 1 ≤ (many : Int)) := by omega
      clear MM B HLO
      generalize hb0 : bl 0 = b0 at *
      clear hb0
      go_upto_region 12 with fail
      generalize World.setCell wr _ _ = W5 at *
      clear y0 y1 f0
      go_wp2_with fail
      go_loopw [13] (fun iv wq => ∃ i : Nat, i ≤ N ∧ iv = .int .i64 i ∧ MI wq w3.heap.size (many + 1) w3.heap.size (many + 1) bl T (fun q y => wy i q y) ∧ Below w3.heap.size w3 wq) (fun iv _ => N - (intOf iv).toNat)
      case atStart => exact ⟨0, Nat.zero_le _, rfl, M1.out, B1.out⟩
      case round =>
        clear M1 B1
        obtain ⟨i, hi, rfl, hm, hb⟩ := hrel
        rename World => wq
        have MM := Lib.hid hm
        have B := Lib.hid hb
        clear hm hb
        by_cases hiN : i < N
        · obtain ⟨b, off, rfl, hat⟩ := HAT.out i hiN
          have HA := Lib.hid hat
          obtain ⟨hr1, hr2⟩ := HRP.out i hiN
          have M0 : Hid (MI wq w3.heap.size (many + 1) w3.heap.size (many + 1) bl T (fun q y => dm i many q y)) := Lib.hid (MM.out.congr fun q y hq _ => HDM0.out i q y (by omega))
          have GS := Lib.hid fun k x q y => HDGS.out i k x q y
          have GE := Lib.hid fun k x q y => HDGE.out i k x q y
          have G0 := Lib.hid fun K q y => HDG0.out i K q y
          have ME := Lib.hid fun q y => HDME.out i q y
          clear hat MM HDM0 HDGS HDGE HDG0 HDME HRP
          generalize hr : rs.getD i 0 = r at *
          clear hr
          go_wp2_with fail
          go_loopw [14] (fun kv wk => ∃ k : Nat, k ≤ many ∧ kv = .int .i64 k ∧ MI wk w3.heap.size (many + 1) w3.heap.size (many + 1) bl T (fun q y => dm i k q y) ∧ Below w3.heap.size w3 wk) (fun kv _ => (intOf kv).toNat)
          case atStart => exact ⟨many, Nat.le_refl _, rfl, M0.out, B.out⟩
          case round =>
            clear M0 B
            obtain ⟨k, hk, rfl, hm, hb⟩ := hrel
            rename World => wk
            have MM := Lib.hid hm
            have B := Lib.hid hb
            clear hm hb
            by_cases hk0 : 0 < k
            · obtain ⟨k1, rfl⟩ : ∃ k1, k = k1 + 1 := ⟨k - 1, by omega⟩
              have M0 : Hid (MI wk w3.heap.size (many + 1) w3.heap.size (many + 1) bl T (fun q y => dg i (k1 + 1) T q y)) := Lib.hid (MM.out.congr fun q y _ hy => G0.out (k1 + 1) q y hy)
              have hkw : IntKind.i64.wrap (((k1 + 1 : Nat) : Int) - 1) = (k1 : Int) := by rw [show ((k1 + 1 : Nat) : Int) - 1 = (k1 : Int) by omega]; exact IntWalk.i64_in _ (by omega)
              have hk1m : (k1 : Int) < (many : Int) + 1 := by omega
              have hkpm : ((k1 + 1 : Nat) : Int) < (many : Int) + 1 := by omega
              have hkp0 : (0 : Int) < ((k1 + 1 : Nat) : Int) := by omega
              have hkp1 : (0 : Int) ≤ ((k1 + 1 : Nat) : Int) := by omega
              have S9 : Hid (∀ (W : World) (x1 : Nat), r ≤ x1 + 1 → MI W w3.heap.size (many + 1) w3.heap.size (many + 1) bl T (fun q y => dg i (k1 + 1) (x1 + 1) q y) → MI (W.setCell ⟨bl (k1 + 1), x1 + 1, none⟩ (.int .i64 (IntKind.i64.wrap (dg i (k1 + 1) (x1 + 1) (k1 + 1) (x1 + 1) + dg i (k1 + 1) (x1 + 1) k1 (x1 + 1 - r))))) w3.heap.size (many + 1) w3.heap.size (many + 1) bl T (fun q y => dg i (k1 + 1) x1 q y)) := Lib.hid fun W x1 hx1 hM => (hM.set (k := k1 + 1) (x := x1 + 1) (by omega) _).congr fun q y _ _ => GS.out k1 x1 q y hx1
              have E9 : Hid (∀ (W : World) (x : Nat), x < r → MI W w3.heap.size (many + 1) w3.heap.size (many + 1) bl T (fun q y => dg i (k1 + 1) x q y) → MI W w3.heap.size (many + 1) w3.heap.size (many + 1) bl T (fun q y => dm i k1 q y)) := Lib.hid fun W x hx hM => hM.congr fun q y _ _ => GE.out k1 x q y hx
              clear MM GS GE G0 ME
              generalize hkp : k1 + 1 = kp at *
              have HKP := Lib.hid hkp
              clear hkp
              go_wp2_with fail
              go_loopw [15] (fun xv wz => ∃ x : Nat, x ≤ T ∧ xv = .int .i64 x ∧ MI wz w3.heap.size (many + 1) w3.heap.size (many + 1) bl T (fun q y => dg i kp x q y) ∧ Below w3.heap.size w3 wz) (fun xv _ => (intOf xv).toNat)
              case atStart => exact ⟨T, Nat.le_refl _, rfl, M0.out, B.out⟩
              case round =>
                clear M0 B
                obtain ⟨x, hx', rfl, hm, hb⟩ := hrel
                rename World => wz
                have MM := Lib.hid hm
                have B := Lib.hid hb
                clear hm hb
                have y0 := HA.out wz B.out
                by_cases hxr : r ≤ x
                · obtain ⟨x1, rfl⟩ : ∃ x1, x = x1 + 1 := ⟨x - 1, by omega⟩
                  have y1 := MM.out.row (q := kp) (by omega) (Nat.le_refl _)
                  have y2 := MM.out.cell (q := kp) (x := x1 + 1) (by omega) hx'
                  have y3 := MM.out.row (q := k1) (by omega) (Nat.le_refl _)
                  have y4 := MM.out.cell (q := k1) (x := x1 + 1 - r) (by omega) (by omega)
                  have f0 := (MM.out.m kp (by omega)).frozen (x1 + 1)
                  have HLO := Lib.hid (MM.out.lo kp (by omega))
                  have M9 := Lib.hid (S9.out wz x1 hxr MM.out)
                  have hcond : (r : Int) ≤ ((x1 + 1 : Nat) : Int) := by omega
                  have hxw : IntKind.i64.wrap (((x1 + 1 : Nat) : Int) - (r : Int)) = ((x1 + 1 - r : Nat) : Int) := by rw [show ((x1 + 1 : Nat) : Int) - (r : Int) = ((x1 + 1 - r : Nat) : Int) by omega]; exact IntWalk.i64_in _ (by omega)
                  have hxm : IntKind.i64.wrap (((x1 + 1 : Nat) : Int) - 1) = (x1 : Int) := by rw [show ((x1 + 1 : Nat) : Int) - 1 = (x1 : Int) by omega]; exact IntWalk.i64_in _ (by omega)
                  have hxT : ((x1 + 1 : Nat) : Int) < (T : Int) + 1 := by omega
                  have hxT' : ((x1 + 1 - r : Nat) : Int) < (T : Int) + 1 := by omega
                  have hx0 : (0 : Int) ≤ ((x1 + 1 : Nat) : Int) := by omega
                  have hiNi : (i : Int) < (N : Int) := by omega
                  clear MM S9 E9 HA
                  generalize hxq : x1 + 1 - r = xq at *
                  have HXQ := Lib.hid hxq
                  clear hxq
                  generalize hxp : x1 + 1 = xp at *
                  have HXP := Lib.hid hxp
                  clear hxp
                  generalize bl kp = bk at *
                  generalize bl k1 = bj at *
                  generalize dg i kp xp kp xp = v1 at *
                  generalize dg i kp xp k1 xq = v2 at *
                  have hwv : IntKind.i64.wrap (v1 + v2) = IntKind.i64.wrap (v1 + v2) := rfl
                  generalize hvv : IntKind.i64.wrap (v1 + v2) = v at *
                  clear hwv
                  have B9 := Lib.hid (below_set B.out ⟨bk, xp, none⟩ (.int .i64 v) HLO.out)
                  go_wp2_with fail
                  go_region
                  generalize World.setCell wz _ _ = w9 at *
                  have R9 := Lib.hid (M9.out.heap (W' := w9.drew) rfl)
                  have B8 := Lib.hid (below_dr B9.out)
                  clear M9 B9
                  generalize w9.drew = w8 at *
                  go_wp2_with fail
                  go_roundw
                  case rel => exact ⟨x1, by have := HXP.out; omega, by go_num, R9.out, B8.out⟩
                  case measure => have := HXP.out; simp [intOf]; omega
                · have M9 := Lib.hid (E9.out wz x (by omega) MM.out)
                  have hcond : ¬ ((r : Int) ≤ (x : Int)) := by omega
                  clear MM S9 E9 HA
                  go_wp2_with fail
                  go_roundw
                  case rel => exact ⟨k1, by have := HKP.out; omega, by go_num, M9.out, B.out⟩
                  case measure => have := HKP.out; simp [intOf]; omega
            · obtain rfl : k = 0 := by omega
              have M9 : Hid (MI wk w3.heap.size (many + 1) w3.heap.size (many + 1) bl T (fun q y => wy (i + 1) q y)) := Lib.hid (MM.out.congr fun q y _ _ => ME.out q y)
              clear MM
              go_wp2_with fail
              go_roundw
              case rel => exact ⟨i + 1, by omega, by go_num, M9.out, B.out⟩
              case measure => simp [intOf]; omega
        · obtain rfl : i = N := by omega
          have y0 := MM.out.row (q := many) (by omega) (Nat.le_refl _)
          have HC0 := Lib.hid fun x hx => MM.out.cell (q := many) (x := x) (by omega) hx
          have hmm : (many : Int) < (many : Int) + 1 := by omega
          clear MM HDM0 HDG0 HDGS HDGE HDME HAT HRP
          generalize wy i many = wv at *
          go_wp2_with fail
          go_loopw [16, 17] (fun pv xv wk => ∃ x : Nat, x ≤ own + 1 ∧ xv = .int .i64 x ∧ pv = .int .i64 (IntKind.i64.wrap (sf x)) ∧ wk = wq) (fun _ xv _ => own + 1 - (intOf xv).toNat)
          case atStart => exact ⟨0, Nat.zero_le _, rfl, by rw [HP0.out], rfl⟩
          case round =>
            obtain ⟨x, hx', rfl, rfl, rfl⟩ := hrel
            by_cases hxo : x ≤ own
            · have y1 := HC0.out x (by omega)
              have hcond : (x : Int) ≤ (own : Int) := by omega
              have hxT : (x : Int) < (T : Int) + 1 := by omega
              have HS := Lib.hid (HPS.out x)
              go_wp2_with fail
              go_roundw
              case rel => exact ⟨x + 1, by omega, by go_num, by simp only [w64]; rw [← HS.out], trivial⟩
              case measure => simp [intOf]; omega
            · obtain rfl : x = own + 1 := by omega
              have hcond : ¬ ((own : Int) + 1 ≤ (own : Int)) := by omega
              rw [HT.out]
              go_wp2_with (go_at_call 47; refine (HCH.out _).mono ?_; rintro e w6 ⟨rfl, hb6⟩; have B7 := Lib.hid (below_next B.out hb6); clear hb6)
              go_ret3
              exact ⟨rfl, below_next B3.out B7.out⟩
end Go.Proofs.Ytmpnfjajlmafgaa
