/-
  spec.ReadSeed, impl.ReadSeed.
-/
import Derived.Test.YtklkgacgmcnlnaaDoorRs4
namespace Go.Proofs.YtklkgacgmcnlnaaDoor
open Go Go.RowKit

set_option maxHeartbeats 800000 in
theorem specReadSeed_any (s : ByteArray) (w : World) (hs : s.size ≤ 1048576) : Calls Tryd.prog 24 #[.string s] w (RsOut s w) := by
  have H := Lib.hid fun w => l08ReadSeed_any s w hs
  unfold RsOut sdV at *
  generalize rsR s = RR at *
  generalize rsOk s = ok at *
  obtain ⟨rk, ra, rb⟩ := RR
  dsimp only at *
  go_enter Tryd.func24, Tryd.ntmps24
  go_wp2_with fail
  generalize hW1 : World.alloc w _ = w1
  have hb1 : Below w.heap.size w w1 := by rw [← hW1]; exact below_al (Below.refl _ _) _
  have X1 : B3 w1 w.heap.size (.int .i64 0) (.int .u64 0) (.int .u64 0) := by rw [← hW1]; simp [B3, go_sem]
  clear hW1
  refine (H.out _).mono ?_
  rintro e w2 ⟨rfl, hb2⟩
  have X2 := X1.keep hb2
  have B2 := Lib.hid (below_next hb1 hb2)
  clear hb1 X1 hb2
  obtain ⟨⟨x0, x1, x2⟩, xf⟩ := X2
  go_wp2_with fail
  refine bodyPost_ret (v := .tuple #[.agg #[.int .i64 rk, .int .u64 ra, .int .u64 rb], .bool ok]) (by simp [results, Tryd.results24, go_sem, x0, x1, x2]) rfl ⟨rfl, ?_⟩
  exact below_set (below_set (below_set B2.out _ _ (by simp)) _ _ (by simp)) _ _ (by simp)
theorem strs_cell {w : World} {ws : List ByteArray} {k : Nat} (h : k < ws.length) : (w.alloc (.cells (ws.map Value.string).toArray 9)).cell? ⟨w.heap.size, k, none⟩ = some (.string ws[k]) := word_cell h
set_option maxRecDepth 100000 in
set_option maxHeartbeats 6400000 in
theorem ReadSeed_any (s : ByteArray) (w : World) (hs : s.size ≤ 1048576) (he : Env w) (hg : Bru w) : Calls Tryd.prog 25 #[.string s] w (RsOut s w) := by
  obtain ⟨_, ⟨mx, hmx⟩, _, _⟩ := id he
  have HSP := Lib.hid fun w (h : w.cell? ⟨1, 0, none⟩ = some (.int .i64 mx)) => Tryd.strings_Split s semiS mx w (by omega) h (by decide)
  have HWC : Lib.splitB semiS 0 (Lib.countB s semiS) s = semi s := rfl
  have HWL := semi_len s
  rw [HWC, ← HWL] at HSP
  clear HWC HWL
  have HN := Lib.hid fun (h : rsOk s = false) W' hb => RsOut.no (w := w) (w' := W') h hb
  have hfew : (semi s).length ≤ 1048577 := by rw [semi_len]; have := Lib.countB_le semiS (by decide) _ s (Nat.le_refl _); omega
  have HTB := Lib.hid he
  have HG := Lib.hid hg
  have HMX := Lib.hid hmx
  have hcm : semiS = ⟨#[59]⟩ := rfl
  rw [hcm] at HSP
  clear hcm he hg hmx
  by_cases h3 : (semi s).length = 3
  · obtain ⟨p0, p1, p2, hp⟩ := three_of h3
    have HR0 := Lib.hid fun w h => ReadDecimal_any p0 w (by have := semi_size (s := s) (p := p0) (by rw [hp]; simp); omega) h
    have HR1 := Lib.hid fun w h => ParseUint_16 p1 w (by have := semi_size (s := s) (p := p1) (by rw [hp]; simp); omega) h
    have HR2 := Lib.hid fun w h => ParseUint_16 p2 w (by have := semi_size (s := s) (p := p2) (by rw [hp]; simp); omega) h
    have HOK := Lib.hid (rsOk_three hp)
    have HY := Lib.hid fun h => rsR_three hp h
    have HYES : Hid (∀ h0 : (rdV p0.data.toList).2 = true, uhB p1 = true → uhB p2 = true → (⟨(seedL (rdV p0.data.toList).1 (unL p1.data.toList) (unL p2.data.toList)).toArray⟩ : ByteArray) = s) := Lib.hid fun h0 h1 h2 => seed_yes hp h0 h1 h2
    have HBACK : Hid (∀ (k : Int) (a b : Nat), 0 ≤ k ∧ k ≤ 3 → a < 18446744073709551616 → b < 18446744073709551616 → (⟨(seedL k a b).toArray⟩ : ByteArray) = s → uhB p1 = true ∧ uhB p2 = true) := Lib.hid fun k a b hk ha hb ht => seed_back hp hk ha hb ht
    have HKB := Lib.hid (rdV_bd p0.data.toList)
    rw [hp] at HSP
    have HUB1 : Hid (uhB p1 = true → p1.size = 16 ∧ digL p1.data.toList = true ∧ uhN p1 = unL p1.data.toList) := Lib.hid fun h => by
      have h2 := h
      unfold uhB at h2
      rw [Bool.and_eq_true] at h2
      exact ⟨of_decide_eq_true h2.1, h2.2, by unfold uhN; rw [if_pos h]⟩
    have HUB2 : Hid (uhB p2 = true → p2.size = 16 ∧ digL p2.data.toList = true ∧ uhN p2 = unL p2.data.toList) := Lib.hid fun h => by
      have h2 := h
      unfold uhB at h2
      rw [Bool.and_eq_true] at h2
      exact ⟨of_decide_eq_true h2.1, h2.2, by unfold uhN; rw [if_pos h]⟩
    unfold RdOut at HR0
    unfold PxOut at HR1 HR2
    unfold RsOut sdV at *
    clear hp h3 hfew
    go_enter Tryd.func25, Tryd.ntmps25
    go_wp2_with fail
    generalize hW1 : World.alloc w _ = w1
    have hb1 : Below w.heap.size w w1 := by rw [← hW1]; exact below_al (Below.refl _ _) _
    have X1 : B3 w1 w.heap.size (.int .i64 0) (.int .u64 0) (.int .u64 0) := by rw [← hW1]; simp [B3, go_sem]
    clear hW1
    refine (HSP.out _ (keepC hb1 HMX.out)).mono ?_
    rintro e w2 ⟨rfl, hw2⟩
    have hb2 : Below w1.heap.size w1 w2 := by rw [hw2]; exact below_al (Below.refl _ _) _
    have X2 := Lib.hid (X1.keep hb2)
    have B2 := Lib.hid (below_next hb1 hb2)
    have c0 : w2.cell? ⟨w1.heap.size, 0, none⟩ = some (.string p0) := by rw [hw2]; exact strs_cell (ws := [p0, p1, p2]) (k := 0) (by simp)
    have c1 : w2.cell? ⟨w1.heap.size, 1, none⟩ = some (.string p1) := by rw [hw2]; exact strs_cell (ws := [p0, p1, p2]) (k := 1) (by simp)
    have c2 : w2.cell? ⟨w1.heap.size, 2, none⟩ = some (.string p2) := by rw [hw2]; exact strs_cell (ws := [p0, p1, p2]) (k := 2) (by simp)
    have C1 := Lib.hid c1
    have C2 := Lib.hid c2
    clear hb1 X1 hb2 hw2
    go_wp2_with fail
    refine (HR0.out _ (HTB.out.keep B2.out)).mono ?_
    rintro e w3 ⟨rfl, hb3⟩
    have X3 := Lib.hid (X2.out.keep hb3)
    have B3' := Lib.hid (below_next B2.out hb3)
    have d1 := keepC hb3 C1.out
    have D2 := Lib.hid (keepC hb3 C2.out)
    clear hb3 c0 c1 c2
    go_wp2_with fail
    refine (HR1.out _ (HTB.out.keep B3'.out)).mono ?_
    rintro e w4 ⟨v1, er1, rfl, he1, hv1, hd1, hb4⟩
    have HE1 := Lib.hid he1
    have HD1 := Lib.hid hd1
    have HV1 := Lib.hid hv1
    have X4 := Lib.hid (X3.out.keep hb4)
    have B4 := Lib.hid (below_next B3'.out hb4)
    have d2 := keepC hb4 D2.out
    clear hb4 d1 he1 hd1 hv1
    go_wp2_with fail
    refine (HR2.out _ (HTB.out.keep B4.out)).mono ?_
    rintro e w5 ⟨v2, er2, rfl, he2, hv2, hd2, hb5⟩
    have HE2 := Lib.hid he2
    have HD2 := Lib.hid hd2
    have HV2 := Lib.hid hv2
    have X5 := Lib.hid (X4.out.keep hb5)
    have B5 := Lib.hid (below_next B4.out hb5)
    clear hb5 d2 he2 hd2 hv2
    have HST := Lib.hid fun w h1 h2 => SeedText_any (rdV p0.data.toList).1 v1 v2 w HKB.out HV1.out HV2.out h1 h2
    unfold SxOut sdV at HST
    -- what is told again
    have HS : Hid (seedB (rdV p0.data.toList).1 v1 v2 = true → seedS (rdV p0.data.toList).1 v1 v2 = ⟨(seedL (rdV p0.data.toList).1 v1 v2).toArray⟩ ∧ (0 ≤ (rdV p0.data.toList).1 ∧ (rdV p0.data.toList).1 ≤ 3)) := Lib.hid fun h => ⟨by unfold seedS; rw [if_pos h], seedB_kind h⟩
    go_wp2_with fail
    generalize hW6 : World.alloc w5 _ = w6
    have b6 : Below w5.heap.size w5 w6 := by rw [← hW6]; exact below_al (Below.refl _ _) _
    have S6 : SdAt w6 w5.heap.size (rdV p0.data.toList).1 v1 v2 := by rw [← hW6]; simp [SdAt, go_sem]
    have X6 := Lib.hid (X5.out.keep b6)
    have B6 := Lib.hid (below_next B5.out b6)
    clear hW6 b6
    refine (HST.out _ (HTB.out.keep B6.out).1 (HG.out.keep B6.out)).mono ?_
    rintro e w7 ⟨rfl, hb7⟩
    have S7 := S6.keep hb7
    have X7 := X6.out.keep hb7
    have B7 := Lib.hid (below_next B6.out hb7)
    clear S6 hb7 HST HR0 HR1 HR2 HSP
    obtain ⟨⟨x0, x1, x2⟩, xf⟩ := X7
    obtain ⟨s0, s1, s2⟩ := S7
    by_cases hu : uhB p1 = true ∧ uhB p2 = true
    · obtain ⟨hu1, hu2⟩ := hu
      obtain ⟨z1, g1, n1⟩ := HUB1.out hu1
      obtain ⟨z2, g2, n2⟩ := HUB2.out hu2
      obtain ⟨rfl, rfl⟩ := HD1.out z1 g1
      obtain ⟨rfl, rfl⟩ := HD2.out z2 g2
      rw [hu1, hu2, n1, n2] at HOK
      rw [n1, n2] at HY
      have HYE := Lib.hid fun h => HYES.out h hu1 hu2
      clear z1 g1 n1 z2 g2 n2 hu1 hu2 HUB1 HUB2 HYES HBACK HE1 HE2 HD1 HD2
      generalize seedS (rdV p0.data.toList).1 (unL p1.data.toList) (unL p2.data.toList) = S at *
      generalize seedL (rdV p0.data.toList).1 (unL p1.data.toList) (unL p2.data.toList) = L at *
      generalize seedB (rdV p0.data.toList).1 (unL p1.data.toList) (unL p2.data.toList) = R at *
      generalize rdV p0.data.toList = V at *
      generalize unL p1.data.toList = a at *
      generalize unL p2.data.toList = b at *
      obtain ⟨k, b0⟩ := V
      dsimp only at *
      cases b0 with
      | false =>
        have HF := Lib.hid (HN.out (by rw [HOK.out]; rfl))
        go_wp2_with fail
        refine bodyPost_ret (v := .tuple #[.agg #[.int .i64 0, .int .u64 0, .int .u64 0], .bool false]) (by simp [results, Tryd.results25, go_sem, x0, x1, x2]) rfl (HF.out _ ?_)
        exact below_set (below_set (below_set B7.out _ _ (by simp)) _ _ (by simp)) _ _ (by simp)
      | true =>
      cases R with
      | false =>
        have HF := Lib.hid (HN.out (by rw [HOK.out]; rfl))
        go_wp2_with fail
        refine bodyPost_ret (v := .tuple #[.agg #[.int .i64 0, .int .u64 0, .int .u64 0], .bool false]) (by simp [results, Tryd.results25, go_sem, x0, x1, x2]) rfl (HF.out _ ?_)
        exact below_set (below_set (below_set B7.out _ _ (by simp)) _ _ (by simp)) _ _ (by simp)
      | true =>
        have hok : rsOk s = true := by rw [HOK.out]; rfl
        have hR := HY.out hok
        have hS : S = s := by rw [(HS.out rfl).1]; exact HYE.out rfl
        subst hS
        have HRR := Lib.hid hR
        have HKK := Lib.hid hok
        clear hR hok HN HY HOK
        go_wp2_with fail
        refine bodyPost_ret (v := .tuple #[.agg #[.int .i64 k, .int .u64 a, .int .u64 b], .bool true]) (by simp [results, Tryd.results25, go_sem, x0, x1, x2]) rfl ⟨by rw [HRR.out, HKK.out], ?_⟩
        exact below_set (below_set (below_set B7.out _ _ (by simp)) _ _ (by simp)) _ _ (by simp)
    · have hok : rsOk s = false := by
        rw [HOK.out]
        cases h1 : uhB p1 with
        | false => rw [Bool.and_false, Bool.false_and, Bool.false_and]
        | true =>
          cases h2 : uhB p2 with
          | false => rw [Bool.and_false, Bool.false_and]
          | true => exact absurd ⟨h1, h2⟩ hu
      have HF := Lib.hid (HN.out hok)
      have HSN : Hid (seedB (rdV p0.data.toList).1 v1 v2 = true → seedS (rdV p0.data.toList).1 v1 v2 ≠ s) := Lib.hid fun h e => by
        obtain ⟨hs1, hk1⟩ := HS.out h
        exact hu (HBACK.out _ _ _ hk1 HV1.out HV2.out (by rw [← hs1]; exact e))
      clear hok hu HOK HY HN HYES HBACK HUB1 HUB2 HD1 HD2 HS
      generalize seedS (rdV p0.data.toList).1 v1 v2 = S at *
      generalize seedB (rdV p0.data.toList).1 v1 v2 = R at *
      generalize rdV p0.data.toList = V at *
      obtain ⟨k, b0⟩ := V
      dsimp only at *
      cases b0 with
      | false =>
        go_wp2_with fail
        refine bodyPost_ret (v := .tuple #[.agg #[.int .i64 0, .int .u64 0, .int .u64 0], .bool false]) (by simp [results, Tryd.results25, go_sem, x0, x1, x2]) rfl (HF.out _ ?_)
        exact below_set (below_set (below_set B7.out _ _ (by simp)) _ _ (by simp)) _ _ (by simp)
      | true =>
        rcases HE1.out with rfl | ⟨N1, rfl⟩
        · rcases HE2.out with rfl | ⟨N2, rfl⟩
          · cases R with
            | false =>
              go_wp2_with fail
              refine bodyPost_ret (v := .tuple #[.agg #[.int .i64 0, .int .u64 0, .int .u64 0], .bool false]) (by simp [results, Tryd.results25, go_sem, x0, x1, x2]) rfl (HF.out _ ?_)
              exact below_set (below_set (below_set B7.out _ _ (by simp)) _ _ (by simp)) _ _ (by simp)
            | true =>
              have hne : (S.toList == s.toList) = false := by
                rw [Lib.toList_data, Lib.toList_data]
                exact beq_eq_false_iff_ne.2 fun e => HSN.out rfl (WideShapes.bytes_inj (by rw [e]))
              go_wp2_with fail
              refine bodyPost_ret (v := .tuple #[.agg #[.int .i64 0, .int .u64 0, .int .u64 0], .bool false]) (by simp [results, Tryd.results25, go_sem, x0, x1, x2]) rfl (HF.out _ ?_)
              exact below_set (below_set (below_set B7.out _ _ (by simp)) _ _ (by simp)) _ _ (by simp)
          · go_wp2_with fail
            refine bodyPost_ret (v := .tuple #[.agg #[.int .i64 0, .int .u64 0, .int .u64 0], .bool false]) (by simp [results, Tryd.results25, go_sem, x0, x1, x2]) rfl (HF.out _ ?_)
            exact below_set (below_set (below_set B7.out _ _ (by simp)) _ _ (by simp)) _ _ (by simp)
        · go_wp2_with fail
          refine bodyPost_ret (v := .tuple #[.agg #[.int .i64 0, .int .u64 0, .int .u64 0], .bool false]) (by simp [results, Tryd.results25, go_sem, x0, x1, x2]) rfl (HF.out _ ?_)
          exact below_set (below_set (below_set B7.out _ _ (by simp)) _ _ (by simp)) _ _ (by simp)
  · have HF := Lib.hid (HN.out (rsOk_len h3))
    have hne : (((semi s).length : Int) != 3) = true := by simp; omega
    have hne2 : ¬ (semi s).length = 3 := h3
    have HWS : Hid ((semi s).length = (semi s).length) := Lib.hid rfl
    generalize RsOut s w = Q at *
    clear h3 HN
    generalize semi s = ws at *
    go_enter Tryd.func25, Tryd.ntmps25
    go_wp2_with fail
    generalize hW1 : World.alloc w _ = w1
    have hb1 : Below w.heap.size w w1 := by rw [← hW1]; exact below_al (Below.refl _ _) _
    have X1 : B3 w1 w.heap.size (.int .i64 0) (.int .u64 0) (.int .u64 0) := by rw [← hW1]; simp [B3, go_sem]
    clear hW1
    refine (HSP.out _ (keepC hb1 HMX.out)).mono ?_
    rintro e w2 ⟨rfl, hw2⟩
    have hb2 : Below w1.heap.size w1 w2 := by rw [hw2]; exact below_al (Below.refl _ _) _
    have X2 := X1.keep hb2
    have B2 := Lib.hid (below_next hb1 hb2)
    clear hb1 X1 hb2 hw2
    obtain ⟨⟨x0, x1, x2⟩, xf⟩ := X2
    go_wp2_with fail
    refine bodyPost_ret (v := .tuple #[.agg #[.int .i64 0, .int .u64 0, .int .u64 0], .bool false]) (by simp [results, Tryd.results25, go_sem, x0, x1, x2]) rfl (HF.out _ ?_)
    exact below_set (below_set (below_set B2.out _ _ (by simp)) _ _ (by simp)) _ _ (by simp)
end Go.Proofs.YtklkgacgmcnlnaaDoor
