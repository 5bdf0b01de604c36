/-
  spec.ReadSeed, impl.ReadSeed.
-/
import Derived.Test.YtklkgacgmcnlnaaDoorRs3
import Derived.Deep.DeepCutAuto
namespace Go.Proofs.YtklkgacgmcnlnaaDoor
open Go Go.RowKit

set_option maxRecDepth 100000 in
set_option maxHeartbeats 3200000 in
theorem l08ReadSeed_any (s : ByteArray) (w : World) (hs : s.size ≤ 1048576) : Calls Tryd.prog 46 #[.string s] w (RsOut s w) := by
  have HC := Lib.hid fun w => Cs.l01Cut_any s w hs
  have HN := Lib.hid fun (h : rsOk s = false) W' hb => RsOut.no (w := w) (w' := W') h hb
  unfold Cs.cutOut at HC
  rw [semi_cut] at HC
  have hfew : (semi s).length ≤ 1048577 := by rw [semi_len]; have := Lib.countB_le semiS (by decide) _ s (Nat.le_refl _); omega
  by_cases h3 : (semi s).length = 3
  · obtain ⟨p0, p1, p2, hp⟩ := three_of h3
    have HR0 := Lib.hid fun w => l01Value_any p0 w (by have := semi_size (s := s) (p := p0) (by rw [hp]; simp); omega)
    have HR1 := Lib.hid fun w => l08Unhex_any p1 w (by have := semi_size (s := s) (p := p1) (by rw [hp]; simp); omega)
    have HR2 := Lib.hid fun w => l08Unhex_any p2 w (by have := semi_size (s := s) (p := p2) (by rw [hp]; simp); omega)
    have HOK := Lib.hid (rsOk_three hp)
    have HY := Lib.hid fun h => rsR_three hp h
    have HB2 := uhN_bd p2
    rw [hp] at HC
    have HI := Lib.hid fun p w (h : SdAt w p (rdV p0.data.toList).1 (uhN p1) (uhN p2)) => l02Is_at p 0 (rdV p0.data.toList).1 (uhN p1) (uhN p2) (by omega) w h
    unfold RdOut at HR0
    unfold UhOut at HR1 HR2
    unfold RsOut sdV at *
    clear hp h3 hfew HB2
    generalize seedB (rdV p0.data.toList).1 (uhN p1) (uhN p2) = R at *
    generalize rdV p0.data.toList = V at *
    generalize uhN p1 = a at *
    generalize uhN p2 = b at *
    generalize uhB p1 = b1 at *
    generalize uhB p2 = b2 at *
    generalize rsR s = RR at *
    generalize rsOk s = ok at *
    obtain ⟨k, b0⟩ := V
    obtain ⟨rk, ra, rb⟩ := RR
    dsimp only at *
    go_enter Tryd.func46, Tryd.ntmps46
    go_wp2_with fail
    generalize hW1 : World.alloc w _ = w1
    have hb1 : Below w.heap.size w w1 := by rw [← hW1]; exact below_al (Below.refl _ _) _
    have X1 : B3 w1 w.heap.size (.int .i64 0) (.int .u64 0) (.int .u64 0) := by rw [← hW1]; simp [B3, go_sem]
    clear hW1
    refine (HC.out _).mono ?_
    rintro e w2 ⟨A, c, rfl, ho2, hb2⟩
    have X2 := Lib.hid (X1.keep hb2)
    have B2 := Lib.hid (below_next hb1 hb2)
    obtain ⟨g0, hA⟩ : ∃ g0, A = some ⟨g0, 0, none⟩ := by
      cases A with
      | none => have := own_none ho2; simp at this
      | some a => obtain ⟨g0, rfl, _⟩ := own_some ho2; exact ⟨g0, rfl⟩
    subst hA
    have c0 : w2.cell? ⟨g0, 0, none⟩ = some (.string p0) := by rw [ho2.cellAt 0 (by simp)]; rfl
    have c1 : w2.cell? ⟨g0, 1, none⟩ = some (.string p1) := by rw [ho2.cellAt 1 (by simp)]; rfl
    have c2 : w2.cell? ⟨g0, 2, none⟩ = some (.string p2) := by rw [ho2.cellAt 2 (by simp)]; rfl
    have C1 := Lib.hid c1
    have C2 := Lib.hid c2
    clear hb1 X1 ho2 hb2
    go_wp2_with fail
    refine (HR0.out _).mono ?_
    rintro e w3 ⟨rfl, hb3⟩
    have X3 := Lib.hid (X2.out.keep hb3)
    have B3' := Lib.hid (below_next B2.out hb3)
    have d1 := keepC hb3 C1.out
    have d2 := keepC hb3 C2.out
    clear hb3 c0 c1 c2
    have z3 : w.heap.size < w3.heap.size := X3.out.lt
    go_upto_region 8 with (first
      | (go_at_call 76; (with_reducible refine (HR1.out _).mono ?_); rintro e w4 ⟨rfl, rfl⟩)
      | (go_at_call 76; (with_reducible refine (HR2.out _).mono ?_); rintro e w4 ⟨rfl, rfl⟩))
    generalize hW8 : World.alloc w3 _ = w8
    have b8 : Below w3.heap.size w3 w8 := by rw [← hW8]; exact below_al (Below.refl _ _) _
    have S8 : SdAt w8 w3.heap.size k a b := by rw [← hW8]; simp [SdAt, go_sem]
    have X8 := X3.out.keep b8
    have B8 := Lib.hid (below_next B3'.out b8)
    clear hW8 b8 d1 d2
    have S8' := Lib.hid S8
    obtain ⟨⟨x0, x1, x2⟩, xf⟩ := X8
    obtain ⟨s0, s1, s2⟩ := S8
    have hno : ok = false → rk = 0 ∧ ra = 0 ∧ rb = 0 := fun h => by have := (HN.out h w (Below.refl _ _)).1; simp at this; exact ⟨this.1.1.symm, by omega, by omega⟩
    have HNO := Lib.hid hno
    clear hno
    cases b0 with
    | false =>
      obtain rfl : ok = false := by rw [HOK.out]; rfl
      obtain ⟨rfl, rfl, rfl⟩ := HNO.out rfl
      go_wp2_with fail
      refine bodyPost_ret (v := .tuple #[.agg #[.int .i64 0, .int .u64 0, .int .u64 0], .bool false]) (by simp [results, Tryd.results46, go_sem, x0, x1, x2]) rfl ⟨rfl, ?_⟩
      exact below_set (below_set (below_set B8.out _ _ (by simp)) _ _ (by simp)) _ _ (by simp)
    | true =>
    cases b1 with
    | false =>
      obtain rfl : ok = false := by rw [HOK.out]; rfl
      obtain ⟨rfl, rfl, rfl⟩ := HNO.out rfl
      go_wp2_with fail
      refine bodyPost_ret (v := .tuple #[.agg #[.int .i64 0, .int .u64 0, .int .u64 0], .bool false]) (by simp [results, Tryd.results46, go_sem, x0, x1, x2]) rfl ⟨rfl, ?_⟩
      exact below_set (below_set (below_set B8.out _ _ (by simp)) _ _ (by simp)) _ _ (by simp)
    | true =>
    cases b2 with
    | false =>
      obtain rfl : ok = false := by rw [HOK.out]; rfl
      obtain ⟨rfl, rfl, rfl⟩ := HNO.out rfl
      go_wp2_with fail
      refine bodyPost_ret (v := .tuple #[.agg #[.int .i64 0, .int .u64 0, .int .u64 0], .bool false]) (by simp [results, Tryd.results46, go_sem, x0, x1, x2]) rfl ⟨rfl, ?_⟩
      exact below_set (below_set (below_set B8.out _ _ (by simp)) _ _ (by simp)) _ _ (by simp)
    | true =>
    cases R with
    | false =>
      obtain rfl : ok = false := by rw [HOK.out]; rfl
      obtain ⟨rfl, rfl, rfl⟩ := HNO.out rfl
      go_wp2_with (go_at_call 27; refine (HI.out _ _ S8'.out).mono ?_; rintro e w9 ⟨rfl, rfl⟩)
      refine bodyPost_ret (v := .tuple #[.agg #[.int .i64 0, .int .u64 0, .int .u64 0], .bool false]) (by simp [results, Tryd.results46, go_sem, x0, x1, x2]) rfl ⟨rfl, ?_⟩
      exact below_set (below_set (below_set B8.out _ _ (by simp)) _ _ (by simp)) _ _ (by simp)
    | true =>
      obtain rfl : ok = true := by rw [HOK.out]; rfl
      have hy := HY.out rfl
      injection hy with y1 y2 y3
      subst y1 y2 y3
      go_wp2_with (go_at_call 27; refine (HI.out _ _ S8'.out).mono ?_; rintro e w9 ⟨rfl, rfl⟩)
      refine bodyPost_ret (v := .tuple #[.agg #[.int .i64 rk, .int .u64 ra, .int .u64 rb], .bool true]) (by simp [results, Tryd.results46, go_sem, x0, x1, x2]) rfl ⟨rfl, ?_⟩
      exact below_set (below_set (below_set B8.out _ _ (by simp)) _ _ (by simp)) _ _ (by simp)
  · have HF := Lib.hid (HN.out (rsOk_len h3))
    have hne : (((semi s).length : Int) != 3) = true := by simp; omega
    have hne2 : ¬ (semi s).length = 3 := h3
    generalize RsOut s w = Q at *
    clear h3 HN
    generalize (semi s).length = n at *
    go_enter Tryd.func46, Tryd.ntmps46
    go_wp2_with fail
    generalize hW1 : World.alloc w _ = w1
    have hb1 : Below w.heap.size w w1 := by rw [← hW1]; exact below_al (Below.refl _ _) _
    have X1 : B3 w1 w.heap.size (.int .i64 0) (.int .u64 0) (.int .u64 0) := by rw [← hW1]; simp [B3, go_sem]
    clear hW1
    refine (HC.out _).mono ?_
    rintro e w2 ⟨A, c, rfl, ho2, hb2⟩
    have X2 := X1.keep hb2
    have B2 := Lib.hid (below_next hb1 hb2)
    clear hb1 X1 ho2 hb2
    obtain ⟨⟨x0, x1, x2⟩, xf⟩ := X2
    go_wp2_with fail
    refine bodyPost_ret (v := .tuple #[.agg #[.int .i64 0, .int .u64 0, .int .u64 0], .bool false]) (by simp [results, Tryd.results46, go_sem, x0, x1, x2]) rfl (HF.out _ ?_)
    exact below_set (below_set (below_set B2.out _ _ (by simp)) _ _ (by simp)) _ _ (by simp)
end Go.Proofs.YtklkgacgmcnlnaaDoor
