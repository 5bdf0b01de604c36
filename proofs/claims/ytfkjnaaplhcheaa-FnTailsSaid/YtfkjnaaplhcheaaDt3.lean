/-
  impl.DrawnTail where all is well.
-/
import Derived.Test.YtfkjnaaplhcheaaDt2
namespace Go.Proofs.Ytfkjnaaplhcheaa
open Go Go.RowKit Ieee SeedFact

theorem rw_rd {W : World} {g c : Nat} {xs : List Int} (h : Rw W g c xs) : Rd W W.heap.size (some ⟨g, 0, none⟩) (il xs) := by
  intro _
  refine ⟨g, 0, rfl, h.lt, fun j hj => ?_⟩
  rw [il_len] at hj
  rw [Nat.zero_add, h.cell hj, List.getD_eq_getElem?_getD, List.getElem?_eq_getElem hj]
  simp [il]
theorem rw_rdTake {W : World} {g c : Nat} {xs : List Int} (h : Rw W g c xs) (m : Nat) : Rd W W.heap.size (some ⟨g, 0, none⟩) (il (xs.take m)) := by
  intro _
  refine ⟨g, 0, rfl, h.lt, fun j hj => ?_⟩
  rw [il_len, List.length_take] at hj
  rw [Nat.zero_add, h.cell (by omega), List.getD_eq_getElem?_getD, List.getElem?_eq_getElem (by omega)]
  simp [il]
set_option maxRecDepth 100000 in
set_option maxHeartbeats 6400000 in
theorem DrawnTail_ok (k a b : Int) (A B : Option Addr) (xs ys : List Int) (c d : Nat) (T : Nat) (w : World) (hok : sdOk k a b) (hx : xs.length ≤ 1048576) (hy : ys.length ≤ 1048576) (h : Rd w w.heap.size A (il xs)) (h' : Rd w w.heap.size B (il ys))
    (hs : sampsB xs ys = true) (hT : T ≤ 1000) :
    Calls Try.prog 17 #[.agg #[.int .i64 k, .int .u64 a, .int .u64 b], .slice A xs.length c, .slice B ys.length d, .int .i64 T] w (dtOut k (tailD k (xs ++ ys) xs.length (sumZ xs xs.length) T (a, b) 0).1 ((tailD k (xs ++ ys) xs.length (sumZ xs xs.length) T (a, b) 0).2 : Nat) true w) := by
  obtain ⟨⟨x1, x2⟩, ⟨y1, y2⟩, xy⟩ := sampsB_len hs
  have hsm := sampsB_small hs
  have hsx : smallL xs := fun x hx => hsm x (List.mem_append.mpr (.inl hx))
  have HV : Hid (∀ w, Calls Try.prog 18 #[.agg #[.int .i64 k, .int .u64 a, .int .u64 b]] w (fun e w' => e = .returned (.bool true) ∧ Below w.heap.size w w')) := Lib.hid fun w => by
    have h3 := ValidSeed_any k a b hok.2.2 w
    rw [hok.1] at h3
    exact h3
  have HA : Hid (∀ W, Below w.heap.size w W → Calls Try.prog 48 #[.slice A xs.length c, .slice B ys.length d, .int .i64 40] W (Quiet (.bool true) W)) := Lib.hid fun W hW => by
    have h3 := areSamplesOf_any A B xs ys c d W hx hy (h.at_ hW) (h'.at_ hW)
    rw [hs] at h3
    exact h3
  have HI : Hid (∀ w, Calls Try.prog 55 #[.int .i64 (T : Int), .int .i64 0, .int .i64 1000] w (Quiet (.bool true) w)) := Lib.hid fun w => by
    have h3 := within_any (T : Int) 0 1000 w
    rw [show inB (T : Int) 0 1000 = true from decide_eq_true ⟨by omega, by omega⟩] at h3
    exact h3
  have hlen : (xs ++ ys).length = xs.length + ys.length := List.length_append
  have HCC := Lib.hid fun (W : World) (hW : Below w.heap.size w W) => Concat_any W.heap.size 2 [(xs, (A, c)), (ys, (B, d))] (W.alloc (.cells #[.slice A xs.length c, .slice B ys.length d] 25)) (lq_two W A B xs ys c d (h.at_ hW) (h'.at_ hW)) (by simp [csO]; omega) (by simp)
  have hcs : (csO [(xs, (A, c)), (ys, (B, d))]).flatten = xs ++ ys := by simp [csO]
  rw [hcs] at HCC
  have HTX : Hid (∀ W, Below w.heap.size w W → Calls Try.prog 49 #[.slice A xs.length c] W (fun e w' => e = .returned (.int .i64 (sumZ xs xs.length)) ∧ W = w')) := Lib.hid fun W hW => totalZ_any A xs c W hx hsx (h.at_ hW)
  generalize hzs : xs ++ ys = zs at *
  generalize sumZ xs xs.length = own at *
  have HDL : Hid (∀ (s : Int × Int) g cz W, sdOk k s.1 s.2 → Rw W g cz zs → Calls Try.prog 58 #[.agg #[.int .i64 k, .int .u64 s.1, .int .u64 s.2], .slice (some ⟨g, 0, none⟩) zs.length cz, .int .i64 1] W (DrawnOut k (shufI k (zs.length - 1) s zs).1 (shufI k (zs.length - 1) s zs).2 W)) := Lib.hid fun s g cz W h1 h2 => drawnList_any k s _ zs cz W h1 (by omega) (by omega) (rw_rd h2)
  have HTO : Hid (∀ (s : Int × Int) g cz W, Rw W g cz (shufI k (zs.length - 1) s zs).2 → Calls Try.prog 49 #[.slice (some ⟨g, 0, none⟩) xs.length cz] W (fun e w' => e = .returned (.int .i64 (sumZ (shufI k (zs.length - 1) s zs).2 xs.length)) ∧ W = w')) := Lib.hid fun s g cz W h1 => by
    have hl : (shufI k (zs.length - 1) s zs).2.length = zs.length := shufI_len _ _ _
    have h2 := totalZ_any (some ⟨g, 0, none⟩) ((shufI k (zs.length - 1) s zs).2.take xs.length) cz W (by rw [List.length_take]; omega) (fun x hx => shufI_small _ _ _ hsm x (List.mem_of_mem_take hx)) (rw_rdTake h1 _)
    rw [sumZ_take (by omega), List.length_take, hl, show min xs.length zs.length = xs.length by omega] at h2
    exact h2
  have HTD : Hid (∀ t s n, tailD k zs xs.length own (t+1) s n = tailD k zs xs.length own t (shufI k (zs.length - 1) s zs).1 (if own ≤ sumZ (shufI k (zs.length - 1) s zs).2 xs.length then n + 1 else n)) := Lib.hid fun t s n => tailD_succ _ _ _ _ _ _ _
  have HT0 : Hid (∀ s n, tailD k zs xs.length own 0 s n = (s, n)) := Lib.hid fun s n => tailD_zero _ _ _ _ _ _
  have HSO : Hid (∀ s, sdOk k s.1 s.2 → sdOk k (shufI k (zs.length - 1) s zs).1.1 (shufI k (zs.length - 1) s zs).1.2) := Lib.hid fun s h => shufI_ok _ _ _ h
  have HSL : Hid (∀ s, (shufI k (zs.length - 1) s zs).2.length = zs.length) := Lib.hid fun s => shufI_len _ _ _
  have HOK := Lib.hid hok
  generalize hfin : tailD k zs xs.length own T (a, b) 0 = fin at *
  have HFN := Lib.hid hfin
  have HZ := Lib.hid hlen
  clear hfin h h' hs hsm hsx hcs hok hzs hlen
  obtain ⟨⟨fa, fb⟩, fn⟩ := fin
  go_enter Try.func17, Try.ntmps17
  go_wp2_with fail
  generalize hW1 : World.alloc (World.alloc w _) _ = W1
  have hx1 : Dx w.heap.size k a b W1 := by rw [← hW1]; simp [Dx, SdAt, go_sem]
  have HB1 : Hid (Below w.heap.size w W1) := by rw [← hW1]; exact Lib.hid (below_al (below_al (Below.refl _ _) _) _)
  clear hW1
  have HX1 := Lib.hid hx1
  clear hx1
  refine (HV.out _).mono ?_
  rintro e w2 ⟨rfl, hb2⟩
  have HX2 := Lib.hid (HX1.out.keep hb2)
  have HB2 := Lib.hid (below_next HB1.out hb2)
  clear hb2 HX1 HB1
  go_wp2_with (first
    | (go_at_call 48; refine (HA.out _ HB2.out).mono ?_; rintro e w3 ⟨rfl, m3, rfl⟩)
    | (go_at_call 55; refine (HI.out _).mono ?_; rintro e w4 ⟨rfl, m4, rfl⟩))
  refine (HCC.out (w2.drewN (m3 + m4)) (below_dn HB2.out _)).mono ?_
  rintro e w5 ⟨A5, c5, rfl, ho5, hb5⟩
  have B5 := Lib.hid (below_next (below_al (below_dn HB2.out (m3 + m4)) _) hb5)
  have HX5 := Lib.hid ((HX2.out.keep (below_al (below_dn (Below.refl _ _) (m3 + m4)) _)).keep hb5)
  obtain ⟨gz, rfl, hgz, hrz, hcz⟩ := own_rw ho5 (by have := HZ.out; omega) rfl
  have HRZ := Lib.hid hrz
  have hgz2 : w.heap.size + 1 < gz := by
    have q1 := HX2.out.lt
    simp at hgz
    omega
  clear ho5 hb5 hrz hgz
  go_wp2_with fail
  go_loopw [12, 13, 14, 15, 36] (fun nv _ _ _ iv wr => ∃ (i n : Nat) (s : Int × Int), iv = .int .i64 i ∧ nv = .int .i64 n ∧ i ≤ T ∧ n ≤ i ∧ sdOk k s.1 s.2 ∧ tailD k zs xs.length own (T - i) s n = ((fa, fb), fn) ∧ Dx w.heap.size k s.1 s.2 wr ∧ Rw wr gz c5 zs ∧ Below w.heap.size w wr) (fun _ _ _ _ iv _ => T - (intOf iv).toNat)
  case atStart => exact ⟨0, 0, (a, b), rfl, rfl, by omega, by omega, HOK.out, HFN.out, HX5.out, HRZ.out, B5.out⟩
  case round =>
    obtain ⟨i, n, s, rfl, rfl, hi, hn, hok, htd, hx, hrw, hbw⟩ := hrel
    rename World => wr
    have HX := Lib.hid hx
    have HR := Lib.hid hrw
    have HB' := Lib.hid hbw
    have HTDi := Lib.hid htd
    have HOKs := Lib.hid hok
    have hlt := HX.out.lt
    have hcase : i = T ∨ i < T := by omega
    obtain ⟨⟨s0, s1, s2, sf⟩, ⟨z0, z1, z2, zf⟩⟩ := hx
    clear htd hrw hbw hok
    rcases hcase with rfl | hlT
    · have e0 := HTDi.out
      rw [Nat.sub_self, HT0.out] at e0
      injection e0 with e1 e2
      subst e1 e2
      go_wp2_with fail
      have hX7 := HX.out.2.set k fa fb
      have hB7 := below_set (below_set (below_set HB'.out ⟨w.heap.size + 1, 0, none⟩ (.int .i64 k) (by simp)) ⟨w.heap.size + 1, 1, none⟩ (.int .u64 fa) (by simp)) ⟨w.heap.size + 1, 2, none⟩ (.int .u64 fb) (by simp)
      generalize World.setCell (World.setCell (World.setCell _ _ _) _ _) _ _ = W7 at hX7 hB7 ⊢
      obtain ⟨y0, y1, y2, -⟩ := hX7
      refine bodyPost_ret (v := .tuple #[.agg #[.int .i64 k, .int .u64 fa, .int .u64 fb], .int .i64 n, .bool true]) (by simp [results, Try.results17, go_sem, y0, y1, y2]) rfl ⟨rfl, hB7⟩
    · have hstep := HTD.out (T - (i+1)) s n
      rw [show T - (i+1) + 1 = T - i by omega, HTDi.out] at hstep
      have hdl := HDL.out s gz c5 wr HOKs.out HR.out
      have hto := HTO.out s
      have hso := HSO.out s HOKs.out
      have hsl := HSL.out s
      unfold DrawnOut at hdl
      rw [hsl] at hdl
      generalize shufI k (zs.length - 1) s zs = r at *
      have HDLs := Lib.hid hdl
      have HTOs := Lib.hid hto
      have HSOs := Lib.hid hso
      have HSLs := Lib.hid hsl
      have HST := Lib.hid hstep
      clear hdl hto hso hsl hstep HTD HDL HTO HSO HSL
      obtain ⟨⟨ra, rb⟩, rl⟩ := r
      obtain ⟨sa, sb⟩ := s
      generalize hv : sumZ rl xs.length = v at *
      have HVV := Lib.hid hv
      clear hv
      go_wp2_with fail
      refine HDLs.out.mono ?_
      rintro e w6 ⟨g6, c6, rfl, hg6, hc6, hr6, hb6⟩
      have HX6 := Lib.hid (HX.out.keep hb6)
      have HR6 := Lib.hid (HR.out.keep hb6)
      have HL6 := Lib.hid hr6
      have HB6 := Lib.hid (below_next HB'.out hb6)
      have hk1 : xs.length ≤ c6 := by
        have q1 : rl.length ≤ c6 := hr6.le
        have q2 : rl.length = zs.length := HSLs.out
        have q3 := HZ.out
        omega
      have hk2 : (xs.length : Int) ≤ (c6 : Int) := by omega
      have hk3 : c6 ≤ 9223372036854775807 := by
        unfold maxLen at hc6
        omega
      have hg7 : w.heap.size + 1 < g6 := by omega
      clear hb6 hr6 hg6 hc6 s0 s1 s2 sf z0 z1 z2 zf
      obtain ⟨⟨s0, s1, s2, sf⟩, ⟨z0, z1, z2, zf⟩⟩ := HX6.out
      have hlt6 := HX6.out.lt
      have hlt7 : w.heap.size < w6.heap.size := by omega
      go_wp2_with fail
      have hX7 := (HX6.out.set k ra rb).keep (below_al (Below.refl _ _) (.cells #[.int .i64 k, .int .u64 ra, .int .u64 rb] 37))
      have hR7 := (((HR6.out.other (a := ⟨w.heap.size, 0, none⟩) (by simp; omega) (.int .i64 k)).other (a := ⟨w.heap.size, 1, none⟩) (by simp; omega) (.int .u64 ra)).other (a := ⟨w.heap.size, 2, none⟩) (by simp; omega) (.int .u64 rb)).keep (below_al (Below.refl _ _) (.cells #[.int .i64 k, .int .u64 ra, .int .u64 rb] 37))
      have hL7 := (((HL6.out.other (a := ⟨w.heap.size, 0, none⟩) (by simp; omega) (.int .i64 k)).other (a := ⟨w.heap.size, 1, none⟩) (by simp; omega) (.int .u64 ra)).other (a := ⟨w.heap.size, 2, none⟩) (by simp; omega) (.int .u64 rb)).keep (below_al (Below.refl _ _) (.cells #[.int .i64 k, .int .u64 ra, .int .u64 rb] 37))
      have hB7 := below_al (below_set (below_set (below_set HB6.out ⟨w.heap.size, 0, none⟩ (.int .i64 k) (by simp)) ⟨w.heap.size, 1, none⟩ (.int .u64 ra) (by simp)) ⟨w.heap.size, 2, none⟩ (.int .u64 rb) (by simp)) (.cells #[.int .i64 k, .int .u64 ra, .int .u64 rb] 37)
      generalize World.alloc (World.setCell (World.setCell (World.setCell _ _ _) _ _) _ _) _ = W7 at hX7 hR7 hL7 hB7 ⊢
      have HX7 := Lib.hid hX7
      have HR7 := Lib.hid hR7
      have HB7 := Lib.hid hB7
      refine (HTOs.out g6 c6 W7 hL7).mono ?_
      rintro e w8 ⟨rfl, rfl⟩
      clear hX7 hR7 hL7 hB7 s0 s1 s2 sf z0 z1 z2 zf
      go_wp2_with fail
      refine (HTX.out W7 HB7.out).mono ?_
      rintro e w9 ⟨rfl, rfl⟩
      by_cases hov : own ≤ v
      · have e0 := HST.out
        rw [if_pos (by first | exact hov | (rw [HVV.out]; exact hov))] at e0
        have HE := Lib.hid e0
        clear e0
        go_wp2_with fail
        exact ⟨⟨i + 1, n + 1, (ra, rb), by go_num, by go_num, hlT, by omega, HSOs.out, HE.out.symm, HX7.out, HR7.out, HB7.out⟩, by simp [intOf]; omega⟩
      · have e0 := HST.out
        rw [if_neg (by first | exact hov | (rw [HVV.out]; exact hov))] at e0
        have HE := Lib.hid e0
        clear e0
        go_wp2_with fail
        exact ⟨⟨i + 1, n, (ra, rb), by go_num, by go_num, hlT, by omega, HSOs.out, HE.out.symm, HX7.out, HR7.out, HB7.out⟩, by simp [intOf]; omega⟩
end Go.Proofs.Ytfkjnaaplhcheaa
