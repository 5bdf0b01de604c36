/-
  spec.DrawnTail.
-/
import Derived.Test.YtfkjnaaplhcheaaDt3
namespace Go.Proofs.Ytfkjnaaplhcheaa
open Go Go.RowKit Ieee SeedFact

theorem rw_news {W : World} {g c : Nat} {xs : List Int} (h : Rw W g c xs) : ∀ j u, (il xs)[j]? = some u → W.cell? ((⟨g, 0, none⟩ : Addr).add j) = some u := by
  intro j u hj
  obtain ⟨hjl, hju⟩ := List.getElem?_eq_some_iff.1 hj
  rw [il_len] at hjl
  rw [show ((⟨g, 0, none⟩ : Addr).add j) = ⟨g, j, none⟩ by unfold Addr.add; split <;> simp_all, h.cell hjl, ← hju, List.getD_eq_getElem?_getD, List.getElem?_eq_getElem hjl]
  simp [il]
theorem SdAt.fr {w w' : World} {b p g : Nat} {k a c : Int} (h : SdAt w b k a c) (hf : Fr p g w w') (h1 : b ≠ p) (h2 : b ≠ g) : SdAt w' b k a c := by
  obtain ⟨c0, c1, c2, c3⟩ := h
  have hb := hf.block b (lt_of_cell (a := ⟨b, 0, none⟩) c0) h1 h2
  exact ⟨(World.cell?_of_block (a := ⟨b, 0, none⟩) hb).trans c0, (World.cell?_of_block (a := ⟨b, 1, none⟩) hb).trans c1, (World.cell?_of_block (a := ⟨b, 2, none⟩) hb).trans c2, fun o => (World.frozen?_of_block (a := ⟨b, o, none⟩) hb).trans (c3 o)⟩
theorem below_fr {w w1 w2 : World} {p g : Nat} (h : Below w.heap.size w w1) (hf : Fr p g w1 w2) (hp : w.heap.size ≤ p) (hg : w.heap.size ≤ g) : Below w.heap.size w w2 :=
  ⟨hf.os.trans h.os, hf.tape.trans h.tape, hf.output.trans h.output, Nat.le_trans h.size hf.size, fun j hj => (hf.block j (Nat.lt_of_lt_of_le hj h.size) (by omega) (by omega)).trans (h.block j hj)⟩
set_option maxRecDepth 100000 in
set_option maxHeartbeats 6400000 in
theorem sDrawnTail_bad (k a b : Int) (A B : Option Addr) (xs ys : List Int) (c d : Nat) (t : Int) (w : World) (hb : 0 ≤ b ∧ b < 18446744073709551616) (hx : xs.length ≤ 1048576) (hy : ys.length ≤ 1048576) (h : Rd w w.heap.size A (il xs)) (h' : Rd w w.heap.size B (il ys))
    (hn : (seedB k a b && (sampsB xs ys && inB t 0 1000)) = false) :
    Calls Try.prog 34 #[.agg #[.int .i64 k, .int .u64 a, .int .u64 b], .slice A xs.length c, .slice B ys.length d, .int .i64 t] w (dtOut 0 (0, 0) 0 false w) := by
  have HV := Lib.hid fun (w : World) (p : Nat) (hp : SdAt w p k a b) => l02Is_any p k a b hb w hp
  have HA := Lib.hid fun (W : World) (hW : Below w.heap.size w W) => l06Both_any A B xs ys c d W hx hy (h.at_ hW) (h'.at_ hW)
  have HI := Lib.hid fun w => l00In_any t 0 1000 w
  clear h h'
  have hcase : seedB k a b = false ∨ (seedB k a b = true ∧ sampsB xs ys = false) ∨ (seedB k a b = true ∧ sampsB xs ys = true ∧ inB t 0 1000 = false) := by
    revert hn
    cases seedB k a b <;> cases sampsB xs ys <;> cases inB t 0 1000 <;> simp
  clear hn
  generalize seedB k a b = r1 at *
  generalize sampsB xs ys = r2 at *
  generalize inB t 0 1000 = r3 at *
  rcases hcase with rfl | ⟨rfl, rfl⟩ | ⟨rfl, rfl, rfl⟩
  all_goals
    go_enter Try.func34, Try.ntmps34
    go_wp2_with fail
    generalize hW1 : World.alloc (World.alloc w _) _ = W1
    have hx1 : Dx w.heap.size k a b W1 := by rw [← hW1]; simp [Dx, SdAt, go_sem]
    have HB1 : Hid (Below w.heap.size w W1) := by rw [← hW1]; exact Lib.hid (below_al (below_al (Below.refl _ _) _) _)
    clear hW1
    have HXq := Lib.hid hx1
    have HBq := HB1
    clear HB1
    refine (HV.out _ _ hx1.1).mono ?_
    rintro e w2 ⟨rfl, rfl⟩
    obtain ⟨⟨s0, s1, s2, sf⟩, ⟨z0, z1, z2, zf⟩⟩ := hx1
    go_wp2_with (first
      | (go_at_call 81; refine (HA.out _ HBq.out).mono ?_; rintro e w3 ⟨rfl, m3, rfl⟩; have HXr := HXq; have HBr := HBq; clear HXq HBq; have HXq := Lib.hid (HXr.out.keep (below_dn (Below.refl _ _) m3)); have HBq := Lib.hid (below_dn HBr.out m3); clear HXr HBr)
      | (go_at_call 82; refine (HI.out _).mono ?_; rintro e w4 ⟨rfl, m4, rfl⟩; have HXr := HXq; have HBr := HBq; clear HXq HBq; have HXq := Lib.hid (HXr.out.keep (below_dn (Below.refl _ _) m4)); have HBq := Lib.hid (below_dn HBr.out m4); clear HXr HBr))
    have hX7 := HXq.out.2.set 0 0 0
    have hB7 := below_set (below_set (below_set HBq.out ⟨w.heap.size + 1, 0, none⟩ (.int .i64 0) (by simp)) ⟨w.heap.size + 1, 1, none⟩ (.int .u64 0) (by simp)) ⟨w.heap.size + 1, 2, none⟩ (.int .u64 0) (by simp)
    try rw [World.drewN_drewN] at hX7 hB7
    generalize World.setCell (World.setCell (World.setCell _ _ _) _ _) _ _ = W7 at hX7 hB7 ⊢
    obtain ⟨y0, y1, y2, -⟩ := hX7
    refine bodyPost_ret (v := .tuple #[.agg #[.int .i64 0, .int .u64 0, .int .u64 0], .int .i64 0, .bool false]) (by simp [results, Try.results34, go_sem, y0, y1, y2]) rfl ⟨rfl, hB7⟩
set_option maxRecDepth 100000 in
set_option maxHeartbeats 6400000 in
theorem sDrawnTail_ok (k a b : Int) (A B : Option Addr) (xs ys : List Int) (c d : Nat) (T : Nat) (w : World) (hok : sdOk k a b) (hx : xs.length ≤ 1048576) (hy : ys.length ≤ 1048576) (h : Rd w w.heap.size A (il xs)) (h' : Rd w w.heap.size B (il ys))
    (hs : sampsB xs ys = true) (hT : T ≤ 1000) :
    Calls Try.prog 34 #[.agg #[.int .i64 k, .int .u64 a, .int .u64 b], .slice A xs.length c, .slice B ys.length d, .int .i64 T] w (dtOut k (tailD k (xs ++ ys) xs.length (sumZ xs xs.length) T (a, b) 0).1 ((tailD k (xs ++ ys) xs.length (sumZ xs xs.length) T (a, b) 0).2 : Nat) true w) := by
  obtain ⟨⟨x1, x2⟩, ⟨y1, y2⟩, xy⟩ := sampsB_len hs
  have hsm := sampsB_small hs
  have hsx : smallL xs := fun x hx => hsm x (List.mem_append.mpr (.inl hx))
  have HV : Hid (∀ (w : World) (p : Nat), SdAt w p k a b → Calls Try.prog 80 #[.pointer (some ⟨p, 0, none⟩)] w (fun e w' => e = .returned (.bool true) ∧ w = w')) := Lib.hid fun w p hp => by
    have h3 := l02Is_any p k a b hok.2.2 w hp
    rw [hok.1] at h3
    exact h3
  have HA : Hid (∀ W, Below w.heap.size w W → Calls Try.prog 81 #[.slice A xs.length c, .slice B ys.length d] W (Quiet (.bool true) W)) := Lib.hid fun W hW => by
    have h3 := l06Both_any A B xs ys c d W hx hy (h.at_ hW) (h'.at_ hW)
    rw [hs] at h3
    exact h3
  have HI : Hid (∀ w, Calls Try.prog 82 #[.int .i64 (T : Int), .int .i64 0, .int .i64 1000] w (Quiet (.bool true) w)) := Lib.hid fun w => by
    have h3 := l00In_any (T : Int) 0 1000 w
    rw [show inB (T : Int) 0 1000 = true from decide_eq_true ⟨by omega, by omega⟩] at h3
    exact h3
  have hlen : (xs ++ ys).length = xs.length + ys.length := List.length_append
  have HCC := Lib.hid fun (W : World) (hW : Below w.heap.size w W) => l06Joined_any A B xs ys c d W ⟨x1, x2⟩ ⟨y1, y2⟩ (h.at_ hW) (h'.at_ hW)
  unfold ilOut at HCC
  have HTX : Hid (∀ W, Below w.heap.size w W → Calls Try.prog 84 #[.slice A xs.length c, .int .i64 (xs.length : Nat)] W (fun e w' => e = .returned (.int .i64 (sumZ xs xs.length)) ∧ W = w')) := Lib.hid fun W hW => firstZ_any A xs xs.length c W (Nat.le_refl _) hx hsx (h.at_ hW)
  generalize hzs : xs ++ ys = zs at *
  generalize sumZ xs xs.length = own at *
  have HDL : Hid (∀ (s : Int × Int) p g cz W, sdOk k s.1 s.2 → SdAt W p k s.1 s.2 → Rw W g cz zs → p ≠ g → Calls Try.prog 85 #[.pointer (some ⟨p, 0, none⟩), .slice (some ⟨g, 0, none⟩) zs.length cz, .int .i64 0] W (fun e w' => e = .returned (.tuple #[]) ∧ ShufOut p k (shufI k (zs.length - 1) s zs).1 g cz (shufI k (zs.length - 1) s zs).2 W w')) := Lib.hid fun s p g cz W h1 h2 h3 h4 => l04Shuffle_any p k s g cz zs W h1 (by omega) (by omega) h2 h3 h4
  have HTO : Hid (∀ (s : Int × Int) g cz W, Rw W g cz (shufI k (zs.length - 1) s zs).2 → Calls Try.prog 84 #[.slice (some ⟨g, 0, none⟩) zs.length cz, .int .i64 (xs.length : Nat)] W (fun e w' => e = .returned (.int .i64 (sumZ (shufI k (zs.length - 1) s zs).2 xs.length)) ∧ W = w')) := Lib.hid fun s g cz W h1 => by
    have hl : (shufI k (zs.length - 1) s zs).2.length = zs.length := shufI_len _ _ _
    have h2 := firstZ_any (some ⟨g, 0, none⟩) (shufI k (zs.length - 1) s zs).2 xs.length cz W (by omega) (by omega) (shufI_small _ _ _ hsm) (rw_rd h1)
    rw [hl] at h2
    exact h2
  have HTD : Hid (∀ t s n, tailD k zs xs.length own (t+1) s n = tailD k zs xs.length own t (shufI k (zs.length - 1) s zs).1 (if own ≤ sumZ (shufI k (zs.length - 1) s zs).2 xs.length then n + 1 else n)) := Lib.hid fun t s n => tailD_succ _ _ _ _ _ _ _
  have HT0 : Hid (∀ s n, tailD k zs xs.length own 0 s n = (s, n)) := Lib.hid fun s n => tailD_zero _ _ _ _ _ _
  have HSO : Hid (∀ s, sdOk k s.1 s.2 → sdOk k (shufI k (zs.length - 1) s zs).1.1 (shufI k (zs.length - 1) s zs).1.2) := Lib.hid fun s h => shufI_ok _ _ _ h
  have HOK := Lib.hid hok
  generalize hfin : tailD k zs xs.length own T (a, b) 0 = fin at *
  have HFN := Lib.hid hfin
  have HZ := Lib.hid hlen
  clear hfin h h' hs hsm hsx hok hzs hlen
  obtain ⟨⟨fa, fb⟩, fn⟩ := fin
  go_enter Try.func34, Try.ntmps34
  go_wp2_with fail
  generalize hW1 : World.alloc (World.alloc w _) _ = W1
  have hx1 : Dx w.heap.size k a b W1 := by rw [← hW1]; simp [Dx, SdAt, go_sem]
  have HB2 : Hid (Below w.heap.size w W1) := by rw [← hW1]; exact Lib.hid (below_al (below_al (Below.refl _ _) _) _)
  clear hW1
  have HX2 := Lib.hid hx1
  refine (HV.out _ _ hx1.1).mono ?_
  rintro e w2 ⟨rfl, rfl⟩
  clear hx1
  go_wp2_with (first
    | (go_at_call 81; refine (HA.out _ HB2.out).mono ?_; rintro e w3 ⟨rfl, m3, rfl⟩)
    | (go_at_call 82; refine (HI.out _).mono ?_; rintro e w4 ⟨rfl, m4, rfl⟩))
  refine (HCC.out (W1.drewN (m3 + m4)) (below_dn HB2.out _)).mono ?_
  rintro e w5 ⟨A5, c5, rfl, ho5, hb5⟩
  have B5 := Lib.hid (below_next (below_dn HB2.out (m3 + m4)) hb5)
  have HX5 := Lib.hid ((HX2.out.keep (below_dn (Below.refl _ _) (m3 + m4))).keep hb5)
  obtain ⟨gz, rfl, hgz, hrz, hcz⟩ := own_rw ho5 (by have := HZ.out; omega) rfl
  have HRZ := Lib.hid hrz
  have hgz2 : w.heap.size + 1 < gz := by
    have q1 := HX2.out.lt
    simp at hgz
    omega
  clear ho5 hb5 hrz hgz
  go_wp2_with (go_at_call 84; refine (HTX.out _ B5.out).mono ?_; rintro e w6 ⟨rfl, rfl⟩)
  obtain ⟨i0, hi0, hz0, hz1, hz2⟩ := info_parts info_i64
  go_loopw [13, 14, 15] (fun nv iv _ wr => ∃ (i n : Nat) (s : Int × Int), iv = .int .i64 i ∧ nv = .int .i64 n ∧ i ≤ T ∧ n ≤ i ∧ sdOk k s.1 s.2 ∧ tailD k zs xs.length own (T - i) s n = ((fa, fb), fn) ∧ Dx w.heap.size k s.1 s.2 wr ∧ Rw wr gz c5 zs ∧ Below w.heap.size w wr) (fun _ iv _ _ => T - (intOf iv).toNat)
  case atStart => exact ⟨0, 0, (a, b), rfl, rfl, by omega, by omega, HOK.out, HFN.out, HX5.out, HRZ.out, B5.out⟩
  case round =>
    obtain ⟨i, n, s, rfl, rfl, hi, hn, hok, htd, hx, hrw, hbw⟩ := hrel
    rename World => wr
    have HX := Lib.hid hx
    have HR := Lib.hid hrw
    have HB' := Lib.hid hbw
    have HTDi := Lib.hid htd
    have HOKs := Lib.hid hok
    have hlt := HX.out.lt
    have hrl := HR.out.lt
    have hcase : i = T ∨ i < T := by omega
    obtain ⟨⟨s0, s1, s2, sf⟩, ⟨z0, z1, z2, zf⟩⟩ := hx
    clear htd hrw hbw hok
    rcases hcase with rfl | hlT
    · have e0 := HTDi.out
      rw [Nat.sub_self, HT0.out] at e0
      injection e0 with e1 e2
      subst e1 e2
      go_wp2_with fail
      have hX7 := HX.out.2.set k fa fb
      have hB7 := below_set (below_set (below_set HB'.out ⟨w.heap.size + 1, 0, none⟩ (.int .i64 k) (by simp)) ⟨w.heap.size + 1, 1, none⟩ (.int .u64 fa) (by simp)) ⟨w.heap.size + 1, 2, none⟩ (.int .u64 fb) (by simp)
      generalize World.setCell (World.setCell (World.setCell _ _ _) _ _) _ _ = W7 at hX7 hB7 ⊢
      obtain ⟨y0, y1, y2, -⟩ := hX7
      refine bodyPost_ret (v := .tuple #[.agg #[.int .i64 k, .int .u64 fa, .int .u64 fb], .int .i64 n, .bool true]) (by simp [results, Try.results34, go_sem, y0, y1, y2]) rfl ⟨rfl, hB7⟩
    · have hstep := HTD.out (T - (i+1)) s n
      rw [show T - (i+1) + 1 = T - i by omega, HTDi.out] at hstep
      have hto := HTO.out s
      have hso := HSO.out s HOKs.out
      have hdl := fun p g cz W q1 q2 q3 => HDL.out s p g cz W HOKs.out q1 q2 q3
      generalize shufI k (zs.length - 1) s zs = r at *
      have HDLs := Lib.hid hdl
      have HTOs := Lib.hid hto
      have HSOs := Lib.hid hso
      have HST := Lib.hid hstep
      clear hto hso hstep hdl HTD HDL HTO HSO
      obtain ⟨⟨ra, rb⟩, rl⟩ := r
      obtain ⟨sa, sb⟩ := s
      generalize hv : sumZ rl xs.length = v at *
      have HVV := Lib.hid hv
      clear hv
      have B1 := Lib.hid (below_al (Below.refl wr.heap.size wr) (.cells #[] 2))
      have O1 : Hid ((wr.alloc (.cells #[] 2)).ownsRow wr.heap.size 2 1 (.slice (some ⟨wr.heap.size, 0, none⟩) 0 0) 0 []) := Lib.hid (World.ownsRow_made wr #[] 0 (base := wr.heap.size) (e := 2) (size := 1) (Nat.le_refl _) (by unfold maxLen; omega) rfl)
      have HNEWS := Lib.hid (rw_news (HR.out.keep B1.out))
      have hzl : xs.length + ys.length = zs.length := HZ.out.symm
      have hzz := B1.out.size
      go_wp2_with (refine wpList_append_lies _ rfl _ _ _ rfl wr.heap.size 2 i0 _ 1 8 Try.underlying25 hi0 hz0 hz1 hz2 rfl (by omega) (.slice (some ⟨wr.heap.size, 0, none⟩) 0 0) 0 [] (by rfl) O1.out ⟨gz, 0, none⟩ zs.length c5 (il zs) (by rfl) (by rw [il_len, Nat.mul_one]) HNEWS.out il_one (by omega) (by unfold maxLen; omega) (by omega) (by omega) (wr.heap.size + 1) (by simp) ?_; intro g9 cap9 w9 hown9 hgrow hat hlt9; simp only [Nat.zero_add, List.nil_append] at hown9; have O9 := Lib.hid hown9; have B9 := Lib.hid (B1.out.grown hgrow B1.out.size (fun j hj => (O1.out.lt j hj).1)); clear hown9 hgrow hat)
      obtain ⟨g9', e9, hg9, hr9, hc9⟩ := own_rw O9.out (by omega) rfl
      obtain rfl : g9 = g9' := by simpa using e9
      have hX9 := HX.out.keep B9.out
      have hR9 := HR.out.keep B9.out
      have hB9 := below_next HB'.out B9.out
      refine (HDLs.out w.heap.size g9 cap9 w9 hX9.1 hr9 (by omega)).mono ?_
      rintro e w10 ⟨rfl, hs10, hr10, hf10⟩
      have HX10 : Hid (Dx w.heap.size k ra rb w10) := Lib.hid ⟨hs10, hX9.2.fr hf10 (by omega) (by omega)⟩
      have HR10 : Hid (Rw w10 gz c5 zs) := Lib.hid (hR9.block (hf10.block gz hR9.lt (by omega) (by omega)))
      have HB10 : Hid (Below w.heap.size w w10) := Lib.hid (below_fr hB9 hf10 (Nat.le_refl _) (by omega))
      have HF10 := Lib.hid (HTOs.out g9 cap9 w10 hr10)
      clear hX9 hR9 hB9 hs10 hr10 hf10 hr9 s0 s1 s2 sf z0 z1 z2 zf e9
      by_cases hov : own ≤ v
      · have e0 := HST.out
        rw [if_pos (by first | exact hov | (rw [HVV.out]; exact hov))] at e0
        have HE := Lib.hid e0
        clear e0
        go_wp2_with (go_at_call 84; refine HF10.out.mono ?_; rintro e w11 ⟨rfl, rfl⟩)
        go_roundw
        case rel => exact ⟨i + 1, n + 1, (ra, rb), by first | go_num | rfl, by first | go_num | rfl, hlT, by omega, HSOs.out, HE.out.symm, HX10.out, HR10.out, HB10.out⟩
        case measure => first | (simp [intOf]; done) | (simp [intOf]; omega)
      · have e0 := HST.out
        rw [if_neg (by first | exact hov | (rw [HVV.out]; exact hov))] at e0
        have HE := Lib.hid e0
        clear e0
        go_wp2_with (go_at_call 84; refine HF10.out.mono ?_; rintro e w11 ⟨rfl, rfl⟩)
        go_roundw
        case rel => exact ⟨i + 1, n, (ra, rb), by first | go_num | rfl, by first | go_num | rfl, hlT, by omega, HSOs.out, HE.out.symm, HX10.out, HR10.out, HB10.out⟩
        case measure => first | (simp [intOf]; done) | (simp [intOf]; omega)
end Go.Proofs.Ytfkjnaaplhcheaa
