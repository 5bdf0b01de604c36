/-
  spec.WalkChain.
-/
import Derived.Test.YtddaodjaeommlaaWk1
namespace Go.Proofs.Ytddaodjaeommlaa
open Go Go.RowKit Ieee

theorem Bx.moved {g : Nat} {k a b a' b' n : Int} {A : Option Addr} {m c : Nat} {W W' : World} (h : Bx g k a b n A m c W) (hs : SdTo g k a' b' W W') : Bx g k a' b' n A m c W' := by
  have hl := h.lt
  have hn : some (g + 1) ≠ some g := fun e => by injection e with e; omega
  exact ⟨hs.2, (hs.1.cell_far ⟨g + 1, 0, none⟩ (show g + 1 < W.heap.size by omega) hn).trans h.2.1, (hs.1.cell_far ⟨g + 1, 1, none⟩ (show g + 1 < W.heap.size by omega) hn).trans h.2.2.1, h.2.2.2.far hs.1 (by omega)⟩
theorem SdTo.below {g : Nat} {k a' b' : Int} {w W W' : World} (hs : SdTo g k a' b' W W') (hb : Below w.heap.size w W) (hg : w.heap.size ≤ g) : Below w.heap.size w W' := hb.grown hs.1 hb.size (fun j hj => by injection hj with hj; omega)
theorem SdTo.own {g : Nat} {k a' b' : Int} {W W' : World} {base : Nat} {e : TypeId} {n : Nat} {v : Value} {vs : List Value} (hs : SdTo g k a' b' W W') (ho : W.ownsRow base e 1 v n vs) (hg : g < base) : W'.ownsRow base e 1 v n vs :=
  ho.kept hs.1 (by
    cases hv : v.ownBlock with
    | none => exact .inl rfl
    | some q => exact .inr (fun e => by injection e with e; have := (ho.lt q hv).1; omega))

set_option maxRecDepth 100000 in
set_option maxHeartbeats 1600000 in
theorem specWalkChain_bad (k a b side i steps : Int) (A : Option Addr) (xs : List Nat) (c : Nat) (w : World) (hb0 : 0 ≤ b ∧ b < 18446744073709551616) (hx : xs.length ≤ 9223372036854775807) (h : Rd w w.heap.size A (fl xs)) (hbad : walkB k a b side xs i steps = false) :
    Calls Try.prog 64 #[.agg #[.int .i64 k, .int .u64 a, .int .u64 b], .agg #[.int .i64 side, .slice A xs.length c], .int .i64 i, .int .i64 steps] w (wkOut 0 0 0 [] false w) := by
  have HS := Lib.hid fun p w h => l02Is_any p k a b hb0 w h
  have HV := Lib.hid fun b W h0 h1 h => l07State_any b side i A xs c W hx h0 h1 h
  have HW := Lib.hid fun w => l00In_any steps 0 512 w
  unfold walkB at hbad
  have hcase : seedB k a b = false ∨ (seedB k a b = true ∧ (validB side xs && stateB side i) = false) ∨ (seedB k a b = true ∧ (validB side xs && stateB side i) = true ∧ inB steps 0 512 = false) := by
    cases h1 : seedB k a b <;> cases h2 : validB side xs <;> cases h3 : stateB side i <;> simp_all
  have HC := Lib.hid hcase
  clear hcase hbad hx hb0
  go_enter Try.func64, Try.ntmps64
  go_wp2_with fail
  generalize hW1 : World.alloc (World.alloc (World.alloc w _) _) _ = W1
  have hx1 : Bx w.heap.size k a b side A xs.length c W1 := by rw [← hW1]; simp [Bx, SdAt, go_sem]
  have HB1 : Hid (Below w.heap.size w W1) := by rw [← hW1]; exact Lib.hid (below_al (below_al (below_al (Below.refl _ _) _) _) _)
  clear hW1
  refine (HS.out _ _ hx1.1).mono ?_
  rintro e w2 ⟨rfl, rfl⟩
  have HX1 := Lib.hid hx1
  obtain ⟨⟨s0, s1, s2, sf⟩, n0, n1, ⟨z0, z1, z2, zf⟩⟩ := hx1
  rcases HC.out with h1 | ⟨h1, h2⟩ | ⟨h1, h2, h3⟩
  · rw [h1]
    clear h1 HC
    go_wp2_with fail
    refine bodyPost_ret (v := .tuple #[.agg #[.int .i64 0, .int .u64 0, .int .u64 0], .slice none 0 0, .bool false]) (by simp [results, Try.results64, go_sem, z0, z1, z2]) rfl (wkOut_none ?_)
    exact below_set (below_set (below_set HB1.out _ _ (by first | omega | (simp; omega))) _ _ (by first | omega | (simp; omega))) _ _ (by first | omega | (simp; omega))
  · rw [h1]
    rw [h2] at HV
    clear h1 h2 HC
    go_wp2_with (go_at_call 125; refine (HV.out _ _ n0 n1 (h.at_ HB1.out)).mono ?_; rintro e w3 ⟨rfl, m3, rfl⟩)
    refine bodyPost_ret (v := .tuple #[.agg #[.int .i64 0, .int .u64 0, .int .u64 0], .slice none 0 0, .bool false]) (by simp [results, Try.results64, go_sem, z0, z1, z2]) rfl (wkOut_none ?_)
    exact below_set (below_set (below_set (below_drewN HB1.out m3) _ _ (by first | omega | (simp; omega))) _ _ (by first | omega | (simp; omega))) _ _ (by first | omega | (simp; omega))
  · rw [h1]
    rw [h2] at HV
    rw [h3] at HW
    clear h1 h2 h3 HC
    go_wp2_with (first
      | (go_at_call 125; refine (HV.out _ _ n0 n1 (h.at_ HB1.out)).mono ?_; rintro e w3 ⟨rfl, m3, rfl⟩)
      | (go_at_call 101; refine (HW.out _).mono ?_; rintro e w5 ⟨rfl, m5, rfl⟩))
    refine bodyPost_ret (v := .tuple #[.agg #[.int .i64 0, .int .u64 0, .int .u64 0], .slice none 0 0, .bool false]) (by simp [results, Try.results64, go_sem, z0, z1, z2]) rfl (wkOut_none ?_)
    exact below_set (below_set (below_set (below_drewN HB1.out (m3 + m5)) _ _ (by first | omega | (simp; omega))) _ _ (by first | omega | (simp; omega))) _ _ (by first | omega | (simp; omega))

set_option maxRecDepth 100000 in
set_option maxHeartbeats 3200000 in
theorem specWalkChain_ok (k a b : Int) (n i N : Nat) (A : Option Addr) (xs : List Nat) (c : Nat) (w : World) (hb0 : 0 ≤ b ∧ b < 18446744073709551616) (hx : xs.length ≤ 9223372036854775807) (h : Rd w w.heap.size A (fl xs)) (hok : walkB k a b n xs i N = true) :
    Calls Try.prog 64 #[.agg #[.int .i64 k, .int .u64 a, .int .u64 b], .agg #[.int .i64 n, .slice A xs.length c], .int .i64 i, .int .i64 N] w (wkOut k (sdT k a b N).1 (sdT k a b N).2 (walkL xs n k a b i (N + 1)) true w) := by
  obtain ⟨n', i', N', hn', hi', hN', n1, n2, hi, hN, h1, h2, h3, h4⟩ := walkB_ok hok
  obtain rfl : n = n' := by omega
  obtain rfl : i = i' := by omega
  obtain rfl : N = N' := by omega
  have HS := Lib.hid fun p w h => l02Is_any p k a b hb0 w h
  have HV := Lib.hid fun b W h0 h1 h => l07State_any b n i A xs c W hx h0 h1 h
  have HW := Lib.hid fun w => l00In_any N 0 512 w
  rw [h1] at HS
  rw [h2, h3] at HV
  rw [h4] at HW
  obtain ⟨n', hn', -, -, hl, hp, hrw⟩ := validB_facts h2
  obtain rfl : n = n' := by omega
  have HSH : Hid (∀ t g w, SdAt w g k (sdT k a b t).1 (sdT k a b t).2 → Calls Try.prog 126 #[.pointer (some ⟨g, 0, none⟩)] w (SShareOut g k (sdT k a b t).1 (sdT k a b t).2 w)) := Lib.hid fun t g w hs => l02Share_any g k _ _ (seedB_kind h1) w hs
  have HGO : Hid (∀ t g W, Below w.heap.size w W → W.cell? ⟨g, 0, none⟩ = some (.int .i64 n) → W.cell? ⟨g, 1, none⟩ = some (.slice A xs.length c) → Calls Try.prog 127 #[.pointer (some ⟨g, 0, none⟩), .int .i64 (posT xs n k a b i t), .float .f32 (uT k a b t)] W (Quiet (.int .i64 (posT xs n k a b i (t + 1))) W)) := Lib.hid fun t g W hW c0 c1 => l07On_any g n _ _ A xs c W h2 (posT_lt hl hi t) (nU_fin _ _ _).2 c0 c1 (h.at_ hW)
  have HSD : Hid (∀ t, nA k (sdT k a b t).1 (sdT k a b t).2 = (sdT k a b (t + 1)).1 ∧ nB k (sdT k a b t).1 (sdT k a b t).2 = (sdT k a b (t + 1)).2 ∧ nU k (sdT k a b t).1 (sdT k a b t).2 = uT k a b t) := Lib.hid fun t => ⟨rfl, rfl, rfl⟩
  have HWL : Hid (∀ t, walkL xs n k a b i (t + 1) = walkL xs n k a b i t ++ [(posT xs n k a b i t : Int)]) := Lib.hid fun t => walkL_succ _ _ _ _ _ _ _
  have HLEN : Hid ((walkL xs n k a b i (N + 1)).length = N + 1) := Lib.hid (walkL_len _ _ _ _ _ _ _)
  have H0 : Hid ((sdT k a b 0) = (a, b) ∧ posT xs n k a b i 0 = i ∧ walkL xs n k a b i (0 + 1) = [(i : Int)]) := Lib.hid ⟨rfl, rfl, rfl⟩
  obtain ⟨i0, hi0, hz0, hz1, hz2⟩ := info_parts info_i64
  have HRD := Lib.hid h
  clear hok hn' hi' hN' h1 h2 h3 h4 hl hp hrw hb0 hx h
  unfold wkOut
  rw [HLEN.out]
  unfold SShareOut at HSH
  go_enter Try.func64, Try.ntmps64
  go_wp2_with fail
  generalize hW1 : World.alloc (World.alloc (World.alloc w _) _) _ = W1
  have hx1 : Bx w.heap.size k a b n A xs.length c W1 := by rw [← hW1]; simp [Bx, SdAt, go_sem]
  have HB1 : Hid (Below w.heap.size w W1) := by rw [← hW1]; exact Lib.hid (below_al (below_al (below_al (Below.refl _ _) _) _) _)
  clear hW1
  refine (HS.out _ _ hx1.1).mono ?_
  rintro e w2 ⟨rfl, rfl⟩
  have HX1 := Lib.hid hx1
  obtain ⟨⟨s0, s1, s2, sf⟩, n0, n1', ⟨z0, z1, z2, zf⟩⟩ := hx1
  go_wp2_with (first
    | (go_at_call 125; refine (HV.out _ _ n0 n1' (HRD.out.at_ HB1.out)).mono ?_; rintro e w3 ⟨rfl, m3, rfl⟩)
    | (go_at_call 101; refine (HW.out _).mono ?_; rintro e w5 ⟨rfl, m5, rfl⟩))
  have hlt4 := HX1.out.lt
  have START : Hid (WK w k a b n i xs A xs.length c 0 (.slice (some ⟨W1.heap.size, 0, none⟩) 1 1) ((W1.drewN (m3 + m5)).alloc (.cells #[.int .i64 i] 2))) := Lib.hid ⟨by rw [H0.out.1]; exact (HX1.out.dn _).keep (below_al (Below.refl _ _) _), below_al (below_drewN HB1.out _) _, _, _, rfl, by
    rw [H0.out.2.2]
    exact own_one (w := W1.drewN (m3 + m5)) (show w.heap.size + 3 ≤ W1.heap.size by omega)⟩
  clear hlt4 s0 s1 s2 sf n0 n1' z0 z1 z2 zf
  go_loopw [3, 11, 12, 13] (fun st v f _ wr => ∃ t r : Nat, t + r = N ∧ st = .int .i64 r ∧ f = .int .i64 (posT xs n k a b i t : Nat) ∧ WK w k a b n i xs A xs.length c t v wr) (fun st _ _ _ _ => (intOf st).toNat)
  case atStart => exact ⟨0, N, by omega, rfl, by rw [H0.out.2.1], START.out⟩
  case round =>
    obtain ⟨t, r, ht, rfl, rfl, hbx, hbw, A', c', rfl, hown⟩ := hrel
    rename_i wr
    have HX := Lib.hid hbx
    have HB := Lib.hid hbw
    have HO := Lib.hid hown
    obtain ⟨⟨s0, s1, s2, sf⟩, n0, n1', ⟨z0, z1, z2, zf⟩⟩ := hbx
    have hlt := HX.out.lt
    have hN' : t ≤ 512 := by omega
    have hr512 : r ≤ 512 := by omega
    have HTR := Lib.hid ht
    clear hbw hown ht
    by_cases htN : 0 < r
    · obtain ⟨q1, q2, q3⟩ := HSD.out t
      have hsh := HSH.out t w.heap.size wr HX.out.1
      rw [q1, q2, q3] at hsh
      have HSHt := Lib.hid hsh
      have HGOt := Lib.hid (HGO.out t)
      have HWLt := Lib.hid (HWL.out (t + 1))
      clear q1 q2 q3 hsh
      generalize hst : sdT k a b t = st at *
      generalize hst' : sdT k a b (t + 1) = st' at *
      have HST := Lib.hid hst'
      clear hst hst'
      obtain ⟨aT, bT⟩ := st
      obtain ⟨a', b'⟩ := st'
      generalize uT k a b t = u at *
      generalize posT xs n k a b i t = j at *
      generalize hj' : posT xs n k a b i (t + 1) = j' at *
      have HJ' := Lib.hid hj'
      clear hj'
      go_wp2_with (first
        | (go_at_call 126; refine HSHt.out.mono ?_; rintro e w6 ⟨rfl, hs6⟩; have HX6 := Lib.hid (HX.out.moved hs6); have HB6 := Lib.hid (hs6.below HB.out (Nat.le_refl _)); have HO6 := Lib.hid (hs6.own HO.out (by omega)); clear hs6 s0 s1 s2 sf n0 n1' z0 z1 z2 zf; obtain ⟨⟨s0, s1, s2, sf⟩, n0, n1', ⟨z0, z1, z2, zf⟩⟩ := HX6.out; have hl6 := HX6.out.lt)
        | (go_at_call 127; refine (HGOt.out _ _ HB6.out n0 n1').mono ?_; rintro e w8 ⟨rfl, m8, rfl⟩)
        | (refine wpList_append_lies _ rfl _ _ _ rfl (w.heap.size + 3) 2 i0 _ 1 8 Try.underlying56 hi0 hz0 hz1 hz2 rfl (by omega) (.slice A' (t + 1) c') (t + 1) (il (walkL xs n k a b i (t + 1))) (by rfl) ((own_below HO6.out (below_drewN (Below.refl _ _) m8)).alloc _) ⟨w6.heap.size, 0, none⟩ 1 1 [.int .i64 j'] (by rfl) (by rfl) (World.news_of_block (cs := #[.int .i64 j']) (t := 2) (fr := (0, 0)) (heap_alloc_new (w6.drewN m8) _)) (by simp [Value.oneCell']) (by omega) (by unfold maxLen; omega) (by omega) (by first | omega | (simp; omega)) (w6.heap.size + 1) (by simp) ?_; intro g cap w9 hown9 hgrow hat hlt9; have HX9 := Lib.hid (((HX6.out.dn m8).keep (below_al (Below.refl _ _) (.cells #[.int .i64 j'] 2))).grown hgrow (fun q hq => (HO6.out.lt q hq).1)); have HB9 := Lib.hid ((below_al (below_drewN HB6.out m8) (.cells #[.int .i64 j'] 2)).grown hgrow (by have := HB6.out.size; simp; omega) (fun q hq => by have := (HO6.out.lt q hq).1; omega)); have HO9 := Lib.hid hown9; clear hown9 hgrow hat hlt9))
      go_roundw
      case rel => exact ⟨t + 1, r - 1, by have := HTR.out; omega, by first | go_num | (congr 1; omega), by rw [HJ'.out], by rw [HST.out]; exact HX9.out, HB9.out, _, _, rfl, by rw [HWLt.out]; simpa [il] using HO9.out⟩
      case measure => simp [intOf]; omega
    · obtain rfl : r = 0 := by omega
      obtain rfl : t = N := by have := HTR.out; omega
      generalize hst : sdT k a b t = st at *
      have HST := Lib.hid hst
      clear hst
      obtain ⟨aT, bT⟩ := st
      go_wp2_with fail
      have hX7 := (HX.out.2.2.2).set k aT bT
      have hB7 := below_set (below_set (below_set HB.out ⟨w.heap.size + 1 + 1, 0, none⟩ (.int .i64 k) (by first | omega | (simp; omega))) ⟨w.heap.size + 1 + 1, 1, none⟩ (.int .u64 aT) (by first | omega | (simp; omega))) ⟨w.heap.size + 1 + 1, 2, none⟩ (.int .u64 bT) (by first | omega | (simp; omega))
      have hO7 := ownsRow_setCell_below (ownsRow_setCell_below (ownsRow_setCell_below HO.out (a := ⟨w.heap.size + 1 + 1, 0, none⟩) (show w.heap.size + 1 + 1 < w.heap.size + 3 by omega) (.int .i64 k)) (a := ⟨w.heap.size + 1 + 1, 1, none⟩) (show w.heap.size + 1 + 1 < w.heap.size + 3 by omega) (.int .u64 aT)) (a := ⟨w.heap.size + 1 + 1, 2, none⟩) (show w.heap.size + 1 + 1 < w.heap.size + 3 by omega) (.int .u64 bT)
      generalize World.setCell (World.setCell (World.setCell _ _ _) _ _) _ _ = W7 at hX7 hB7 hO7 ⊢
      clear s0 s1 s2 sf n0 n1' z0 z1 z2 zf
      obtain ⟨y0, y1, y2, -⟩ := hX7
      refine bodyPost_ret (v := .tuple #[.agg #[.int .i64 k, .int .u64 aT, .int .u64 bT], .slice A' (t + 1) c', .bool true]) (by simp [results, Try.results64, go_sem, y0, y1, y2]) rfl ⟨A', c', by rw [HST.out], own_base hO7 (by omega), hB7⟩
end Go.Proofs.Ytddaodjaeommlaa
