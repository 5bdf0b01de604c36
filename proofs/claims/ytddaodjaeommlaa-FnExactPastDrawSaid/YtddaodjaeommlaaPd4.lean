/-
  spec.PastDraw.
-/
import Derived.Test.YtddaodjaeommlaaPd3
namespace Go.Proofs.Ytddaodjaeommlaa
open Go Go.RowKit Ieee

set_option maxRecDepth 100000 in
set_option maxHeartbeats 3200000 in
theorem specPastDraw_bad (k a b side most : Int) (A : Option Addr) (xs : List Nat) (c : Nat) (w : World) (hb0 : 0 ≤ b ∧ b < 18446744073709551616) (hx : xs.length ≤ 9223372036854775807) (h : Rd w w.heap.size A (fl xs)) (hbad : pastB k a b side xs most = false) :
    Calls Try.prog 70 #[.agg #[.int .i64 k, .int .u64 a, .int .u64 b], .agg #[.int .i64 side, .slice A xs.length c], .int .i64 most] w (mtOut 0 0 0 0 0 false w) := by
  have HS := Lib.hid fun p w h => l02Is_any p k a b hb0 w h
  have HV := Lib.hid fun b W h0 h1 h => l07Is_any b side A xs c W hx h0 h1 h
  have HW := Lib.hid fun w => l00In_any most 1 512 w
  unfold pastB at hbad
  clear hx hb0
  generalize seedB k a b = d1 at *
  generalize validB side xs = d2 at *
  generalize inB most 1 512 = d5 at *
  have hcase : d1 = false ∨ (d1 = true ∧ d2 = false) ∨ (d1 = true ∧ d2 = true ∧ d5 = false) := by
    cases d1 <;> cases d2 <;> cases d5 <;> simp_all
  clear hbad
  rcases hcase with rfl | ⟨rfl, rfl⟩ | ⟨rfl, rfl, rfl⟩
  all_goals
    go_enter Try.func70, Try.ntmps70
    go_wp2_with fail
    generalize hW1 : World.alloc (World.alloc (World.alloc w _) _) _ = W1
    have hx1 : Bx w.heap.size k a b side A xs.length c W1 := by rw [← hW1]; simp [Bx, SdAt, go_sem]
    have HB0 : Hid (Below w.heap.size w W1) := by rw [← hW1]; exact Lib.hid (below_al (below_al (below_al (Below.refl _ _) _) _) _)
    clear hW1
    refine (HS.out _ _ hx1.1).mono ?_
    rintro e w2 ⟨rfl, rfl⟩
    obtain ⟨⟨s0, s1, s2, sf⟩, n0, n1, ⟨z0, z1, z2, zf⟩⟩ := hx1
    go_wp2_with (first
      | (go_at_call 95; refine (HV.out _ _ n0 n1 (h.at_ HB0.out)).mono ?_; rintro e w3 ⟨rfl, m3, rfl⟩)
      | (go_at_call 101; refine (HW.out _).mono ?_; rintro e w5 ⟨rfl, m5, rfl⟩))
    refine bodyPost_ret (v := .tuple #[.agg #[.int .i64 0, .int .u64 0, .int .u64 0], .int .i64 0, .int .i64 0, .bool false]) (by simp [results, Try.results70, go_sem, z0, z1, z2]) rfl ⟨rfl, ?_⟩
    exact below_set (below_set (below_set (by first | exact HB0.out | exact below_drewN HB0.out _) _ _ (by first | omega | (simp; done) | (simp; omega) | exact Nat.le_add_right _ _)) _ _ (by first | omega | (simp; done) | (simp; omega) | exact Nat.le_add_right _ _)) _ _ (by first | omega | (simp; done) | (simp; omega) | exact Nat.le_add_right _ _)

theorem rev_at {ys : List Nat} {s : Nat} (h : s < ys.length) (h2 : s < ys.reverse.length) (h3 : ys.length - 1 - s < ys.length) : ys.reverse[s] = ys[ys.length - 1 - s] := List.getElem_reverse ..

set_option maxRecDepth 100000 in
set_option maxHeartbeats 6400000 in
theorem specPastDraw_ok (k a b : Int) (n M : Nat) (A : Option Addr) (xs : List Nat) (c : Nat) (w : World) (hb0 : 0 ≤ b ∧ b < 18446744073709551616) (hx : xs.length ≤ 9223372036854775807) (h : Rd w w.heap.size A (fl xs)) (hok : pastB k a b n xs M = true) :
    Calls Try.prog 70 #[.agg #[.int .i64 k, .int .u64 a, .int .u64 b], .agg #[.int .i64 n, .slice A xs.length c], .int .i64 M] w (pdGive xs n k a b M w) := by
  obtain ⟨n', M', hn', hM', n1, n2, hM1, hM, h1, h2, h5⟩ := pastB_ok hok
  obtain rfl : n = n' := by omega
  obtain rfl : M = M' := by omega
  have HS := Lib.hid fun p w h => l02Is_any p k a b hb0 w h
  have HV := Lib.hid fun b W h0 h1 h => l07Is_any b n A xs c W hx h0 h1 h
  have HW := Lib.hid fun w => l00In_any M 1 512 w
  rw [h1] at HS
  rw [h2] at HV
  rw [h5] at HW
  obtain ⟨n', hn', -, -, hl, hp, hrw⟩ := validB_facts h2
  obtain rfl : n = n' := by omega
  have HSH : Hid (∀ t g w, SdAt w g k (sdT k a b t).1 (sdT k a b t).2 → Calls Try.prog 126 #[.pointer (some ⟨g, 0, none⟩)] w (SShareOut g k (sdT k a b t).1 (sdT k a b t).2 w)) := Lib.hid fun t g w hs => l02Share_any g k _ _ (seedB_kind h1) w hs
  have HGO : Hid (∀ g j u W, j < n → isNan single u = false → Below w.heap.size w W → W.cell? ⟨g, 0, none⟩ = some (.int .i64 n) → W.cell? ⟨g, 1, none⟩ = some (.slice A xs.length c) → Calls Try.prog 127 #[.pointer (some ⟨g, 0, none⟩), .int .i64 (j : Nat), .float .f32 u] W (Quiet (.int .i64 (onC xs n j u)) W)) := Lib.hid fun g j u W hj hu hW c0 c1 => l07On_any g n j u A xs c W h2 hj hu c0 c1 (h.at_ hW)
  have HSD : Hid (∀ t, nA k (sdT k a b t).1 (sdT k a b t).2 = (sdT k a b (t + 1)).1 ∧ nB k (sdT k a b t).1 (sdT k a b t).2 = (sdT k a b (t + 1)).2 ∧ nU k (sdT k a b t).1 (sdT k a b t).2 = uT k a b t) := Lib.hid fun t => ⟨rfl, rfl, rfl⟩
  have HUL : Hid (∀ t, uL k a b (t + 1) = uL k a b t ++ [uT k a b t]) := Lib.hid fun t => uL_succ _ _ _ _
  have HULL : Hid (∀ t, (uL k a b t).length = t) := Lib.hid fun t => uL_len _ _ _ _
  have HUN : Hid (∀ t, ∀ u ∈ uL k a b t, isNan single u = false) := Lib.hid fun t => uL_nn _ _ _ _
  have H0 : Hid ((sdT k a b 0) = (a, b) ∧ fl (uL k a b 0) = []) := Lib.hid ⟨rfl, rfl⟩
  have HRL : Hid (∀ zs i, i < n → runP xs n i zs < n) := Lib.hid fun zs i hi => runP_lt hl zs i hi
  have HRS : Hid (∀ i (ys : List Nat) s (hs : s < ys.length), runP xs n i (ys.take (s + 1)) = onC xs n (runP xs n i (ys.take s)) ys[s]) := Lib.hid fun i ys s hs => runP_succ hs
  have HSS : Hid (∀ ys m, sameB xs n ys (m + 1) = (sameB xs n ys m && (m == 0 || runP xs n m ys == runP xs n (m - 1) ys))) := Lib.hid fun ys m => sameB_succ _ _ _ _
  have HLE : Hid (∀ ys i, lastE xs n ys (i + 1) = (runP xs n i ys : Nat)) := Lib.hid fun ys i => by unfold lastE; rw [if_neg (by omega)]; rfl
  have HEV : Hid (∀ ys, sameB xs n ys n = true → endV xs n ys = lastE xs n ys n) := Lib.hid fun ys hs => by unfold endV lastE; rw [if_pos hs, if_neg (by omega)]
  have HPS : Hid (∀ j, 2 ^ j ≤ M → (∀ q, q < j → coalB xs n k a b (2 ^ q) = false) → coalB xs n k a b (2 ^ j) = true → pastJ xs n k a b M = some j) := Lib.hid fun j h1 h2 h3 => pastJ_some hM h1 h2 h3
  have HPN : Hid (∀ j, M < 2 ^ j → (∀ q, q < j → coalB xs n k a b (2 ^ q) = false) → pastJ xs n k a b M = none) := Lib.hid fun j h1 h2 => pastJ_none h1 h2
  have HCO : Hid (∀ m, coalB xs n k a b m = sameB xs n (uL k a b m).reverse n) := Lib.hid fun m => rfl
  obtain ⟨i0, hi0, hz0, hz1, hz2⟩ := info_parts info_f32
  have HRD := Lib.hid h
  clear hok hn' hM' h1 h2 h5 hb0 hx h hl hp hrw
  unfold SShareOut at HSH
  go_enter Try.func70, Try.ntmps70
  go_wp2_with fail
  generalize hW1 : World.alloc (World.alloc (World.alloc w _) _) _ = W1
  have hx1 : Bx w.heap.size k a b n A xs.length c W1 := by rw [← hW1]; simp [Bx, SdAt, go_sem]
  have HB0 : Hid (Below w.heap.size w W1) := by rw [← hW1]; exact Lib.hid (below_al (below_al (below_al (Below.refl _ _) _) _) _)
  clear hW1
  refine (HS.out _ _ hx1.1).mono ?_
  rintro e w2 ⟨rfl, rfl⟩
  have HX0 := Lib.hid hx1
  have hlt4 := hx1.lt
  obtain ⟨⟨s0, s1, s2, sf⟩, n0, n1', ⟨z0, z1, z2, zf⟩⟩ := hx1
  go_wp2_with (first
    | (go_at_call 95; refine (HV.out _ _ n0 n1' (HRD.out.at_ HB0.out)).mono ?_; rintro e w3 ⟨rfl, m3, rfl⟩)
    | (go_at_call 101; refine (HW.out _).mono ?_; rintro e w5 ⟨rfl, m5, rfl⟩))
  have START : Hid (∀ r, PK w k a b n A xs.length c 0 (.slice (some ⟨W1.heap.size, 0, none⟩) 0 0) ((W1.drewN r).alloc (.cells #[] 33))) := Lib.hid fun r => ⟨by rw [H0.out.1]; exact (HX0.out.dn r).keep (below_al (Below.refl _ _) _), below_al (below_drewN HB0.out r) _, _, _, rfl, by
    rw [H0.out.2]
    exact World.ownsRow_made (W1.drewN r) #[] 0 (show w.heap.size + 3 ≤ W1.heap.size by omega) (by unfold maxLen; omega) rfl⟩
  clear hlt4 s0 s1 s2 sf n0 n1' z0 z1 z2 zf
  go_loopw [10, 11, 12, 13, 14, 15, 16] (fun v nv _ _ _ _ _ wr => ∃ j t : Nat, nv = .int .i64 ((2 ^ j : Nat) : Int) ∧ t ≤ 2 ^ j ∧ 2 ^ j ≤ 1024 ∧ PK w k a b n A xs.length c t v wr ∧ (∀ q, q < j → coalB xs n k a b (2 ^ q) = false)) (fun _ nv _ _ _ _ _ _ => 2 * M + 2 - (intOf nv).toNat)
  case atStart => exact ⟨0, 0, rfl, by omega, by decide, START.out _, fun q hq => by omega⟩
  case round =>
    obtain ⟨j, t0, rfl, ht0, hjb, hpk, hno⟩ := hrel
    rename World => wr
    have HPK := Lib.hid hpk
    have HNO := Lib.hid hno
    have HPSj := Lib.hid (HPS.out j)
    have HPNj := Lib.hid (HPN.out j)
    have HPW : Hid (2 ^ (j + 1) = 2 ^ j * 2 ∧ 1 ≤ 2 ^ j) := Lib.hid ⟨Nat.pow_succ .., Nat.one_le_two_pow⟩
    clear hpk hno
    generalize hNN : 2 ^ j = N at *
    have HN := Lib.hid hNN
    clear hNN
    have hN1 : 1 ≤ N := HPW.out.2
    by_cases hle : N ≤ M
    · obtain ⟨-, -, A0, c0, rfl, -⟩ := HPK.out
      go_wp2_with fail
      go_loopw [10] (fun v W => ∃ t : Nat, t ≤ N ∧ PK w k a b n A xs.length c t v W) (fun v _ => N - slen v)
      case atStart => exact ⟨t0, ht0, HPK.out⟩
      case round =>
        obtain ⟨t, ht, hbx, hbw, A', c', rfl, hown⟩ := hrel
        rename World => W
        have HX := Lib.hid hbx
        have HB := Lib.hid hbw
        have HO := Lib.hid hown
        obtain ⟨⟨s0, s1, s2, sf⟩, n0, n1', ⟨z0, z1, z2, zf⟩⟩ := hbx
        have hlt := HX.out.lt
        clear hbw hown
        by_cases htN : t < N
        · obtain ⟨q1, q2, q3⟩ := HSD.out t
          have hsh := HSH.out t w.heap.size W HX.out.1
          rw [q1, q2, q3] at hsh
          have HSHt := Lib.hid hsh
          have HULt := Lib.hid (HUL.out t)
          clear q1 q2 q3 hsh
          generalize hst : sdT k a b t = st at *
          generalize hst' : sdT k a b (t + 1) = st' at *
          have HST := Lib.hid hst'
          clear hst hst'
          obtain ⟨aT, bT⟩ := st
          obtain ⟨a', b'⟩ := st'
          generalize uT k a b t = u at *
          go_wp2_with (first
            | (go_at_call 126; refine HSHt.out.mono ?_; rintro e w6 ⟨rfl, hs6⟩; have HX6 := Lib.hid (HX.out.moved hs6); have HB6 := Lib.hid (hs6.below HB.out (Nat.le_refl _)); have HO6 := Lib.hid (hs6.own HO.out (by omega)); have hl6 := HX6.out.lt; clear hs6 s0 s1 s2 sf n0 n1' z0 z1 z2 zf)
            | (refine wpList_append_lies _ rfl _ _ _ rfl (w.heap.size + 3) 33 i0 _ 1 4 Try.underlying22 hi0 hz0 hz1 hz2 rfl (by omega) (.slice A' t c') t (fl (uL k a b t)) (by rfl) (HO6.out.alloc _) ⟨w6.heap.size, 0, none⟩ 1 1 [.float .f32 u] (by rfl) (by rfl) (World.news_of_block (cs := #[.float .f32 u]) (t := 33) (fr := (0, 0)) (heap_alloc_new w6 _)) (by simp [Value.oneCell']) (by omega) (by unfold maxLen; omega) (by omega) (by simp; omega) (w6.heap.size + 1) (by simp) ?_; intro g cap w9 hown9 hgrow hat hlt9; have HX9 := Lib.hid ((HX6.out.keep (below_al (Below.refl _ _) (.cells #[.float .f32 u] 33))).grown hgrow (fun q hq => (HO6.out.lt q hq).1)); have HB9 := Lib.hid ((below_al HB6.out (.cells #[.float .f32 u] 33)).grown hgrow (by have := HB6.out.size; simp; omega) (fun q hq => by have := (HO6.out.lt q hq).1; omega)); have HO9 := Lib.hid hown9; clear hown9 hgrow hat hlt9))
          go_roundw
          case rel => exact ⟨t + 1, by omega, by rw [HST.out]; exact HX9.out, HB9.out, _, _, rfl, by rw [HULt.out]; simpa [fl] using HO9.out⟩
          case measure => simp [slen]; omega
        · obtain rfl : t = N := by omega
          have HCOt := Lib.hid (HCO.out t)
          have HUt := Lib.hid (HULL.out t)
          have HUNt := Lib.hid (HUN.out t)
          have HC0 := Lib.hid n0
          have HC1 := Lib.hid n1'
          have HYL : Hid ((uL k a b t).reverse.length = t) := Lib.hid (by rw [List.length_reverse]; exact HUt.out)
          have HAT : Hid (∀ s, s < t → ∃ (hs : s < (uL k a b t).reverse.length) (bb off : Nat), A' = some ⟨bb, off, none⟩ ∧ W.cell? ⟨bb, off + (t - 1 - s), none⟩ = some (.float .f32 ((uL k a b t).reverse[s])) ∧ isNan single ((uL k a b t).reverse[s]) = false) := Lib.hid fun s hs => by
            have hs2 : s < (uL k a b t).reverse.length := by rw [HYL.out]; exact hs
            have h3 : (uL k a b t).length - 1 - s < (uL k a b t).length := by rw [HUt.out]; omega
            obtain ⟨bb, off, hA, -, hcl⟩ := (Rd.of_own HO.out).flAt h3
            have he := rev_at (by rw [HUt.out]; exact hs) hs2 h3
            refine ⟨hs2, bb, off, hA, ?_, ?_⟩
            · rw [he]
              have e5 : t - 1 - s = (uL k a b t).length - 1 - s := by rw [HUt.out]
              rw [e5]
              exact hcl
            · exact HUNt.out _ (List.mem_reverse.1 (List.getElem_mem hs2))
          have HTK : Hid (∀ i, runP xs n i ((uL k a b t).reverse.take t) = runP xs n i (uL k a b t).reverse) := Lib.hid fun i => by
            rw [List.take_of_length_le (by rw [HYL.out]; exact Nat.le_refl _)]
          generalize hye : (uL k a b t).reverse = ys at *
          have HYE := Lib.hid hye
          clear hye
          clear n1'
          go_wp2_with fail
          go_loopw [12, 13, 14, 15, 16] (fun ev sv iv _ _ V => ∃ i r : Nat, i ≤ n ∧ iv = .int .i64 i ∧ ev = .int .i64 (lastE xs n ys i) ∧ sv = .bool (sameB xs n ys i) ∧ V = W.drewN r) (fun _ _ iv _ _ _ => n - (intOf iv).toNat)
          case atStart => exact ⟨0, 0, Nat.zero_le _, rfl, rfl, rfl, rfl⟩
          case round =>
            obtain ⟨i, r, hi, rfl, rfl, rfl, rfl⟩ := hrel
            by_cases hin : i < n
            · go_wp2_with fail
              go_loopw [15, 16] (fun o kv V => ∃ s r : Nat, s ≤ t ∧ kv = .int .i64 ((t : Int) - 1 - s) ∧ o = .int .i64 (runP xs n i (ys.take s) : Nat) ∧ V = W.drewN r) (fun _ kv _ => (intOf kv + 1).toNat)
              case atStart => exact ⟨0, r, Nat.zero_le _, by simp, rfl, rfl⟩
              case round =>
                obtain ⟨s, r, hs, rfl, rfl, rfl⟩ := hrel
                by_cases hst : s < t
                · obtain ⟨hs2, bb, off, rfl, hcl, hu⟩ := HAT.out s hst
                  have hrs := HRS.out i ys s hs2
                  have hpl := HRL.out (ys.take s) i hin
                  generalize ys[s] = u at *
                  have HRS1 := Lib.hid hrs
                  have HU := Lib.hid hu
                  have hkk : ((t : Int) - 1 - s) = ((t - 1 - s : Nat) : Int) := by omega
                  have hkt : t - 1 - s < t := by omega
                  rw [hkk]
                  generalize hq : t - 1 - s = q at *
                  have HQ := Lib.hid hq
                  clear hrs hu hkk hq
                  go_wp2_with (go_at_call 127; refine (HGO.out _ _ _ (W.drewN r) hpl HU.out (below_drewN HB.out r) HC0.out HC1.out).mono ?_; rintro e w8 ⟨rfl, m8, rfl⟩)
                  go_roundw
                  case rel => exact ⟨s + 1, _, by omega, by have := HQ.out; first | (congr 1; omega) | (congr 1; push_cast; omega), by rw [HRS1.out], rfl⟩
                  case measure => first | (simp [intOf]; done) | (simp [intOf]; omega)
                · obtain rfl : s = t := by omega
                  rw [HTK.out i]
                  have hss := HSS.out ys i
                  have hle2 := HLE.out ys i
                  have hneg : ((s : Int) - 1 - s) = -1 := by omega
                  rw [hneg]
                  clear hneg
                  by_cases hj0 : i = 0
                  · subst hj0
                    rw [show ((0 : Nat) == 0) = true from rfl, Bool.true_or, Bool.and_true] at hss
                    have HSSi := Lib.hid hss
                    have HLEi := Lib.hid hle2
                    clear hss hle2
                    go_wp2_with fail
                    go_roundw
                    case rel => exact ⟨1, _, by omega, rfl, by rw [HLEi.out], by rw [HSSi.out], rfl⟩
                    case measure => first | (simp [intOf]; done) | (simp [intOf]; omega)
                  · have hl0 : lastE xs n ys i = (runP xs n (i - 1) ys : Nat) := by unfold lastE; rw [if_neg hj0]
                    have hjj : (i == 0) = false := by simp [hj0]
                    rw [hjj, Bool.false_or] at hss
                    rw [hl0]
                    generalize runP xs n (i - 1) ys = p0 at *
                    generalize hp1 : runP xs n i ys = p1 at *
                    have hi0' : 0 < i := by omega
                    clear hp1 hl0 hjj hj0
                    by_cases hpp : p1 = p0
                    · have hne : ((p1 : Int) != (p0 : Int)) = false := by rw [hpp]; simp
                      have HSSi : Hid (sameB xs n ys (i + 1) = sameB xs n ys i) := Lib.hid (by rw [hss, hpp]; simp)
                      have HLEi := Lib.hid hle2
                      clear hss hle2 hpp
                      go_wp2_with fail
                      go_roundw
                      case rel => exact ⟨i + 1, _, by omega, by go_num, by rw [HLEi.out], by rw [HSSi.out], rfl⟩
                      case measure => first | (simp [intOf]; done) | (simp [intOf]; omega)
                    · have hne : ((p1 : Int) != (p0 : Int)) = true := by simp; omega
                      have HSSi : Hid (sameB xs n ys (i + 1) = false) := Lib.hid (by rw [hss]; simp [hpp])
                      have HLEi := Lib.hid hle2
                      clear hss hle2 hpp
                      go_wp2_with fail
                      go_roundw
                      case rel => exact ⟨i + 1, _, by omega, by go_num, by rw [HLEi.out], by rw [HSSi.out], rfl⟩
                      case measure => first | (simp [intOf]; done) | (simp [intOf]; omega)
            · obtain rfl : i = n := by omega
              have HEVt := Lib.hid (HEV.out ys)
              cases hcb : sameB xs i ys i with
              | true =>
                have HEE := Lib.hid (HEVt.out hcb)
                have HJS := Lib.hid (HPSj.out hle HNO.out (HCOt.out.trans hcb))
                clear hcb
                generalize lastE xs i ys i = ev at *
                generalize hsq : sdT k a b t = st at *
                have HST := Lib.hid hsq
                clear hsq
                obtain ⟨aT, bT⟩ := st
                go_wp2_with fail
                have hX9 := (HX.out.dn r).2.2.2.set k aT bT
                have hB9 := below_set (below_set (below_set (below_drewN HB.out r) ⟨w.heap.size + 1 + 1, 0, none⟩ (.int .i64 k) (by simp; omega)) ⟨w.heap.size + 1 + 1, 1, none⟩ (.int .u64 aT) (by simp; omega)) ⟨w.heap.size + 1 + 1, 2, none⟩ (.int .u64 bT) (by simp; omega)
                generalize World.setCell (World.setCell (World.setCell _ _ _) _ _) _ _ = W9 at hX9 hB9 ⊢
                clear s0 s1 s2 sf n0 z0 z1 z2 zf
                obtain ⟨y0, y1, y2, -⟩ := hX9
                refine bodyPost_ret (v := .tuple #[.agg #[.int .i64 k, .int .u64 aT, .int .u64 bT], .int .i64 ev, .int .i64 (t : Int), .bool true]) (by simp [results, Try.results70, go_sem, y0, y1, y2]) rfl (pdGive_some HJS.out HN.out HST.out (by rw [HYE.out]; exact HEE.out) hB9)
              | false =>
                have HN2 : Hid (∀ q, q < j + 1 → coalB xs i k a b (2 ^ q) = false) := Lib.hid fun q hq => by
                  rcases Nat.lt_or_ge q j with hl | hg
                  · exact HNO.out q hl
                  · obtain rfl : q = j := by omega
                    rw [HN.out]
                    exact HCOt.out.trans hcb
                clear hcb
                have hp2 := HPW.out.1
                go_wp2_with fail
                go_roundw
                case rel => exact ⟨j + 1, t, by rw [hp2]; push_cast; rfl, by omega, by omega, ⟨HX.out.dn _, below_drewN HB.out _, A', c', rfl, own_below HO.out (below_drewN (Below.refl _ _) _)⟩, HN2.out⟩
                case measure => first | (simp [intOf]; done) | (simp [intOf]; omega)
    · have HJN := Lib.hid (HPNj.out (by omega) HNO.out)
      obtain ⟨⟨s0, s1, s2, sf⟩, n0, n1', ⟨z0, z1, z2, zf⟩⟩ := HPK.out.1
      have HBk := Lib.hid HPK.out.2.1
      have hltk := HPK.out.1.lt
      go_wp2_with fail
      refine bodyPost_ret (v := .tuple #[.agg #[.int .i64 0, .int .u64 0, .int .u64 0], .int .i64 0, .int .i64 0, .bool false]) (by simp [results, Try.results70, go_sem, z0, z1, z2]) rfl (pdGive_none HJN.out ?_)
      exact below_set (below_set (below_set HBk.out _ _ (by first | omega | (simp; omega))) _ _ (by first | omega | (simp; omega))) _ _ (by first | omega | (simp; omega))
end Go.Proofs.Ytddaodjaeommlaa
