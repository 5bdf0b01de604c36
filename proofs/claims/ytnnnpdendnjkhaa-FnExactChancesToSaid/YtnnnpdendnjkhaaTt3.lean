/-
  spec.TimesTo and spec.ChancesTo.
-/
import Derived.Test.YtnnnpdendnjkhaaTm1
import Derived.Test.YtnnnpdendnjkhaaTt2
import Derived.Deep.DeepCutAuto
namespace Go.Proofs.Ytnnnpdendnjkhaa
open Go Go.RowKit Ieee
attribute [local go_sem] run_store_float

def openP (but : List Int) (i : Nat) : List Nat := (List.range i).filter fun i => !but.contains (i : Int)
theorem openP_succ (but : List Int) (i : Nat) : openP but (i + 1) = if but.contains (i : Int) = true then openP but i else openP but i ++ [i] := by
  unfold openP
  rw [List.range_succ, List.filter_append, List.filter_cons, List.filter_nil]
  generalize but.contains (i : Int) = b
  cases b <;> simp
theorem openP_le (but : List Int) (i : Nat) : (openP but i).length ≤ i := by
  have := List.length_filter_le (fun i : Nat => !but.contains (i : Int)) (List.range i)
  rw [List.length_range] at this
  exact this


set_option maxRecDepth 100000 in
set_option maxHeartbeats 1600000 in
theorem specTimesTo_bad (side goal : Int) (A : Option Addr) (xs : List Nat) (c : Nat) (w : World) (hx : xs.length ≤ 9223372036854775807) (hA : Rd w w.heap.size A (fl xs)) (hb : (validB side xs && stateB side goal) = false) :
    Calls Try.prog 26 #[.agg #[.int .i64 side, .slice A xs.length c], .int .i64 goal] w (flOut [] false w) := by
  have HV := Lib.hid fun b W h0 h1 h => l07Is_any b side A xs c W hx h0 h1 h
  have HI := Lib.hid fun W => l00In_any goal 0 (side - 1) W
  have hbx : ∀ o, (w.alloc o).heap.size = w.heap.size + 1 := fun o => by simp
  cases hv : validB side xs with
  | false =>
    rw [hv] at HV
    clear hb hv HI
    go_enter Try.func26, Try.ntmps26
    go_wp2_with (go_at_call 31; refine (HV.out _ _ (by simp [go_sem]) (by simp [go_sem]) (hA.at_ (below_al (Below.refl _ _) _))).mono ?_; rintro e w1 ⟨rfl, m1, rfl⟩)
    refine bodyPost_ret (v := .tuple #[.slice none 0 0, .bool false]) (by simp [results, Try.results26, go_sem]) rfl ?_
    exact flOut_none (below_dn (below_al (Below.refl _ _) _) _)
  | true =>
    rw [hv, Bool.true_and] at hb
    unfold stateB at hb
    rw [hb] at HI
    rw [hv] at HV
    have hbd : side - 1 ≤ 9223372036854775807 ∧ -9223372036854775808 ≤ side - 1 := by obtain ⟨n', hn', hn1, hn2, -⟩ := validB_facts hv; omega
    have hwr : IntKind.i64.wrap (side - 1) = side - 1 := IntWalk.i64_in _ (by omega)
    clear hb hv
    go_enter Try.func26, Try.ntmps26
    go_wp2_with (first
      | (go_at_call 31; refine (HV.out _ _ (by simp [go_sem]) (by simp [go_sem]) (hA.at_ (below_al (Below.refl _ _) _))).mono ?_; rintro e w1 ⟨rfl, m1, rfl⟩)
      | (go_at_call 47; refine (HI.out _).mono ?_; rintro e w2 ⟨rfl, m2, rfl⟩))
    refine bodyPost_ret (v := .tuple #[.slice none 0 0, .bool false]) (by simp [results, Try.results26, go_sem]) rfl ?_
    exact flOut_none (by repeat (first | exact below_al (Below.refl _ _) _ | refine below_dn ?_ _))


set_option maxRecDepth 100000 in
set_option maxHeartbeats 1600000 in
theorem specChancesTo_bad (side goal other : Int) (A : Option Addr) (xs : List Nat) (c : Nat) (w : World) (hx : xs.length ≤ 9223372036854775807) (hA : Rd w w.heap.size A (fl xs)) (hb : chB side xs goal other = false) :
    Calls Try.prog 28 #[.agg #[.int .i64 side, .slice A xs.length c], .int .i64 goal, .int .i64 other] w (flOut [] false w) := by
  have HV := Lib.hid fun b W h0 h1 h => l07Is_any b side A xs c W hx h0 h1 h
  have HI := Lib.hid fun x W => l00In_any x 0 (side - 1) W
  unfold chB at hb
  cases hv : validB side xs with
  | false =>
    rw [hv] at HV
    clear hb hv HI
    go_enter Try.func28, Try.ntmps28
    go_wp2_with (go_at_call 31; refine (HV.out _ _ (by simp [go_sem]) (by simp [go_sem]) (hA.at_ (below_al (Below.refl _ _) _))).mono ?_; rintro e w1 ⟨rfl, m1, rfl⟩)
    refine bodyPost_ret (v := .tuple #[.slice none 0 0, .bool false]) (by simp [results, Try.results28, go_sem]) rfl ?_
    exact flOut_none (below_dn (below_al (Below.refl _ _) _) _)
  | true =>
    rw [hv, Bool.true_and] at hb
    rw [hv] at HV
    have hbd : side - 1 ≤ 9223372036854775807 ∧ -9223372036854775808 ≤ side - 1 := by obtain ⟨n', hn', hn1, hn2, -⟩ := validB_facts hv; omega
    have hwr : IntKind.i64.wrap (side - 1) = side - 1 := IntWalk.i64_in _ (by omega)
    clear hv
    cases h1 : stateB side goal with
    | false =>
      unfold stateB at h1
      clear hb
      go_enter Try.func28, Try.ntmps28
      go_wp2_with (first
        | (go_at_call 31; refine (HV.out _ _ (by simp [go_sem]) (by simp [go_sem]) (hA.at_ (below_al (Below.refl _ _) _))).mono ?_; rintro e w1 ⟨rfl, m1, rfl⟩)
        | (go_at_call 47; refine (HI.out _ _).mono ?_; rintro e w2 ⟨rfl, m2, rfl⟩))
      refine bodyPost_ret (v := .tuple #[.slice none 0 0, .bool false]) (by simp [results, Try.results28, go_sem]) rfl ?_
      exact flOut_none (by repeat (first | exact below_al (Below.refl _ _) _ | refine below_dn ?_ _))
    | true =>
      rw [h1, Bool.true_and] at hb
      unfold stateB at h1
      cases h2 : stateB side other with
      | false =>
        unfold stateB at h2
        clear hb
        go_enter Try.func28, Try.ntmps28
        go_wp2_with (first
          | (go_at_call 31; refine (HV.out _ _ (by simp [go_sem]) (by simp [go_sem]) (hA.at_ (below_al (Below.refl _ _) _))).mono ?_; rintro e w1 ⟨rfl, m1, rfl⟩)
          | (go_at_call 47; refine (HI.out _ _).mono ?_; rintro e w2 ⟨rfl, m2, rfl⟩))
        refine bodyPost_ret (v := .tuple #[.slice none 0 0, .bool false]) (by simp [results, Try.results28, go_sem]) rfl ?_
        exact flOut_none (by repeat (first | exact below_al (Below.refl _ _) _ | refine below_dn ?_ _))
      | true =>
        rw [h2, Bool.true_and] at hb
        unfold stateB at h2
        have he : goal = other := by simpa using hb
        subst he
        clear hb
        go_enter Try.func28, Try.ntmps28
        go_wp2_with (first
          | (go_at_call 31; refine (HV.out _ _ (by simp [go_sem]) (by simp [go_sem]) (hA.at_ (below_al (Below.refl _ _) _))).mono ?_; rintro e w1 ⟨rfl, m1, rfl⟩)
          | (go_at_call 47; refine (HI.out _ _).mono ?_; rintro e w2 ⟨rfl, m2, rfl⟩))
        refine bodyPost_ret (v := .tuple #[.slice none 0 0, .bool false]) (by simp [results, Try.results28, go_sem]) rfl ?_
        exact flOut_none (by repeat (first | exact below_al (Below.refl _ _) _ | refine below_dn ?_ _))


set_option maxRecDepth 100000 in
set_option maxHeartbeats 3200000 in
theorem specTimesTo_ok (n g : Nat) (A : Option Addr) (xs : List Nat) (c : Nat) (w : World) (hx : xs.length ≤ 9223372036854775807) (hA : Rd w w.heap.size A (fl xs)) (hv : validB n xs = true) (hg : g < n) :
    Calls Try.prog 26 #[.agg #[.int .i64 n, .slice A xs.length c], .int .i64 g] w (flOut ((timesN xs n g).getD []) (timesN xs n g).isSome w) := by
  obtain ⟨n', hn', hn1, hn2, hl, hp, hrw⟩ := validB_facts hv
  obtain rfl : n = n' := by omega
  obtain ⟨i0, hi0, hz0, hz1, hz2⟩ := info_parts info_f32
  obtain ⟨j0, hj0, hy0, hy1, hy2⟩ := info_parts info_i64
  have hmk := run_make_row (P := Try.prog) 22 42 i0 (.float .f32 0) Try.underlying22 hi0 hz0 hz1 rfl .i64 .i64 n (by rw [hz2]; omega) (by omega)
  have HV := Lib.hid fun b W h0 h1 h => l07Is_any b n A xs c W hx h0 h1 h
  rw [hv] at HV
  have HI := Lib.hid fun x W => l00In_any x 0 ((n : Int) - 1) W
  have hin1 : inB (g : Int) 0 ((n : Int) - 1) = true := decide_eq_true (by omega)
  have hwr : IntKind.i64.wrap ((n : Int) - 1) = (n : Int) - 1 := IntWalk.i64_in _ (by omega)
  have HTO : Hid (∀ bc Ao co W, Rd W W.heap.size A (fl xs) → W.cell? ⟨bc, 0, none⟩ = some (.int .i64 n) → W.cell? ⟨bc, 1, none⟩ = some (.slice A xs.length c) → Rd W W.heap.size Ao (nlv (openN n [(g : Int)])) → Calls Try.prog 55 #[.pointer (some ⟨bc, 0, none⟩), .slice Ao (openN n [(g : Int)]).length co, .int .i64 g, .bool true] W (svOut (solM (cofM xs n (openN n [(g : Int)]) (fun _ => oneF)) (openN n [(g : Int)]).length) W.heap.size W)) := Lib.hid fun bc Ao co W h1 h2 h3 h4 => by
    have := l07To_any true n g bc A xs c (openN n [(g : Int)]) Ao co W ⟨hn1, hn2⟩ hl hp h1 h2 h3 h4 (openN_le _ _) (fun i hi => (openN_lt hi).1) hg
    exact this
  have HTN : Hid (solM (cofM xs n (openN n [(g : Int)]) (fun _ => oneF)) (openN n [(g : Int)]).length = none → timesN xs n g = none) := Lib.hid fun h => by
    show (solM _ _).map _ = none
    rw [h]; rfl
  have HTS : Hid (∀ ys, solM (cofM xs n (openN n [(g : Int)]) (fun _ => oneF)) (openN n [(g : Int)]).length = some ys → ys.length = (openN n [(g : Int)]).length ∧ timesN xs n g = some ((List.range n).map (putM (openN n [(g : Int)]) (fun k => ys.getD k 0) (fun _ => 0) (openN n [(g : Int)]).length))) := Lib.hid fun ys h => ⟨sol_len h, by
    show (solM _ _).map _ = _
    rw [h]; rfl⟩
  have HLT : Hid (∀ k, k < (openN n [(g : Int)]).length → (openN n [(g : Int)]).getD k 0 < n) := Lib.hid fun k hk => (openN_lt hk).1
  have HLN := Lib.hid (openN_le n [(g : Int)])
  have HOP : Hid (openP [(g : Int)] n = openN n [(g : Int)]) := Lib.hid rfl
  have HSUC : Hid (∀ i, openP [(g : Int)] (i + 1) = if [(g : Int)].contains (i : Int) = true then openP [(g : Int)] i else openP [(g : Int)] i ++ [i]) := Lib.hid fun i => openP_succ _ i
  have HLE : Hid (∀ i, (openP [(g : Int)] i).length ≤ i) := Lib.hid fun i => openP_le _ i
  have HA := Lib.hid hA
  generalize solM (cofM xs n (openN n [(g : Int)]) (fun _ => oneF)) (openN n [(g : Int)]).length = sol at *
  generalize openN n [(g : Int)] = ls at *
  generalize timesN xs n g = T at *
  clear hx hA hv hn' hl hp hrw
  have HBUT : Hid True := Lib.hid trivial
  generalize hbut : [(g : Int)] = but at *
  have HBT := Lib.hid hbut
  clear hbut
  go_enter Try.func26, Try.ntmps26
  go_upto_region 3 with (first
      | (go_at_call 31; refine (HV.out _ _ (by simp [go_sem]) (by simp [go_sem]) (HA.out.at_ (below_al (Below.refl _ _) _))).mono ?_; rintro e w1 ⟨rfl, m1, rfl⟩)
      | (go_at_call 47; refine (HI.out _ _).mono ?_; rintro e w2 ⟨rfl, m2, rfl⟩))
  generalize hW2 : World.drewN _ _ = W2
  have K2 : Hid (Below w.heap.size w W2 ∧ W2.cell? ⟨w.heap.size, 0, none⟩ = some (.int .i64 n) ∧ W2.cell? ⟨w.heap.size, 1, none⟩ = some (.slice A xs.length c)) := by rw [← hW2]; exact Lib.hid ⟨below_dn (below_al (Below.refl _ _) _) _, by simp [go_sem], by simp [go_sem]⟩
  have HZ : Hid (∀ W, Below W2.heap.size W2 W → W.cell? ⟨w.heap.size, 0, none⟩ = some (.int .i64 n) ∧ W.cell? ⟨w.heap.size, 1, none⟩ = some (.slice A xs.length c)) := Lib.hid fun W hW => ⟨keepC hW K2.out.2.1, keepC hW K2.out.2.2⟩
  have B2 := Lib.hid K2.out.1
  clear hW2 K2 HV HI hin1
  go_upto_region 4 with fail
  have START : Hid (Grow W2 2 0 [] (.slice (some ⟨W2.heap.size, 0, none⟩) 0 0) (W2.alloc (.cells #[] 2))) := Lib.hid (Grow.empty _ _)
  generalize World.alloc W2 _ = W3 at *
  go_wp2_with fail
  go_loopw [6, 7] (fun ov iv wr => ∃ i : Nat, i ≤ n ∧ iv = .int .i64 i ∧ Grow W2 2 (openP but i).length (nlv (openP but i)) ov wr) (fun _ iv _ => n - (intOf iv).toNat)
  case atStart => exact ⟨0, Nat.zero_le _, rfl, START.out⟩
  case round =>
    clear START
    obtain ⟨i, hi, rfl, hgr⟩ := hrel
    rename World => wr
    have GR := Lib.hid hgr
    obtain ⟨hb, A3, c3, rfl, ho⟩ := hgr
    have HB := Lib.hid hb
    have HO := Lib.hid ho
    have hzb := hb.size
    obtain ⟨e0, e1⟩ := HZ.out wr hb
    clear hb ho
    by_cases hin : i < n
    · have HS1 := Lib.hid (HSUC.out i)
      have hll := HLE.out i
      have HCN : Hid ([(g : Int)].contains (i : Int) = decide (i = g)) := Lib.hid (by
        rw [Bool.eq_iff_iff]
        simp
        omega)
      rw [HBT.out] at HCN
      generalize openP but i = lp at *
      have hll2 : lp.length ≤ 12 := by omega
      have HNN : Hid True := Lib.hid trivial
      have hdum : True := trivial
      by_cases hig : i = g
      · have hne : ((i : Int) != (g : Int)) = false := by rw [hig]; simp
        have HSU : Hid (openP but (i + 1) = lp) := Lib.hid (by rw [HS1.out, HCN.out, if_pos (by simp [hig])])
        clear hig
        go_wp2_with fail
        exact ⟨⟨i + 1, by omega, by go_num, by rw [HSU.out]; exact GR.out⟩, by simp [intOf]; omega⟩
      · have hne : ((i : Int) != (g : Int)) = true := by rw [bne_iff_ne]; omega
        have HSU : Hid (openP but (i + 1) = lp ++ [i]) := Lib.hid (by rw [HS1.out, HCN.out, if_neg (by simp [hig])])
        clear hig
        go_wp2_with (refine wpList_append_lies _ rfl _ _ _ rfl W2.heap.size 2 j0 _ 1 8 Try.underlying26 hj0 hy0 hy1 hy2 rfl (by omega) (.slice A3 lp.length c3) lp.length (nlv lp) (by rfl) (HO.out.alloc _) ⟨wr.heap.size, 0, none⟩ 1 1 [.int .i64 (i : Nat)] (by rfl) (by rfl) (World.news_of_block (cs := #[.int .i64 (i : Nat)]) (t := 2) (fr := (0, 0)) (heap_alloc_new wr _)) (by simp [Value.oneCell']) (by omega) (by unfold maxLen; omega) (by omega) (by simp; omega) (wr.heap.size + 1) (by simp) ?_; intro g9 cap9 w9 hown9 hgrow hat hlt9; have G9 := Lib.hid (Grow.step HB.out HO.out (Below.refl _ _) hgrow hown9); clear hown9 hgrow hat)
        exact ⟨⟨i + 1, by omega, by go_num, by rw [HSU.out, List.length_append, nlv_snoc]; exact G9.out⟩, by simp [intOf]; omega⟩
    · obtain rfl : n = i := by omega
      rw [HOP.out] at HO ⊢
      have HTW := Lib.hid (HTO.out w.heap.size A3 c3 wr (HA.out.at_ (below_next B2.out HB.out)) e0 e1 (Rd.of_own HO.out))
      have BW := Lib.hid (below_next B2.out HB.out)
      clear HTO HOP HSUC HLE GR HB
      go_wp2_with fail
      refine HTW.out.mono ?_
      rintro e w5 ⟨A5, c5, ys, rfl, hys, hblk, hrd, hb5⟩
      have B5 := Lib.hid (below_next BW.out hb5)
      have RD := Lib.hid hrd
      have HO5 := Lib.hid (own_below HO.out hb5)
      have e0' := keepC hb5 e0
      have e1' := keepC hb5 e1
      clear hb5 hrd hblk HTW e0 e1 HO
      cases hsol : sol with
      | none =>
        have HN := Lib.hid (HTN.out hsol)
        rw [show (none : Option (List Nat)).isSome = false from rfl]
        clear hsol hys
        go_wp2_with fail
        refine bodyPost_ret (v := .tuple #[.slice none 0 0, .bool false]) (by simp [results, Try.results26, go_sem]) rfl ?_
        rw [HN.out]
        exact flOut_none B5.out
      | some zs =>
        obtain rfl := hys _ hsol
        obtain ⟨hyl, hts⟩ := HTS.out ys hsol
        have HYL := Lib.hid hyl
        have HT := Lib.hid hts
        rw [hyl, show (some ys).isSome = true from rfl]
        have HGL : Hid (w.heap.size ≤ w5.heap.size) := Lib.hid B5.out.size
        have HSC5 : Hid (0 < ls.length → ∃ b off, A3 = some ⟨b, off, none⟩ ∧ ∀ k W W6, k < ls.length → Below w5.heap.size w5 W6 → W6.grownBy W (some w5.heap.size) → W.cell? ⟨b, off + k, none⟩ = some (.int .i64 ((ls.getD k 0 : Nat) : Int))) := Lib.hid fun h0 => by
          obtain ⟨b, off, e, hb, hc⟩ := Rd.of_own HO5.out (by rw [nlv_len]; exact h0)
          refine ⟨b, off, e, fun k W W6 hk hW6 hW => ?_⟩
          have h1 := hc k (by rw [nlv_len]; exact hk)
          have h6 := keepC hW6 h1
          rw [hW.cell_far _ (lt_of_cell h6) (fun e => by have e : b = w5.heap.size := by injection e
                                                         omega), h6]
          rw [List.getD_eq_getElem?_getD, List.getElem?_eq_getElem hk]
          simp [nlv]
        have HYC : Hid (0 < ls.length → ∃ b off, A5 = some ⟨b, off, none⟩ ∧ ∀ k W W6, k < ls.length → Below w5.heap.size w5 W6 → W6.grownBy W (some w5.heap.size) → W.cell? ⟨b, off + k, none⟩ = some (.float .f32 (ys.getD k 0))) := Lib.hid fun h0 => by
          obtain ⟨b, off, e, hb, hc⟩ := RD.out (by rw [fl_len, HYL.out]; exact h0)
          refine ⟨b, off, e, fun k W W6 hk hW6 hW => ?_⟩
          have h1 := hc k (by rw [fl_len, HYL.out]; exact hk)
          have h6 := keepC hW6 h1
          rw [hW.cell_far _ (lt_of_cell h6) (fun e => by have e : b = w5.heap.size := by injection e
                                                         omega), h6]
          rw [List.getD_eq_getElem?_getD, List.getElem?_eq_getElem (by rw [HYL.out]; exact hk)]
          simp [fl]
        have HPS : Hid (∀ (k : Nat) (W : World), W.rowIs w5.heap.size 42 n (fun i => .float .f32 (putM ls (fun k => ys.getD k 0) (fun _ => 0) k i)) → (W.setCell ⟨w5.heap.size, ls.getD k 0, none⟩ (.float .f32 (ys.getD k 0))).rowIs w5.heap.size 42 n (fun i => .float .f32 (putM ls (fun k => ys.getD k 0) (fun _ => 0) (k + 1) i))) := Lib.hid fun k W hW => (hW.set _ _).congr fun i _ => by
          show (if i = ls.getD k 0 then Value.float .f32 (ys.getD k 0) else Value.float .f32 (putM ls (fun k => ys.getD k 0) (fun _ => 0) k i)) = Value.float .f32 (if i = ls.getD k 0 then ys.getD k 0 else putM ls (fun k => ys.getD k 0) (fun _ => 0) k i)
          split <;> rfl
        have hln := HLN.out
        clear hsol hys hyl hts RD HO5 HTN HTS
        go_upto_region 13 with fail
        generalize hW6 : World.alloc w5 _ = w6
        have R6 : Hid (w6.rowIs w5.heap.size 42 n (fun i => .float .f32 (putM ls (fun k => ys.getD k 0) (fun _ => 0) 0 i))) := by rw [← hW6]; exact Lib.hid (row_new w5 n _ rfl)
        have K6 : Hid (Below w5.heap.size w5 w6) := by rw [← hW6]; exact Lib.hid (below_al (Below.refl _ _) _)
        clear hW6
        generalize hpm : putM ls (fun k => ys.getD k 0) (fun _ => 0) = pm at *
        have HPM := Lib.hid hpm
        clear hpm e0' e1'
        go_wp2_with fail
        go_loopw [49] (fun iv wq => ∃ k : Nat, k ≤ ls.length ∧ iv = .int .i64 k ∧ w6.grownBy wq (some w5.heap.size) ∧ wq.rowIs w5.heap.size 42 n (fun i => .float .f32 (pm k i))) (fun iv _ => ls.length - (intOf iv).toNat)
        case atStart => exact ⟨0, Nat.zero_le _, rfl, grown_refl _ _, R6.out⟩
        case round =>
          clear R6
          obtain ⟨k, hk, rfl, hgr, hrow⟩ := hrel
          rename World => wq
          have GQ := Lib.hid hgr
          have RW := Lib.hid hrow
          clear hgr hrow
          by_cases hkm : k < ls.length
          · obtain ⟨b4, o4, rfl, hs4⟩ := HSC5.out (by omega)
            have y0 := hs4 k wq w6 hkm K6.out GQ.out
            obtain ⟨b5, o5, rfl, hy5⟩ := HYC.out (by omega)
            have y1 := hy5 k wq w6 hkm K6.out GQ.out
            have hlk := HLT.out k hkm
            have y2 := RW.out.cell hlk
            have f2 := RW.out.frozen (ls.getD k 0)
            have HPK := Lib.hid fun r => HPS.out k (wq.drewN r) (RW.out.of_block rfl)
            have HGS := Lib.hid fun r => grown_set (show w6.grownBy (wq.drewN r) (some w5.heap.size) from ⟨GQ.out.1, GQ.out.2, GQ.out.3, GQ.out.4, GQ.out.5⟩) (ls.getD k 0) (.float .f32 (ys.getD k 0))
            have hlk2 : ((ls.getD k 0 : Nat) : Int) < (n : Int) := by omega
            clear hs4 hy5 HYC HSC5 HPS
            generalize ls.getD k 0 = lk at *
            generalize ys.getD k 0 = yk at *
            generalize pm k lk = ok at *
            go_wp2_with fail
            go_region
            go_wp2_with fail
            go_roundw
            case rel => exact ⟨k + 1, by omega, by go_num, HGS.out 1, HPK.out 1⟩
            case measure => simp [intOf]; omega
          · obtain rfl : ls.length = k := by omega
            have hown := own_of_row RW.out HGL.out (by unfold maxLen; omega)
            have hfl : (List.range n).map (fun i => Value.float .f32 (pm ls.length i)) = fl ((List.range n).map (pm ls.length)) := by unfold fl; rw [List.map_map]; rfl
            rw [hfl] at hown
            have HOW := Lib.hid hown
            have HLR : Hid (((List.range n).map (pm ls.length)).length = n) := Lib.hid (by simp)
            have BF := Lib.hid ((below_next B5.out K6.out).grown GQ.out (below_next B5.out K6.out).size fun j hj => by
              have := HGL.out
              injection hj with hj
              omega)
            clear hown hfl
            go_wp2_with fail
            refine bodyPost_ret (v := .tuple #[.slice (some ⟨w5.heap.size, 0, none⟩) n n, .bool true]) (by simp [results, Try.results26, go_sem]) rfl ?_
            rw [HT.out, ← HPM.out]
            refine ⟨some ⟨w5.heap.size, 0, none⟩, n, ?_, ?_, BF.out⟩
            · show _ = Ending.returned (.tuple #[.slice _ (List.length ((List.range n).map _)) n, .bool true])
              rw [HPM.out, HLR.out]
            · show World.ownsRow _ _ _ 1 (.slice _ (List.length ((List.range n).map _)) n) (List.length ((List.range n).map _)) _
              rw [HPM.out, HLR.out]
              exact HOW.out


set_option maxRecDepth 100000 in
set_option maxHeartbeats 3200000 in
theorem specChancesTo_ok (n g o : Nat) (A : Option Addr) (xs : List Nat) (c : Nat) (w : World) (hx : xs.length ≤ 9223372036854775807) (hA : Rd w w.heap.size A (fl xs)) (hv : validB n xs = true) (hg : g < n) (ho : o < n) (hgo : g ≠ o) :
    Calls Try.prog 28 #[.agg #[.int .i64 n, .slice A xs.length c], .int .i64 g, .int .i64 o] w (flOut ((chancesN xs n g o).getD []) (chancesN xs n g o).isSome w) := by
  obtain ⟨n', hn', hn1, hn2, hl, hp, hrw⟩ := validB_facts hv
  obtain rfl : n = n' := by omega
  obtain ⟨i0, hi0, hz0, hz1, hz2⟩ := info_parts info_f32
  obtain ⟨j0, hj0, hy0, hy1, hy2⟩ := info_parts info_i64
  have hmk := run_make_row (P := Try.prog) 22 42 i0 (.float .f32 0) Try.underlying22 hi0 hz0 hz1 rfl .i64 .i64 n (by rw [hz2]; omega) (by omega)
  have HV := Lib.hid fun b W h0 h1 h => l07Is_any b n A xs c W hx h0 h1 h
  rw [hv] at HV
  have HI := Lib.hid fun x W => l00In_any x 0 ((n : Int) - 1) W
  have hin1 : inB (g : Int) 0 ((n : Int) - 1) = true := decide_eq_true (by omega)
  have hin2 : inB (o : Int) 0 ((n : Int) - 1) = true := decide_eq_true (by omega)
  have hwr : IntKind.i64.wrap ((n : Int) - 1) = (n : Int) - 1 := IntWalk.i64_in _ (by omega)
  have HTO : Hid (∀ bc Ao co W, Rd W W.heap.size A (fl xs) → W.cell? ⟨bc, 0, none⟩ = some (.int .i64 n) → W.cell? ⟨bc, 1, none⟩ = some (.slice A xs.length c) → Rd W W.heap.size Ao (nlv (openN n [(g : Int), (o : Int)])) → Calls Try.prog 55 #[.pointer (some ⟨bc, 0, none⟩), .slice Ao (openN n [(g : Int), (o : Int)]).length co, .int .i64 g, .bool false] W (svOut (solM (cofM xs n (openN n [(g : Int), (o : Int)]) (fun i => stepOf xs n i g)) (openN n [(g : Int), (o : Int)]).length) W.heap.size W)) := Lib.hid fun bc Ao co W h1 h2 h3 h4 => by
    have := l07To_any false n g bc A xs c (openN n [(g : Int), (o : Int)]) Ao co W ⟨hn1, hn2⟩ hl hp h1 h2 h3 h4 (openN_le _ _) (fun i hi => (openN_lt hi).1) hg
    exact this
  have HTN : Hid (solM (cofM xs n (openN n [(g : Int), (o : Int)]) (fun i => stepOf xs n i g)) (openN n [(g : Int), (o : Int)]).length = none → chancesN xs n g o = none) := Lib.hid fun h => by
    show (solM _ _).map _ = none
    rw [h]; rfl
  have HTS : Hid (∀ ys, solM (cofM xs n (openN n [(g : Int), (o : Int)]) (fun i => stepOf xs n i g)) (openN n [(g : Int), (o : Int)]).length = some ys → ys.length = (openN n [(g : Int), (o : Int)]).length ∧ chancesN xs n g o = some ((List.range n).map (putM (openN n [(g : Int), (o : Int)]) (fun k => ys.getD k 0) (fun i => if i = g then oneF else 0) (openN n [(g : Int), (o : Int)]).length))) := Lib.hid fun ys h => ⟨sol_len h, by
    show (solM _ _).map _ = _
    rw [h]; rfl⟩
  have HLT : Hid (∀ k, k < (openN n [(g : Int), (o : Int)]).length → (openN n [(g : Int), (o : Int)]).getD k 0 < n) := Lib.hid fun k hk => (openN_lt hk).1
  have HLN := Lib.hid (openN_le n [(g : Int), (o : Int)])
  have HOP : Hid (openP [(g : Int), (o : Int)] n = openN n [(g : Int), (o : Int)]) := Lib.hid rfl
  have HSUC : Hid (∀ i, openP [(g : Int), (o : Int)] (i + 1) = if [(g : Int), (o : Int)].contains (i : Int) = true then openP [(g : Int), (o : Int)] i else openP [(g : Int), (o : Int)] i ++ [i]) := Lib.hid fun i => openP_succ _ i
  have HLE : Hid (∀ i, (openP [(g : Int), (o : Int)] i).length ≤ i) := Lib.hid fun i => openP_le _ i
  have HA := Lib.hid hA
  have hge : ((g : Int) == (o : Int)) = false := by rw [Bool.eq_false_iff, ne_eq, beq_iff_eq]; omega
  generalize solM (cofM xs n (openN n [(g : Int), (o : Int)]) (fun i => stepOf xs n i g)) (openN n [(g : Int), (o : Int)]).length = sol at *
  generalize openN n [(g : Int), (o : Int)] = ls at *
  generalize chancesN xs n g o = T at *
  clear hx hA hv hn' hl hp hrw
  have HBUT : Hid True := Lib.hid trivial
  generalize hbut : [(g : Int), (o : Int)] = but at *
  have HBT := Lib.hid hbut
  clear hbut
  go_enter Try.func28, Try.ntmps28
  go_upto_region 3 with (first
      | (go_at_call 31; refine (HV.out _ _ (by simp [go_sem]) (by simp [go_sem]) (HA.out.at_ (below_al (Below.refl _ _) _))).mono ?_; rintro e w1 ⟨rfl, m1, rfl⟩)
      | (go_at_call 47; refine (HI.out _ _).mono ?_; rintro e w2 ⟨rfl, m2, rfl⟩))
  generalize hW2 : World.drewN _ _ = W2
  have K2 : Hid (Below w.heap.size w W2 ∧ W2.cell? ⟨w.heap.size, 0, none⟩ = some (.int .i64 n) ∧ W2.cell? ⟨w.heap.size, 1, none⟩ = some (.slice A xs.length c)) := by rw [← hW2]; exact Lib.hid ⟨below_dn (below_al (Below.refl _ _) _) _, by simp [go_sem], by simp [go_sem]⟩
  have HZ : Hid (∀ W, Below W2.heap.size W2 W → W.cell? ⟨w.heap.size, 0, none⟩ = some (.int .i64 n) ∧ W.cell? ⟨w.heap.size, 1, none⟩ = some (.slice A xs.length c)) := Lib.hid fun W hW => ⟨keepC hW K2.out.2.1, keepC hW K2.out.2.2⟩
  have B2 := Lib.hid K2.out.1
  clear hW2 K2 HV HI hin1 hin2
  go_upto_region 4 with fail
  have START : Hid (Grow W2 2 0 [] (.slice (some ⟨W2.heap.size, 0, none⟩) 0 0) (W2.alloc (.cells #[] 2))) := Lib.hid (Grow.empty _ _)
  generalize World.alloc W2 _ = W3 at *
  go_wp2_with fail
  go_loopw [8, 9] (fun ov iv wr => ∃ i : Nat, i ≤ n ∧ iv = .int .i64 i ∧ Grow W2 2 (openP but i).length (nlv (openP but i)) ov wr) (fun _ iv _ => n - (intOf iv).toNat)
  case atStart => exact ⟨0, Nat.zero_le _, rfl, START.out⟩
  case round =>
    clear START
    obtain ⟨i, hi, rfl, hgr⟩ := hrel
    rename World => wr
    have GR := Lib.hid hgr
    obtain ⟨hb, A3, c3, rfl, ho⟩ := hgr
    have HB := Lib.hid hb
    have HO := Lib.hid ho
    have hzb := hb.size
    obtain ⟨e0, e1⟩ := HZ.out wr hb
    clear hb ho
    by_cases hin : i < n
    · have HS1 := Lib.hid (HSUC.out i)
      have hll := HLE.out i
      have HCN : Hid ([(g : Int), (o : Int)].contains (i : Int) = (decide (i = g) || decide (i = o))) := Lib.hid (by
        rw [Bool.eq_iff_iff]
        simp
        omega)
      rw [HBT.out] at HCN
      generalize openP but i = lp at *
      have hll2 : lp.length ≤ 12 := by omega
      have HNN : Hid True := Lib.hid trivial
      have hdum : True := trivial
      by_cases hig : i = g
      · have hne : ((i : Int) != (g : Int)) = false := by rw [hig]; simp
        have HSU : Hid (openP but (i + 1) = lp) := Lib.hid (by rw [HS1.out, HCN.out, if_pos (by simp [hig])])
        clear hig
        go_wp2_with fail
        exact ⟨⟨i + 1, by omega, by go_num, by rw [HSU.out]; exact GR.out⟩, by simp [intOf]; omega⟩
      · have hne : ((i : Int) != (g : Int)) = true := by rw [bne_iff_ne]; omega
        by_cases hio : i = o
        · have hne2 : ((i : Int) != (o : Int)) = false := by rw [hio]; simp
          have HSU : Hid (openP but (i + 1) = lp) := Lib.hid (by rw [HS1.out, HCN.out, if_pos (by simp [hio])])
          clear hig hio
          go_wp2_with fail
          exact ⟨⟨i + 1, by omega, by go_num, by rw [HSU.out]; exact GR.out⟩, by simp [intOf]; omega⟩
        · have hne2 : ((i : Int) != (o : Int)) = true := by rw [bne_iff_ne]; omega
          have HSU : Hid (openP but (i + 1) = lp ++ [i]) := Lib.hid (by rw [HS1.out, HCN.out, if_neg (by simp [hig, hio])])
          clear hig hio
          go_wp2_with (refine wpList_append_lies _ rfl _ _ _ rfl W2.heap.size 2 j0 _ 1 8 Try.underlying26 hj0 hy0 hy1 hy2 rfl (by omega) (.slice A3 lp.length c3) lp.length (nlv lp) (by rfl) (HO.out.alloc _) ⟨wr.heap.size, 0, none⟩ 1 1 [.int .i64 (i : Nat)] (by rfl) (by rfl) (World.news_of_block (cs := #[.int .i64 (i : Nat)]) (t := 2) (fr := (0, 0)) (heap_alloc_new wr _)) (by simp [Value.oneCell']) (by omega) (by unfold maxLen; omega) (by omega) (by simp; omega) (wr.heap.size + 1) (by simp) ?_; intro g9 cap9 w9 hown9 hgrow hat hlt9; have G9 := Lib.hid (Grow.step HB.out HO.out (Below.refl _ _) hgrow hown9); clear hown9 hgrow hat)
          exact ⟨⟨i + 1, by omega, by go_num, by rw [HSU.out, List.length_append, nlv_snoc]; exact G9.out⟩, by simp [intOf]; omega⟩
    · obtain rfl : n = i := by omega
      rw [HOP.out] at HO ⊢
      have HTW := Lib.hid (HTO.out w.heap.size A3 c3 wr (HA.out.at_ (below_next B2.out HB.out)) e0 e1 (Rd.of_own HO.out))
      have BW := Lib.hid (below_next B2.out HB.out)
      clear HTO HOP HSUC HLE GR HB
      go_wp2_with fail
      refine HTW.out.mono ?_
      rintro e w5 ⟨A5, c5, ys, rfl, hys, hblk, hrd, hb5⟩
      have B5 := Lib.hid (below_next BW.out hb5)
      have RD := Lib.hid hrd
      have HO5 := Lib.hid (own_below HO.out hb5)
      have e0' := keepC hb5 e0
      have e1' := keepC hb5 e1
      clear hb5 hrd hblk HTW e0 e1 HO
      cases hsol : sol with
      | none =>
        have HN := Lib.hid (HTN.out hsol)
        rw [show (none : Option (List Nat)).isSome = false from rfl]
        clear hsol hys
        go_wp2_with fail
        refine bodyPost_ret (v := .tuple #[.slice none 0 0, .bool false]) (by simp [results, Try.results28, go_sem]) rfl ?_
        rw [HN.out]
        exact flOut_none B5.out
      | some zs =>
        obtain rfl := hys _ hsol
        obtain ⟨hyl, hts⟩ := HTS.out ys hsol
        have HYL := Lib.hid hyl
        have HT := Lib.hid hts
        rw [hyl, show (some ys).isSome = true from rfl]
        have HGL : Hid (w.heap.size ≤ w5.heap.size) := Lib.hid B5.out.size
        have HSC5 : Hid (0 < ls.length → ∃ b off, A3 = some ⟨b, off, none⟩ ∧ ∀ k W W6, k < ls.length → Below w5.heap.size w5 W6 → W6.grownBy W (some w5.heap.size) → W.cell? ⟨b, off + k, none⟩ = some (.int .i64 ((ls.getD k 0 : Nat) : Int))) := Lib.hid fun h0 => by
          obtain ⟨b, off, e, hb, hc⟩ := Rd.of_own HO5.out (by rw [nlv_len]; exact h0)
          refine ⟨b, off, e, fun k W W6 hk hW6 hW => ?_⟩
          have h1 := hc k (by rw [nlv_len]; exact hk)
          have h6 := keepC hW6 h1
          rw [hW.cell_far _ (lt_of_cell h6) (fun e => by have e : b = w5.heap.size := by injection e
                                                         omega), h6]
          rw [List.getD_eq_getElem?_getD, List.getElem?_eq_getElem hk]
          simp [nlv]
        have HYC : Hid (0 < ls.length → ∃ b off, A5 = some ⟨b, off, none⟩ ∧ ∀ k W W6, k < ls.length → Below w5.heap.size w5 W6 → W6.grownBy W (some w5.heap.size) → W.cell? ⟨b, off + k, none⟩ = some (.float .f32 (ys.getD k 0))) := Lib.hid fun h0 => by
          obtain ⟨b, off, e, hb, hc⟩ := RD.out (by rw [fl_len, HYL.out]; exact h0)
          refine ⟨b, off, e, fun k W W6 hk hW6 hW => ?_⟩
          have h1 := hc k (by rw [fl_len, HYL.out]; exact hk)
          have h6 := keepC hW6 h1
          rw [hW.cell_far _ (lt_of_cell h6) (fun e => by have e : b = w5.heap.size := by injection e
                                                         omega), h6]
          rw [List.getD_eq_getElem?_getD, List.getElem?_eq_getElem (by rw [HYL.out]; exact hk)]
          simp [fl]
        have HPS : Hid (∀ (k : Nat) (W : World), W.rowIs w5.heap.size 42 n (fun i => .float .f32 (putM ls (fun k => ys.getD k 0) (fun i => if i = g then oneF else 0) k i)) → (W.setCell ⟨w5.heap.size, ls.getD k 0, none⟩ (.float .f32 (ys.getD k 0))).rowIs w5.heap.size 42 n (fun i => .float .f32 (putM ls (fun k => ys.getD k 0) (fun i => if i = g then oneF else 0) (k + 1) i))) := Lib.hid fun k W hW => (hW.set _ _).congr fun i _ => by
          show (if i = ls.getD k 0 then Value.float .f32 (ys.getD k 0) else Value.float .f32 (putM ls (fun k => ys.getD k 0) (fun i => if i = g then oneF else 0) k i)) = Value.float .f32 (if i = ls.getD k 0 then ys.getD k 0 else putM ls (fun k => ys.getD k 0) (fun i => if i = g then oneF else 0) k i)
          split <;> rfl
        have hln := HLN.out
        clear hsol hys hyl hts RD HO5 HTN HTS
        go_upto_region 13 with fail
        generalize hW6 : World.alloc w5 _ = w6
        have R5 : Hid (w6.rowIs w5.heap.size 42 n (fun _ => .float .f32 0)) := by rw [← hW6]; exact Lib.hid (row_new w5 n _ rfl)
        have K5 : Hid (Below w5.heap.size w5 w6) := by rw [← hW6]; exact Lib.hid (below_al (Below.refl _ _) _)
        clear hW6
        have y2 := R5.out.cell hg
        have f2 := R5.out.frozen g
        have hgi : (g : Int) < (n : Int) := by omega
        go_upto_region 14 with fail
        have R6 : Hid ((w6.setCell ⟨w5.heap.size, g, none⟩ (.float .f32 1065353216)).rowIs w5.heap.size 42 n (fun i => .float .f32 (putM ls (fun k => ys.getD k 0) (fun i => if i = g then oneF else 0) 0 i))) := Lib.hid ((R5.out.set g _).congr fun i _ => by
          show (if i = g then Value.float .f32 1065353216 else Value.float .f32 0) = Value.float .f32 (if i = g then oneF else 0)
          split <;> rfl)
        have K6 := Lib.hid (below_set K5.out ⟨w5.heap.size, g, none⟩ (.float .f32 1065353216) (Nat.le_refl _))
        generalize World.setCell w6 _ _ = w7 at *
        clear y2 f2 R5 K5
        have w6 := w7
        clear w6
        generalize hpm : putM ls (fun k => ys.getD k 0) (fun i => if i = g then oneF else 0) = pm at *
        have HPM := Lib.hid hpm
        clear hpm e0' e1'
        go_wp2_with fail
        go_loopw [72] (fun iv wq => ∃ k : Nat, k ≤ ls.length ∧ iv = .int .i64 k ∧ w7.grownBy wq (some w5.heap.size) ∧ wq.rowIs w5.heap.size 42 n (fun i => .float .f32 (pm k i))) (fun iv _ => ls.length - (intOf iv).toNat)
        case atStart => exact ⟨0, Nat.zero_le _, rfl, grown_refl _ _, R6.out⟩
        case round =>
          clear R6
          obtain ⟨k, hk, rfl, hgr, hrow⟩ := hrel
          rename World => wq
          have GQ := Lib.hid hgr
          have RW := Lib.hid hrow
          clear hgr hrow
          by_cases hkm : k < ls.length
          · obtain ⟨b4, o4, rfl, hs4⟩ := HSC5.out (by omega)
            have y0 := hs4 k wq w7 hkm K6.out GQ.out
            obtain ⟨b5, o5, rfl, hy5⟩ := HYC.out (by omega)
            have y1 := hy5 k wq w7 hkm K6.out GQ.out
            have hlk := HLT.out k hkm
            have y2 := RW.out.cell hlk
            have f2 := RW.out.frozen (ls.getD k 0)
            have HPK := Lib.hid fun r => HPS.out k (wq.drewN r) (RW.out.of_block rfl)
            have HGS := Lib.hid fun r => grown_set (show w7.grownBy (wq.drewN r) (some w5.heap.size) from ⟨GQ.out.1, GQ.out.2, GQ.out.3, GQ.out.4, GQ.out.5⟩) (ls.getD k 0) (.float .f32 (ys.getD k 0))
            have hlk2 : ((ls.getD k 0 : Nat) : Int) < (n : Int) := by omega
            clear hs4 hy5 HYC HSC5 HPS
            generalize ls.getD k 0 = lk at *
            generalize ys.getD k 0 = yk at *
            generalize pm k lk = ok at *
            go_wp2_with fail
            go_region
            go_wp2_with fail
            go_roundw
            case rel => exact ⟨k + 1, by omega, by go_num, HGS.out 1, HPK.out 1⟩
            case measure => simp [intOf]; omega
          · obtain rfl : ls.length = k := by omega
            have hown := own_of_row RW.out HGL.out (by unfold maxLen; omega)
            have hfl : (List.range n).map (fun i => Value.float .f32 (pm ls.length i)) = fl ((List.range n).map (pm ls.length)) := by unfold fl; rw [List.map_map]; rfl
            rw [hfl] at hown
            have HOW := Lib.hid hown
            have HLR : Hid (((List.range n).map (pm ls.length)).length = n) := Lib.hid (by simp)
            have BF := Lib.hid ((below_next B5.out K6.out).grown GQ.out (below_next B5.out K6.out).size fun j hj => by
              have := HGL.out
              injection hj with hj
              omega)
            clear hown hfl
            go_wp2_with fail
            refine bodyPost_ret (v := .tuple #[.slice (some ⟨w5.heap.size, 0, none⟩) n n, .bool true]) (by simp [results, Try.results28, go_sem]) rfl ?_
            rw [HT.out, ← HPM.out]
            refine ⟨some ⟨w5.heap.size, 0, none⟩, n, ?_, ?_, BF.out⟩
            · show _ = Ending.returned (.tuple #[.slice _ (List.length ((List.range n).map _)) n, .bool true])
              rw [HPM.out, HLR.out]
            · show World.ownsRow _ _ _ 1 (.slice _ (List.length ((List.range n).map _)) n) (List.length ((List.range n).map _)) _
              rw [HPM.out, HLR.out]
              exact HOW.out

end Go.Proofs.Ytnnnpdendnjkhaa
