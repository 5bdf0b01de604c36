/-
  spec.RestOf.
-/
import Derived.Test.YtlhepgdheopgaaaRt1
namespace Go.Proofs.Ytlhepgdheopgaaa
open Go Go.RowKit Ieee

set_option maxRecDepth 100000 in
set_option maxHeartbeats 3200000 in
theorem specRestOf_bad (side : Int) (A : Option Addr) (xs : List Nat) (c near : Nat) (most : Int) (w : World) (hx : xs.length ≤ 9223372036854775807) (hA : Rd w w.heap.size A (fl xs)) (hbad : restB side xs near most = false) :
    Calls Try.prog 14 #[.agg #[.int .i64 side, .slice A xs.length c], .float .f32 near, .int .i64 most] w (rtOut [] 0 false w) := by
  have HV := Lib.hid fun b W h0 h1 h => l07Is_any b side A xs c W hx h0 h1 h
  have HN := Lib.hid fun W => l02Least_any near W
  have HW := Lib.hid fun W => l00In_any most 1 512 W
  unfold restB at hbad
  clear hx
  generalize validB side xs = d1 at *
  generalize leastB near = d2 at *
  generalize inB most 1 512 = d4 at *
  have hcase : d1 = false ∨ (d1 = true ∧ d2 = false) ∨ (d1 = true ∧ d2 = true ∧ d4 = false) := by
    cases d1 <;> cases d2 <;> cases d4 <;> simp_all
  clear hbad
  rcases hcase with rfl | ⟨rfl, rfl⟩ | ⟨rfl, rfl, rfl⟩
  all_goals
    go_enter Try.func14, Try.ntmps14
    go_wp2_with fail
    generalize hW1 : World.alloc w _ = W1
    have c0 : W1.cell? ⟨w.heap.size, 0, none⟩ = some (.int .i64 side) := by rw [← hW1]; simp [go_sem]
    have c1 : W1.cell? ⟨w.heap.size, 1, none⟩ = some (.slice A xs.length c) := by rw [← hW1]; simp [go_sem]
    have HB1 : Hid (Below w.heap.size w W1) := by rw [← hW1]; exact Lib.hid (below_al (Below.refl _ _) _)
    clear hW1
    refine (HV.out _ W1 c0 c1 (hA.at_ HB1.out)).mono ?_
    rintro e w1 ⟨rfl, m, rfl⟩
    go_wp2_with (first
      | (go_at_call 42; refine (HN.out _).mono ?_; rintro e w2 ⟨rfl, m2, rfl⟩)
      | (go_at_call 43; refine (HW.out _).mono ?_; rintro e w3 ⟨rfl, m3, rfl⟩))
    refine bodyPost_ret (v := .tuple #[.slice none 0 0, .int .i64 0, .bool false]) (by simp [results, Try.results14, go_sem]) rfl (rtOut_none ?_)
    repeat (first | exact HB1.out | refine below_drewN ?_ _)

theorem rep_succ (x k : Nat) : List.replicate (k + 1) x = List.replicate k x ++ [x] := by
  rw [List.replicate_succ', ]

set_option maxRecDepth 100000 in
set_option maxHeartbeats 3200000 in
theorem specRestOf_ok (n : Nat) (A : Option Addr) (xs : List Nat) (c near M : Nat) (w : World) (hx : xs.length ≤ 9223372036854775807) (hA : Rd w w.heap.size A (fl xs)) (hv : validB n xs = true) (hn : leastB near = true) (hM : inB M 1 512 = true) :
    Calls Try.prog 14 #[.agg #[.int .i64 n, .slice A xs.length c], .float .f32 near, .int .i64 M] w (rtGive xs n near M w) := by
  obtain ⟨n', hn', hn1, hn2, hl, hp, ho⟩ := validB_facts hv
  obtain rfl : n = n' := by omega
  have HV := Lib.hid fun b W h0 h1 h => l07Is_any b n A xs c W hx h0 h1 h
  have HN := Lib.hid fun W => l02Least_any near W
  have HW := Lib.hid fun W => l00In_any M 1 512 W
  have hM2 : 1 ≤ M ∧ M ≤ 512 := by have := of_decide_eq_true hM; omega
  rw [hv] at HV
  rw [hn] at HN
  rw [hM] at HW
  obtain ⟨q1, q2, -⟩ := partQ_ok hn1 hn2
  have e1 := fun w => run_float_arith (P := Try.prog) w .quo 31 .f32 _ _ _ q1
  have HRK := Lib.hid fun t ht => restR_ok hv t ht
  have HR0 : Hid (fl (restR xs n 0) = fl (List.replicate n (partQ n))) := Lib.hid rfl
  have HST : Hid (∀ b t A' c' W, t < 512 → W.cell? ⟨b, 0, none⟩ = some (.int .i64 n) → W.cell? ⟨b, 1, none⟩ = some (.slice A xs.length c) → Rd W W.heap.size A (fl xs) → Rd W W.heap.size A' (fl (restR xs n t)) → Calls Try.prog 44 #[.pointer (some ⟨b, 0, none⟩), .slice A' n c'] W (fun e w' => ∃ A5 c5, e = .returned (.slice A5 n c5) ∧ w'.ownsRow W.heap.size 31 1 (.slice A5 n c5) n (fl (restR xs n (t + 1))) ∧ Below W.heap.size W w')) := Lib.hid fun b t A' c' W ht h0 h1 h h' => by
    obtain ⟨a1, a2⟩ := restR_ok hv t (by omega)
    have := l07Step_any b n A xs c A' (restR xs n t) c' W hx h0 h1 h h' hn1 hn2 hl hp a1 a2
    rw [a1] at this
    exact this
  have HCR : Hid (∀ t k, t < 512 → k < n → floatBits .sub .f32 (rowOf (restR xs n (t + 1)) k) (rowOf (restR xs n t) k) = some (chgAt (restR xs n (t + 1)) (restR xs n t) k) ∧ isFin single (chgAt (restR xs n (t + 1)) (restR xs n t) k) = true) := Lib.hid fun t k ht hk => by
    obtain ⟨a1, a2⟩ := restR_ok hv t (by omega)
    obtain ⟨b1, b2⟩ := restR_ok hv (t + 1) (by omega)
    exact chgAt_runs b1 b2 a1 a2 hk
  have HCO : Hid (∀ t k, t < 512 → k ≤ n → negOf single (chgTo (restR xs n (t + 1)) (restR xs n t) k) = false ∧ isFin single (chgTo (restR xs n (t + 1)) (restR xs n t) k) = true) := Lib.hid fun t k ht hk => by
    obtain ⟨a1, a2⟩ := restR_ok hv t (by omega)
    obtain ⟨b1, b2⟩ := restR_ok hv (t + 1) (by omega)
    exact chgTo_ok b1 b2 a1 a2 k hk
  have HCS : Hid (∀ t k, chgTo (restR xs n (t + 1)) (restR xs n t) (k + 1) = if key single (chgTo (restR xs n (t + 1)) (restR xs n t) k) < key single (sizeF (chgAt (restR xs n (t + 1)) (restR xs n t) k)) then sizeF (chgAt (restR xs n (t + 1)) (restR xs n t) k) else chgTo (restR xs n (t + 1)) (restR xs n t) k) := Lib.hid fun t k => rfl
  have HC0 : Hid (∀ t, chgTo (restR xs n (t + 1)) (restR xs n t) 0 = 0) := Lib.hid fun t => rfl
  have HCD : Hid (∀ t, chgTo (restR xs n (t + 1)) (restR xs n t) n = restD xs n t) := Lib.hid fun t => rfl
  have HCB : Hid (∀ d, closeB d near = (FloatKind.f32.format.order d near == some .lt || FloatKind.f32.format.order d near == some .eq)) := Lib.hid fun d => rfl
  have HSOME : Hid (∀ t, t < M → (∀ q, q < t → closeB (restD xs n q) near = false) → closeB (restD xs n t) near = true → restT xs n near M = some t) := Lib.hid fun t h1 h2 h3 => restT_some h1 h2 h3
  have HNONE : Hid ((∀ q, q < M → closeB (restD xs n q) near = false) → restT xs n near M = none) := Lib.hid fun h => restT_none h
  have HA := Lib.hid hA
  have HXL := Lib.hid hx
  obtain ⟨i0, hi0, hz0, hz1, hz2⟩ := info_parts info_f32
  clear q1 q2 hv hn hM hl hp ho hx hA hn'
  generalize partQ n = pq at *
  have HSU : Hid (∀ k, fl (List.replicate (k + 1) pq) = fl (List.replicate k pq) ++ [.float .f32 pq]) := Lib.hid fun k => by rw [rep_succ]; simp [fl]
  have hL0 : fl (List.replicate 0 pq) = [] := rfl
  go_enter Try.func14, Try.ntmps14
  go_wp2_with fail
  generalize hW1 : World.alloc w _ = W1
  have c0 : W1.cell? ⟨w.heap.size, 0, none⟩ = some (.int .i64 n) := by rw [← hW1]; simp [go_sem]
  have c1 : W1.cell? ⟨w.heap.size, 1, none⟩ = some (.slice A xs.length c) := by rw [← hW1]; simp [go_sem]
  have HB1 : Hid (Below w.heap.size w W1) := by rw [← hW1]; exact Lib.hid (below_al (Below.refl _ _) _)
  have s1 : w.heap.size < W1.heap.size := by rw [← hW1]; simp
  clear hW1
  refine (HV.out _ W1 c0 c1 (HA.out.at_ HB1.out)).mono ?_
  rintro e w1 ⟨rfl, m, rfl⟩
  go_wp2_with (first
    | (go_at_call 42; refine (HN.out _).mono ?_; rintro e w2 ⟨rfl, m2, rfl⟩)
    | (go_at_call 43; refine (HW.out _).mono ?_; rintro e w3 ⟨rfl, m3, rfl⟩))
  generalize hW2 : World.drewN W1 _ = W2 at *
  have y0 : W2.cell? ⟨w.heap.size, 0, none⟩ = some (.int .i64 n) := by rw [← hW2]; exact c0
  have y1 : W2.cell? ⟨w.heap.size, 1, none⟩ = some (.slice A xs.length c) := by rw [← hW2]; exact c1
  have HB2 : Hid (Below w.heap.size w W2) := by rw [← hW2]; exact Lib.hid (below_drewN HB1.out _)
  have s2 : w.heap.size < W2.heap.size := by rw [← hW2]; exact s1
  have HS2 : W2.heap.size = W1.heap.size := by rw [← hW2]; rfl
  clear hW2 c0 c1 HB1 s1 HV HN HW
  generalize hW3 : World.alloc W2 _ = W3
  have START : Hid (Grow W2 31 0 (fl (List.replicate 0 pq)) (.slice (some ⟨W1.heap.size, 0, none⟩) 0 0) W3) := by rw [← hW3, ← HS2]; exact Lib.hid (Grow.empty _ _)
  clear hW3 HS2
  go_loopw [9, 10] (fun v i wr => ∃ k : Nat, k ≤ n ∧ i = .int .i64 k ∧ Grow W2 31 k (fl (List.replicate k pq)) v wr) (fun _ i _ => n - (intOf i).toNat)
  case atStart => exact ⟨0, Nat.zero_le _, rfl, START.out⟩
  case round =>
    obtain ⟨k, hk, rfl, hgr⟩ := hrel
    rename World => wr
    obtain ⟨hbw, A', c', rfl, hown⟩ := hgr
    have g0 : wr.cell? ⟨w.heap.size, 0, none⟩ = some (.int .i64 n) := keepC hbw y0
    have HBW := Lib.hid hbw
    have HOWN := Lib.hid hown
    clear hbw hown
    by_cases hlt : k < n
    · have HSU' := Lib.hid (HSU.out k)
      go_wp2_with (refine wpList_append_lies _ rfl _ _ _ rfl W2.heap.size 31 i0 _ 1 4 Try.underlying24 hi0 hz0 hz1 hz2 rfl (by omega) (.slice A' k c') k (fl (List.replicate k pq)) (by rfl) (HOWN.out.alloc _) ⟨wr.heap.size, 0, none⟩ 1 1 [.float .f32 pq] (by rfl) (by rfl) (World.news_of_block (cs := #[.float .f32 pq]) (t := 31) (fr := (0, 0)) (heap_alloc_new wr _)) (by simp [Value.oneCell']) (by omega) (by unfold maxLen; omega) (by omega) (by simp; have := HBW.out.size; omega) (wr.heap.size + 1) (by simp) ?_; intro g cap w3 hown3 hgrow hat hlt3; have HX := Lib.hid (Grow.step HBW.out HOWN.out (Below.refl _ _) hgrow hown3); clear hown3 hgrow hat hlt3)
      go_roundw
      case rel => exact ⟨k + 1, by omega, by go_num, by rw [HSU'.out]; exact HX.out⟩
      case measure => simp [intOf]; omega
    · have hkn : k = n := by omega
      have HO3 : Hid (wr.ownsRow w.heap.size 31 1 (.slice A' n c') n (fl (restR xs n 0))) := Lib.hid (by
        rw [HR0.out]
        have := HOWN.out
        rw [hkn] at this
        exact own_base this HB2.out.size)
      have g1 : wr.cell? ⟨w.heap.size, 1, none⟩ = some (.slice A xs.length c) := keepC HBW.out y1
      have HB3 := Lib.hid (below_next HB2.out HBW.out)
      subst hkn
      clear HOWN HBW y0 y1 START HSU hL0 e1 HR0
      rename World => w3
      go_wp2_with fail
      go_loopw [9, 11] (fun v i wr => ∃ t : Nat, t ≤ M ∧ i = .int .i64 ((t + 1 : Nat) : Int) ∧ (∀ q, q < t → closeB (restD xs k q) near = false) ∧ Below w3.heap.size w3 wr ∧ ∃ A4 c4, v = .slice A4 k c4 ∧ wr.ownsRow w.heap.size 31 1 (.slice A4 k c4) k (fl (restR xs k t))) (fun _ i _ => M + 1 - (intOf i).toNat)
      case atStart => exact ⟨0, Nat.zero_le _, rfl, fun q hq => absurd hq (by omega), Below.refl _ _, A', c', rfl, HO3.out⟩
      case round =>
        obtain ⟨t, ht, rfl, hno, hbw, A4, c4, rfl, hown⟩ := hrel
        rename World => wr
        have f0 : wr.cell? ⟨w.heap.size, 0, none⟩ = some (.int .i64 k) := keepC hbw g0
        have f1 : wr.cell? ⟨w.heap.size, 1, none⟩ = some (.slice A xs.length c) := keepC hbw g1
        have HNO := Lib.hid hno
        have HOWN := Lib.hid hown
        have HBW := Lib.hid (below_next HB3.out hbw)
        have HBX := Lib.hid hbw
        clear hno hown hbw
        by_cases hlt : t < M
        · have ht5 : t < 512 := by omega
          have hst := Lib.hid (HST.out w.heap.size t A4 c4 wr ht5 f0 f1 (HA.out.at_ HBW.out) (Rd.of_own HOWN.out))
          have HRL := Lib.hid (HRK.out t (by omega)).1
          have HRL2 := Lib.hid (HRK.out (t + 1) (by omega)).1
          have HCR' := Lib.hid fun k hk => HCR.out t k ht5 hk
          have HCO' := Lib.hid fun k hk => HCO.out t k ht5 hk
          have HCS' := Lib.hid (HCS.out t)
          have HC0' := Lib.hid (HC0.out t)
          have HCD' := Lib.hid (HCD.out t)
          have HSOME' := Lib.hid (HSOME.out t hlt HNO.out)
          clear HCR HCO HCS HC0 HCD
          have HNEXT : Hid (closeB (restD xs k t) near = false → ∀ q, q < t + 1 → closeB (restD xs k q) near = false) := Lib.hid fun h q hq => by
            rcases Nat.lt_or_ge q t with h1 | h1
            · exact HNO.out q h1
            · obtain rfl : q = t := by omega
              exact h
          go_wp2_with (go_at_call 44; refine (hst.out).mono ?_; rintro e w5 ⟨A5, c5, rfl, hown5, hb5⟩)
          rename World => w5
          obtain ⟨b4, o4, rfl, hb4, hc4⟩ := Rd.of_own HOWN.out (by rw [fl_len, HRL.out]; omega)
          have HC4 : Hid (∀ j, j < k → w5.cell? ⟨b4, o4 + j, none⟩ = some (.float .f32 (rowOf (restR xs k t) j))) := Lib.hid fun j hj => keepC hb5 (rowOf_cell (by rw [HRL.out]; exact hj) hc4)
          obtain ⟨b6, o6, rfl, hb6, hc6⟩ := Rd.of_own hown5 (by rw [fl_len, HRL2.out]; omega)
          have HC6 : Hid (∀ j, j < k → w5.cell? ⟨b6, o6 + j, none⟩ = some (.float .f32 (rowOf (restR xs k (t + 1)) j))) := Lib.hid fun j hj => rowOf_cell (by rw [HRL2.out]; exact hj) hc6
          have HO5 := Lib.hid (own_base (base' := w.heap.size) hown5 HBW.out.size)
          have HB5 := Lib.hid (below_next HBX.out hb5)
          have HB5w := Lib.hid (below_next HBW.out hb5)
          clear hb4 hc4 hb6 hc6 hown5 hb5 hst
          generalize chgTo (restR xs k (t + 1)) (restR xs k t) = ct at *
          generalize chgAt (restR xs k (t + 1)) (restR xs k t) = ca at *
          go_loopw [13, 51] (fun v i W => ∃ j r : Nat, j ≤ k ∧ i = .int .i64 j ∧ v = .float .f32 (ct j) ∧ W = w5.drewN r) (fun _ i _ => k - (intOf i).toNat)
          case atStart => exact ⟨0, 0, Nat.zero_le _, rfl, by rw [HC0'.out], rfl⟩
          case round =>
            obtain ⟨j, r, hj, rfl, rfl, rfl⟩ := hrel
            by_cases hjt : j < k
            · obtain ⟨r1, hfin⟩ := HCR'.out j hjt
              have hok := HCO'.out j hj
              have hmx := HCS'.out j
              have HSZ := Lib.hid fun W => l07Size_any (ca j) W hfin
              have hgt : (FloatKind.f32.format.order (sizeF (ca j)) (ct j) == some .gt) = decide (key single (ct j) < key single (sizeF (ca j))) := gt_key (f := single) (by decide) (fin_not_nan (size_fin hfin).1) (fin_not_nan hok.2)
              have e3 := fun w => run_float_arith (P := Try.prog) w .sub 31 .f32 _ _ _ r1
              have xa := HC4.out j hjt
              have xb := HC6.out j hjt
              have HMX := Lib.hid hmx
              clear r1 hfin hok hmx
              generalize sizeF (ca j) = sz at *
              generalize ca j = cv at *
              generalize rowOf (restR xs k (t + 1)) j = rv at *
              generalize rowOf (restR xs k t) j = qv at *
              generalize hc2 : ct (j + 1) = c2 at *
              have HC2 := Lib.hid hc2
              clear hc2
              generalize ct j = c1 at *
              by_cases hcmp : key single c1 < key single sz
              · have hm2 : c2 = sz := by rw [HMX.out, if_pos hcmp]
                have HM3 := Lib.hid hm2
                rw [decide_eq_true hcmp] at hgt
                clear hcmp hm2 HMX
                go_wp2_with fail
                go_quiet ((go_at_call 45; first | exact quiet_one (HSZ.out _) | exact quiet_add (HSZ.out _)))
                go_wp2_with fail
                go_roundw
                case rel => exact ⟨j + 1, _, by omega, by go_num, by rw [HC2.out, HM3.out], rfl⟩
                case measure => simp [intOf]; omega
              · have hm2 : c2 = c1 := by rw [HMX.out, if_neg hcmp]
                have HM3 := Lib.hid hm2
                rw [decide_eq_false hcmp] at hgt
                clear hcmp hm2 HMX
                go_wp2_with fail
                go_quiet ((go_at_call 45; first | exact quiet_one (HSZ.out _) | exact quiet_add (HSZ.out _)))
                go_wp2_with fail
                go_roundw
                case rel => exact ⟨j + 1, _, by omega, by go_num, by rw [HC2.out, HM3.out], rfl⟩
                case measure => simp [intOf]; omega
            · have hjk : j = k := by omega
              subst hjk
              have hcd := HCD'.out
              rw [hcd]
              have HCBd := (HCB.out (restD xs j t)).symm
              cases hcl : closeB (restD xs j t) near with
              | true =>
                have HSM := Lib.hid (HSOME'.out hcl)
                rw [hcl] at HCBd
                clear hcl
                generalize restD xs j t = dd at *
                go_wp2_with fail
                refine bodyPost_ret (v := .tuple #[.slice (some ⟨b6, o6, none⟩) j c5, .int .i64 ((t + 1 : Nat) : Int), .bool true]) (by simp [results, Try.results14, go_sem]) rfl ?_
                exact rtGive_some HSM.out HRL2.out (own_below HO5.out (below_drewN (Below.refl _ _) _)) (below_drewN HB5w.out _)
              | false =>
                have HNX := Lib.hid (HNEXT.out hcl)
                rw [hcl] at HCBd
                clear hcl
                generalize hdd : restD xs j t = dd at *
                have HDD := Lib.hid hdd
                clear hdd
                go_wp2_with fail
                go_roundw
                case rel => exact ⟨t + 1, by omega, by go_num, HNX.out, below_drewN HB5.out _, _, _, rfl, own_below HO5.out (below_drewN (Below.refl _ _) _)⟩
                case measure => simp [intOf]; omega
        · have hno := HNONE.out (fun q hq => HNO.out q (by omega))
          have HNN := Lib.hid hno
          clear hno
          go_wp2_with fail
          refine bodyPost_ret (v := .tuple #[.slice none 0 0, .int .i64 0, .bool false]) (by simp [results, Try.results14, go_sem]) rfl ?_
          exact rtGive_none HNN.out HBW.out
end Go.Proofs.Ytlhepgdheopgaaa

