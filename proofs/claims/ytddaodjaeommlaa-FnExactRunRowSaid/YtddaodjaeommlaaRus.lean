/-
  spec.RunRow.
-/
import Derived.Test.YtddaodjaeommlaaRun
namespace Go.Proofs.Ytddaodjaeommlaa
open Go Go.RowKit Ieee
attribute [local go_sem] run_store_float

set_option maxHeartbeats 1600000 in
theorem specRunRow_bad (side : Int) (A : Option Addr) (xs : List Nat) (c : Nat) (B : Option Addr) (row : List Nat) (d : Nat) (steps : Int) (w : World) (hx : xs.length ≤ 9223372036854775807) (hr : row.length ≤ 9223372036854775807) (hA : Rd w w.heap.size A (fl xs)) (hB : Rd w w.heap.size B (fl row)) (hb : runB side xs row steps = false) :
    Calls Try.prog 53 #[.agg #[.int .i64 side, .slice A xs.length c], .slice B row.length d, .int .i64 steps] w (flOut [] false w) := by
  have HF := Lib.hid fun b W h0 h1 h h' => l07Fits_any b side A xs c B row d W hx hr h0 h1 h h'
  have HW := Lib.hid fun W => l00In_any steps 0 512 W
  unfold runB at hb
  cases hf : fitB side xs row with
  | false =>
    rw [hf] at HF
    clear hb hf HW
    go_enter Try.func53, Try.ntmps53
    go_wp2_with (go_at_call 106; refine (HF.out _ _ (by simp [go_sem]) (by simp [go_sem]) (hA.at_ (below_al (Below.refl _ _) _)) (hB.at_ (below_al (Below.refl _ _) _))).mono ?_; rintro e w1 ⟨rfl, m, rfl⟩)
    go_ret2
    exact flOut_none (below_drewN (below_al (Below.refl _ _) _) _)
  | true =>
    rw [hf, Bool.true_and] at hb
    rw [hf] at HF
    rw [hb] at HW
    clear hb hf
    go_enter Try.func53, Try.ntmps53
    go_wp2_with (first
      | (go_at_call 106; refine (HF.out _ _ (by simp [go_sem]) (by simp [go_sem]) (hA.at_ (below_al (Below.refl _ _) _)) (hB.at_ (below_al (Below.refl _ _) _))).mono ?_; rintro e w1 ⟨rfl, m, rfl⟩)
      | (go_at_call 101; refine (HW.out _).mono ?_; rintro e w2 ⟨rfl, m2, rfl⟩))
    go_ret2
    exact flOut_none (below_drewN (below_al (Below.refl _ _) _) _)

set_option maxRecDepth 100000 in
set_option maxHeartbeats 3200000 in
theorem specRunRow_ok (n : Nat) (A : Option Addr) (xs : List Nat) (c : Nat) (B : Option Addr) (row : List Nat) (d N : Nat) (w : World) (hx : xs.length ≤ 9223372036854775807) (hA : Rd w w.heap.size A (fl xs)) (hB : Rd w w.heap.size B (fl row)) (hf : fitB n xs row = true) (hN : N ≤ 512) :
    Calls Try.prog 53 #[.agg #[.int .i64 n, .slice A xs.length c], .slice B row.length d, .int .i64 N] w (flOut (runGive xs row n N) (runOk xs row n N) w) := by
  obtain ⟨n', hn', hn1, hn2, hl, hp, hrl, hrw, hv, hw⟩ := fitB_facts hf
  obtain rfl : n = n' := by omega
  have HF := Lib.hid fun b W h0 h1 h h' => l07Fits_any b n A xs c B row d W hx (by omega) h0 h1 h h'
  rw [hf] at HF
  have HW := Lib.hid fun W => l00In_any N 0 512 W
  have hin : inB N 0 512 = true := decide_eq_true (by omega)
  rw [hin] at HW
  have HST : Hid (∀ b A' c' r W, r.length = n → r.all leastB = true → W.cell? ⟨b, 0, none⟩ = some (.int .i64 n) → W.cell? ⟨b, 1, none⟩ = some (.slice A xs.length c) → Rd W W.heap.size A (fl xs) → Rd W W.heap.size A' (fl r) → Calls Try.prog 113 #[.pointer (some ⟨b, 0, none⟩), .slice A' n c'] W (fun e w' => ∃ A5 c5, e = .returned (.slice A5 n c5) ∧ w'.ownsRow W.heap.size 33 1 (.slice A5 n c5) n (fl (stepRow xs r n)) ∧ Below W.heap.size W w')) := Lib.hid fun b A' c' r W h1 h2 h3 h4 h h' => by
    have := l07Step_any b n A xs c A' r c' W hx h3 h4 h h' hn1 hn2 hl hp h1 h2
    rwa [h1] at this
  have HFI : Hid (∀ A' c' r W, Rd W W.heap.size A' (fl (stepRow xs r n)) → Calls Try.prog 116 #[.slice A' n c'] W (Quiet (.bool ((stepRow xs r n).all (isFin single))) W)) := Lib.hid fun A' c' r W h => by
    have := l02Finite_any A' (stepRow xs r n) c' W (by rw [stepRow_len]; omega) h
    rwa [stepRow_len] at this
  have HSL : Hid (∀ r, r.length = n → r.all leastB = true → (stepRow xs r n).all (isFin single) = true → (stepRow xs r n).all leastB = true) := Lib.hid fun r h1 h2 h3 => stepRow_least hl hp h1 h2 h3
  have HRL := Lib.hid hrl
  have HRW := Lib.hid hrw
  have HG2 : Hid (runGive xs row n N = (runRow xs n N row).getD []) := Lib.hid rfl
  have HG3 : Hid (runOk xs row n N = (runRow xs n N row).isSome) := Lib.hid rfl
  have HA := Lib.hid hA
  have HB := Lib.hid hB
  obtain ⟨b2, o2, rfl, hb2, hc2⟩ := hB (by rw [fl_len]; omega)
  obtain ⟨i0, hi0, hz0, hz1, hz2⟩ := info_parts info_f32
  have H1 : Hid (∀ u ∈ fl row, u.oneCell' = true) := Lib.hid fun u hu => by
    unfold fl at hu
    rw [List.mem_map] at hu
    obtain ⟨x, -, rfl⟩ := hu
    rfl
  have HLE : Hid ((fl row).length = n * 1) := Lib.hid (by rw [fl_len, Nat.mul_one, hrl])
  have HC : Hid (∀ W, Below w.heap.size w W → ∀ j u, (fl row)[j]? = some u → W.cell? ((⟨b2, o2, none⟩ : Addr).add j) = some u) := Lib.hid fun W hW j u hj => by
    obtain ⟨hlt, rfl⟩ := List.getElem?_eq_some_iff.1 hj
    rw [show ((⟨b2, o2, none⟩ : Addr).add j) = ⟨b2, o2 + j, none⟩ by unfold Addr.add; split <;> simp_all]
    exact (hW.cell (p := ⟨b2, o2 + j, none⟩) hb2).trans (hc2 j hlt)
  rw [hrl] at HF ⊢
  clear hf hin hl hp hrl hrw hv hw hx hn' hA hB hc2
  go_enter Try.func53, Try.ntmps53
  go_wp2_with fail
  generalize hW1 : World.alloc w _ = W1
  have c0 : W1.cell? ⟨w.heap.size, 0, none⟩ = some (.int .i64 n) := by rw [← hW1]; simp [go_sem]
  have c1 : W1.cell? ⟨w.heap.size, 1, none⟩ = some (.slice A xs.length c) := by rw [← hW1]; simp [go_sem]
  have HB1 : Hid (Below w.heap.size w W1) := by rw [← hW1]; exact Lib.hid (below_al (Below.refl _ _) _)
  clear hW1
  refine (HF.out _ W1 c0 c1 (HA.out.at_ HB1.out) (HB.out.at_ HB1.out)).mono ?_
  rintro e w1 ⟨rfl, m, rfl⟩
  go_wp2_with fail
  refine (HW.out _).mono ?_
  rintro e w2 ⟨rfl, m2, rfl⟩
  have y0 : ((W1.drewN m).drewN m2).cell? ⟨w.heap.size, 0, none⟩ = some (.int .i64 n) := c0
  have y1 : ((W1.drewN m).drewN m2).cell? ⟨w.heap.size, 1, none⟩ = some (.slice A xs.length c) := c1
  have HBD : Hid (Below w.heap.size w ((W1.drewN m).drewN m2)) := Lib.hid (below_drewN (below_drewN HB1.out m) m2)
  have hlw : w.heap.size < ((W1.drewN m).drewN m2).heap.size := lt_of_cell (a := ⟨w.heap.size, 0, none⟩) y0
  clear c0 c1 HB1 HF HW
  generalize (W1.drewN m).drewN m2 = W2 at *
  have hg := Grow.empty W2 33
  obtain ⟨hbe, A0, cc0, he, hoe⟩ := hg
  injection he with e1 e2 e3
  subst e1 e3
  have HOE := Lib.hid hoe
  have HCC := Lib.hid (HC.out _ (below_al HBD.out (.cells #[] 33)))
  clear hbe hoe e2
  go_wp2_with (refine wpList_append_lies _ rfl _ _ _ rfl W2.heap.size 33 i0 _ 1 4 Try.underlying22 hi0 hz0 hz1 hz2 rfl (by omega) (.slice (some ⟨W2.heap.size, 0, none⟩) 0 0) 0 [] (by rfl) HOE.out ⟨b2, o2, none⟩ n d (fl row) (by rfl) HLE.out HCC.out H1.out (by omega) (by unfold maxLen; omega) (by omega) (by simp) (W2.heap.size + 1) (by simp) ?_; intro g cap w3 hown3 hgrow hat hlt3; have hk : Below W2.heap.size W2 w3 := (below_al (Below.refl _ _) _).grown hgrow (by simp) (fun j hj => by (have hj' : some W2.heap.size = some j := hj); injection hj' with hj'; omega); rw [Nat.zero_add, List.nil_append] at hown3; have START : Hid (RR W2 xs n N row 0 (.slice (some ⟨g, 0, none⟩) n cap) w3) := Lib.hid ⟨hk, row, _, cap, rfl, hown3, HRL.out, HRW.out, rfl⟩; clear hown3 hgrow hat hlt3 hk)
  clear HOE HCC HRL HRW HC H1 HLE HB hi0 hz0 hz1 hz2
  go_loopw [2, 8] (fun i v wr => ∃ t : Nat, t ≤ N ∧ i = .int .i64 t ∧ RR W2 xs n N row (N - t) v wr) (fun i _ _ => (intOf i).toNat)
  case atStart => exact ⟨N, Nat.le_refl _, rfl, by rw [Nat.sub_self]; exact START.out⟩
  case round =>
    obtain ⟨t, ht, rfl, hbw, r, A4, c4, rfl, hown, hrl, hrw, hrun⟩ := hrel
    rename World => wr
    have g0 : wr.cell? ⟨w.heap.size, 0, none⟩ = some (.int .i64 n) := (hbw.cell (p := ⟨w.heap.size, 0, none⟩) hlw).trans y0
    have g1 : wr.cell? ⟨w.heap.size, 1, none⟩ = some (.slice A xs.length c) := (hbw.cell (p := ⟨w.heap.size, 1, none⟩) hlw).trans y1
    rw [show N - (N - t) = t by omega] at hrun
    have HRUN := Lib.hid hrun
    have HOWN := Lib.hid hown
    have HBW := Lib.hid hbw
    have HRL := Lib.hid hrl
    have HRW := Lib.hid hrw
    clear hown hrl hrw hrun hbw
    cases t with
    | succ t =>
      have hst := HST.out w.heap.size A4 c4 r wr HRL.out HRW.out g0 g1 (HA.out.at_ (below_next HBD.out HBW.out)) (Rd.of_own HOWN.out)
      have HSTC := Lib.hid hst
      have hpos : (0 : Int) < ((t + 1 : Nat) : Int) := by omega
      clear hst
      cases hfin : (stepRow xs r n).all (isFin single) with
      | true =>
        have hfi : Hid (∀ A' c' W, Rd W W.heap.size A' (fl (stepRow xs r n)) → Calls Try.prog 116 #[.slice A' n c'] W (Quiet (.bool true) W)) := Lib.hid fun A' c' W h => by have := HFI.out A' c' r W h; rwa [hfin] at this
        have HNX : Hid (∀ A5 c5 w5, w5.ownsRow wr.heap.size 33 1 (.slice A5 n c5) n (fl (stepRow xs r n)) → Below wr.heap.size wr w5 → RR W2 xs n N row (N - t) (.slice A5 n c5) w5) := Lib.hid fun A5 c5 w5 ho hb => ⟨below_next HBW.out hb, stepRow xs r n, A5, c5, rfl, own_base ho HBW.out.size, stepRow_len _ _ _, HSL.out r HRL.out HRW.out hfin, by
          have h2 := HRUN.out
          rw [runRow_yes hfin] at h2
          rw [show N - (N - t) = t by omega]
          exact h2⟩
        clear hfin
        go_wp2_with (first
          | (go_at_call 113; refine (HSTC.out).mono ?_; rintro e w5 ⟨A5, c5, rfl, hown5, hb5⟩; have HX := Lib.hid (HNX.out _ _ _ hown5 hb5); have HO5 := Lib.hid hown5; clear hown5 hb5)
          | (go_at_call 116; refine (hfi.out _ _ _ (Rd.of_own HO5.out)).mono ?_; rintro e w6 ⟨rfl, m6, rfl⟩))
        go_roundw
        case rel => exact ⟨t, by omega, by go_num, (by obtain ⟨q1, q2, q3, q4, q5, q6, q7⟩ := HX.out; exact ⟨below_drewN q1 _, q2, q3, q4, q5, own_below q6 (below_drewN (Below.refl _ _) _), q7⟩)⟩
        case measure => simp [intOf]
      | false =>
        have hfi : Hid (∀ A' c' W, Rd W W.heap.size A' (fl (stepRow xs r n)) → Calls Try.prog 116 #[.slice A' n c'] W (Quiet (.bool false) W)) := Lib.hid fun A' c' W h => by have := HFI.out A' c' r W h; rwa [hfin] at this
        have hno : runRow xs n N row = none := by
          have h2 := HRUN.out
          rw [runRow_no hfin] at h2
          exact h2.symm
        have HNO := Lib.hid hno
        clear hfin hno
        go_wp2_with (first
          | (go_at_call 113; refine (HSTC.out).mono ?_; rintro e w5 ⟨A5, c5, rfl, hown5, hb5⟩; have HB5 := Lib.hid hb5; have HO5 := Lib.hid hown5; clear hown5 hb5)
          | (go_at_call 116; refine (hfi.out _ _ _ (Rd.of_own HO5.out)).mono ?_; rintro e w6 ⟨rfl, m6, rfl⟩))
        refine bodyPost_ret (v := .tuple #[.slice none 0 0, .bool false]) (by simp [results, Try.results53, go_sem]) rfl ?_
        rw [HG2.out, HG3.out, HNO.out]
        exact flOut_none (below_drewN (below_next (below_next HBD.out HBW.out) HB5.out) _)
    | zero =>
      have HYES : Hid (runRow xs n N row = some r) := Lib.hid HRUN.out.symm
      clear HST
      go_wp2_with fail
      refine bodyPost_ret (v := .tuple #[.slice A4 n c4, .bool true]) (by simp [results, Try.results53, go_sem]) rfl ?_
      rw [HG2.out, HG3.out, HYES.out]
      unfold flOut
      rw [show ((some r).getD []) = r from rfl, HRL.out]
      exact ⟨_, _, rfl, own_base HOWN.out HBD.out.size, below_next HBD.out HBW.out⟩
end Go.Proofs.Ytddaodjaeommlaa
