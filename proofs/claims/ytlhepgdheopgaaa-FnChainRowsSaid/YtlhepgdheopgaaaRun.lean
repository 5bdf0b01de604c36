/-
  slices.Clone of single numbers; impl.RunRow and spec.RunRow.
-/
import Derived.Test.YtlhepgdheopgaaaSrs
namespace Go.Proofs.Ytlhepgdheopgaaa
open Go Go.RowKit Ieee
attribute [local go_sem] run_store_float

set_option maxRecDepth 100000 in
set_option maxHeartbeats 1600000 in
theorem cloneF_any (A : Option Addr) (xs : List Nat) (c : Nat) (w : World) (hx : xs.length ≤ 1048576) (h1 : 1 ≤ xs.length) (h : Rd w w.heap.size A (fl xs)) :
    Calls Try.prog 52 #[.slice A xs.length c] w (fun e w' => ∃ A' c', e = .returned (.slice A' xs.length c') ∧ w'.ownsRow w.heap.size 31 1 (.slice A' xs.length c') xs.length (fl xs) ∧ Below w.heap.size w w') := by
  obtain ⟨b, o, rfl, hb, hc⟩ := h (by rw [fl_len]; omega)
  obtain ⟨i0, hi0, hz0, hz1, hz2⟩ := info_parts info_f32
  have HC : Hid (∀ j u, (fl xs)[j]? = some u → (w.alloc (.cells #[] 31)).cell? ((⟨b, o, none⟩ : Addr).add j) = some u) := Lib.hid fun j u hj => by
    obtain ⟨hlt, rfl⟩ := List.getElem?_eq_some_iff.1 hj
    rw [show ((⟨b, o, none⟩ : Addr).add j) = ⟨b, o + j, none⟩ by unfold Addr.add; split <;> simp_all]
    exact (World.cell?_alloc_lt w _ ⟨b, o + j, none⟩ hb).trans (hc j hlt)
  have HL : Hid ((fl xs).length = xs.length * 1) := Lib.hid (by rw [fl_len, Nat.mul_one])
  have H1 : Hid (∀ u ∈ fl xs, u.oneCell' = true) := Lib.hid fun u hu => by
    unfold fl at hu
    rw [List.mem_map] at hu
    obtain ⟨x, -, rfl⟩ := hu
    rfl
  have HG : Hid (Grow w 31 0 [] (.slice (some ⟨w.heap.size, 0, none⟩) 0 0) (w.alloc (.cells #[] 31))) := Lib.hid (Grow.empty _ _)
  have HO : Hid ((w.alloc (.cells #[] 31)).ownsRow w.heap.size 31 1 (.slice (some ⟨w.heap.size, 0, none⟩) 0 0) 0 []) := Lib.hid (by
    obtain ⟨-, A', c', he, ho⟩ := HG.out
    injection he with e1 e2 e3
    subst e1 e3
    exact ho)
  have HNI := fun w => Lib.run_eql_slice_nil (P := Try.prog) w 24 31 (some ⟨b, o, none⟩) xs.length c 0 0 Try.underlying24
  clear h hc
  go_enter Try.func52, Try.ntmps52
  go_wp2_with (refine wpList_append_lies _ rfl _ _ _ rfl w.heap.size 31 i0 _ 1 4 Try.underlying24 hi0 hz0 hz1 hz2 rfl (by omega) (.slice (some ⟨w.heap.size, 0, none⟩) 0 0) 0 [] (by rfl) HO.out ⟨b, o, none⟩ xs.length c (fl xs) (by rfl) HL.out HC.out H1.out (by omega) (by unfold maxLen; omega) (by omega) (by simp) (w.heap.size + 1) (by simp) ?_; intro g cap w3 hown3 hgrow hat hlt3; have HX : Hid (Below w.heap.size w w3) := Lib.hid ((below_al (Below.refl _ _) _).grown hgrow (by simp) (fun j hj => by (have hj' : some w.heap.size = some j := hj); injection hj' with hj'; omega)); clear hgrow hat hlt3)
  go_ret
  rw [Nat.zero_add, List.nil_append] at hown3
  exact ⟨_, _, rfl, hown3, HX.out⟩

theorem fitB_mk {n : Nat} {xs r : List Nat} (hv : validB n xs = true) (hn1 : 1 ≤ n) (hn2 : n ≤ 12) (hl : r.length = n) (hr : r.all leastB = true) : fitB n xs r = true := by
  unfold fitB rowB
  rw [hv, hr, decide_eq_true (by omega), decide_eq_true (by omega), decide_eq_true (by omega)]
  rfl
/-- memory while a row runs: s steps are made, N - s are to come -/
def RR (W1 : World) (xs : List Nat) (n N : Nat) (row : List Nat) (s : Nat) (v : Value) (wr : World) : Prop :=
  Below W1.heap.size W1 wr ∧ ∃ r A c, v = .slice A n c ∧ wr.ownsRow W1.heap.size 31 1 (.slice A n c) n (fl r) ∧ r.length = n ∧ r.all leastB = true ∧ runRow xs n (N - s) r = runRow xs n N row
theorem runRow_yes {xs r : List Nat} {n s : Nat} (h : (stepRow xs r n).all (isFin single) = true) : runRow xs n (s + 1) r = runRow xs n s (stepRow xs r n) := if_pos h
theorem runRow_no {xs r : List Nat} {n s : Nat} (h : (stepRow xs r n).all (isFin single) = false) : runRow xs n (s + 1) r = none := if_neg (by rw [h]; simp)
/-- what a run gives -/
def runGive (xs row : List Nat) (n N : Nat) : List Nat := (runRow xs n N row).getD []
def runOk (xs row : List Nat) (n N : Nat) : Bool := (runRow xs n N row).isSome
def runB (side : Int) (xs row : List Nat) (steps : Int) : Bool := fitB side xs row && inB steps 0 512

set_option maxHeartbeats 1600000 in
theorem RunRow_bad (side : Int) (A : Option Addr) (xs : List Nat) (c : Nat) (B : Option Addr) (row : List Nat) (d : Nat) (steps : Int) (w : World) (hx : xs.length ≤ c) (hc : c ≤ 9223372036854775807) (hr : row.length ≤ 9223372036854775807) (hA : Rd w w.heap.size A (fl xs)) (hB : Rd w w.heap.size B (fl row)) (hb : runB side xs row steps = false) :
    Calls Try.prog 18 #[.agg #[.int .i64 side, .slice A xs.length c], .slice B row.length d, .int .i64 steps] w (flOut [] false w) := by
  have HF := Lib.hid fun W h h' => isRowOf_any side A xs c B row d W hx hc hr h h'
  have HW := Lib.hid fun W => within_any steps 0 512 W
  unfold runB at hb
  cases hf : fitB side xs row with
  | false =>
    rw [hf] at HF
    clear hb hf HW
    go_enter Try.func18, Try.ntmps18
    go_wp2_with (go_at_call 32; refine (HF.out _ (hA.at_ ((Below.refl _ _).alloc (Nat.le_refl _) _)) (hB.at_ ((Below.refl _ _).alloc (Nat.le_refl _) _))).mono ?_; rintro e w1 ⟨rfl, hb1⟩)
    go_ret2
    exact flOut_none (below_next (below_al (Below.refl _ _) _) hb1)
  | true =>
    rw [hf, Bool.true_and] at hb
    rw [hf] at HF
    rw [hb] at HW
    clear hb hf
    go_enter Try.func18, Try.ntmps18
    go_wp2_with (first
      | (go_at_call 32; refine (HF.out _ (hA.at_ ((Below.refl _ _).alloc (Nat.le_refl _) _)) (hB.at_ ((Below.refl _ _).alloc (Nat.le_refl _) _))).mono ?_; rintro e w1 ⟨rfl, hb1⟩)
      | (go_at_call 51; refine (HW.out _).mono ?_; rintro e w2 ⟨rfl, m2, rfl⟩))
    go_ret2
    exact flOut_none (below_drewN (below_next (below_al (Below.refl _ _) _) hb1) _)

set_option maxRecDepth 100000 in
set_option maxHeartbeats 3200000 in
theorem RunRow_ok (n : Nat) (A : Option Addr) (xs : List Nat) (c : Nat) (B : Option Addr) (row : List Nat) (d N : Nat) (w : World) (hx : xs.length ≤ c) (hc : c ≤ 9223372036854775807) (hA : Rd w w.heap.size A (fl xs)) (hB : Rd w w.heap.size B (fl row)) (hf : fitB n xs row = true) (hN : N ≤ 512) :
    Calls Try.prog 18 #[.agg #[.int .i64 n, .slice A xs.length c], .slice B row.length d, .int .i64 N] w (flOut (runGive xs row n N) (runOk xs row n N) w) := by
  obtain ⟨n', hn', hn1, hn2, hl, hp, hrl, hrw, hv, hw⟩ := fitB_facts hf
  obtain rfl : n = n' := by omega
  have HF := Lib.hid fun W h h' => isRowOf_any n A xs c B row d W hx hc (by omega) h h'
  rw [hf] at HF
  have HW := Lib.hid fun W => within_any N 0 512 W
  have hin : inB N 0 512 = true := decide_eq_true (by omega)
  rw [hin] at HW
  have HCL := Lib.hid fun W h => cloneF_any B row d W (by omega) (by omega) h
  have HST : Hid (∀ A' c' r W, r.length = n → r.all leastB = true → Rd W W.heap.size A (fl xs) → Rd W W.heap.size A' (fl r) → Calls Try.prog 12 #[.agg #[.int .i64 n, .slice A xs.length c], .slice A' n c'] W (flOut (rowGive xs r n) ((stepRow xs r n).all (isFin single)) W)) := Lib.hid fun A' c' r W h1 h2 h h' => by
    have := StepRow_ok n A xs c A' r c' W hx hc h h' (fitB_mk hv hn1 hn2 h1 h2)
    rwa [h1] at this
  have HSL : Hid (∀ r, r.length = n → r.all leastB = true → (stepRow xs r n).all (isFin single) = true → (stepRow xs r n).all leastB = true) := Lib.hid fun r h1 h2 h3 => stepRow_least hl hp h1 h2 h3
  have HRL := Lib.hid hrl
  have HRW := Lib.hid hrw
  have hb2 : runGive xs row n N = (runRow xs n N row).getD [] := rfl
  have hb3 : runOk xs row n N = (runRow xs n N row).isSome := rfl
  have HG2 := Lib.hid hb2
  have HG3 := Lib.hid hb3
  have HA := Lib.hid hA
  have HB := Lib.hid hB
  rw [hrl] at HF HCL ⊢
  clear hf hin hl hp hrl hrw hv hw hx hc hn' hb2 hb3 hA hB
  go_enter Try.func18, Try.ntmps18
  go_wp2_with fail
  refine (HF.out _ (HA.out.at_ (below_al (Below.refl _ _) _)) (HB.out.at_ (below_al (Below.refl _ _) _))).mono ?_
  rintro e w1 ⟨rfl, hb1⟩
  have z0 : w1.cell? ⟨w.heap.size, 0, none⟩ = some (.int .i64 n) := keepC hb1 (by simp [go_sem])
  have z1 : w1.cell? ⟨w.heap.size, 1, none⟩ = some (.slice A xs.length c) := keepC hb1 (by simp [go_sem])
  have HB1 := Lib.hid (below_next (below_al (Below.refl _ _) _) hb1)
  clear hb1
  go_wp2_with (go_at_call 51; refine (HW.out _).mono ?_; rintro e w2 ⟨rfl, m2, rfl⟩; skip)
  have hbd : Below w.heap.size w (w1.drewN m2) := below_drewN HB1.out m2
  have y0 : (w1.drewN m2).cell? ⟨w.heap.size, 0, none⟩ = some (.int .i64 n) := z0
  have y1 : (w1.drewN m2).cell? ⟨w.heap.size, 1, none⟩ = some (.slice A xs.length c) := z1
  generalize w1.drewN m2 = W1 at *
  clear z0 z1 HB1
  refine (HCL.out _ (HB.out.at_ hbd)).mono ?_
  rintro e w3 ⟨A3, c3, rfl, hown3, hb3⟩
  have START : Hid (RR W1 xs n N row 0 (.slice A3 n c3) w3) := Lib.hid ⟨hb3, row, A3, c3, rfl, hown3, HRL.out, HRW.out, rfl⟩
  have HBD := Lib.hid hbd
  clear hown3 hb3 hbd HF HW HCL HRL HRW
  go_wp2_with fail
  go_loopw [8, 23] (fun v i wr => ∃ s : Nat, s ≤ N ∧ i = .int .i64 s ∧ RR W1 xs n N row s v wr) (fun _ i _ => N - (intOf i).toNat)
  case atStart => exact ⟨0, Nat.zero_le _, rfl, START.out⟩
  case round =>
    obtain ⟨s, hs, rfl, hbw, r, A4, c4, rfl, hown, hrl, hrw, hrun⟩ := hrel
    rename World => wr
    have g0 : wr.cell? ⟨w.heap.size, 0, none⟩ = some (.int .i64 n) := keepC hbw y0
    have g1 : wr.cell? ⟨w.heap.size, 1, none⟩ = some (.slice A xs.length c) := keepC hbw y1
    have HRUN := Lib.hid hrun
    have HOWN := Lib.hid hown
    have HBW := Lib.hid hbw
    have HRL := Lib.hid hrl
    have HRW := Lib.hid hrw
    clear hown hrl hrw hrun hbw
    by_cases hlt : s < N
    · have HGV : Hid (rowGive xs r n = if (stepRow xs r n).all (isFin single) = true then stepRow xs r n else []) := Lib.hid rfl
      have hst := HST.out A4 c4 r wr HRL.out HRW.out (HA.out.at_ (below_next HBD.out HBW.out)) (Rd.of_own HOWN.out)
      cases hfin : (stepRow xs r n).all (isFin single) with
      | true =>
        have hg : rowGive xs r n = stepRow xs r n := by rw [HGV.out, if_pos hfin]
        rw [hfin, hg] at hst
        unfold flOut at hst
        rw [stepRow_len] at hst
        have HSTC := Lib.hid hst
        have HNX : Hid (∀ A5 c5 w5, w5.ownsRow wr.heap.size 31 1 (.slice A5 n c5) n (fl (stepRow xs r n)) → Below wr.heap.size wr w5 → RR W1 xs n N row (s + 1) (.slice A5 n c5) w5) := Lib.hid fun A5 c5 w5 ho hb => ⟨below_next HBW.out hb, stepRow xs r n, A5, c5, rfl, own_base ho HBW.out.size, stepRow_len _ _ _, HSL.out r HRL.out HRW.out hfin, by
          have h1 : N - s = (N - (s + 1)) + 1 := by omega
          have h2 := HRUN.out
          rw [h1, runRow_yes hfin] at h2
          exact h2⟩
        clear hst hg hfin
        go_wp2_with (go_at_call 12; refine (HSTC.out).mono ?_; rintro e w5 ⟨A5, c5, rfl, hown5, hb5⟩)
        go_roundw
        case rel => exact ⟨s + 1, by omega, by go_num, HNX.out _ _ _ hown5 hb5⟩
        case measure => simp [intOf]; omega
      | false =>
        have hg : rowGive xs r n = [] := by rw [HGV.out, if_neg (by rw [hfin]; simp)]
        rw [hfin, hg] at hst
        have HSTC := Lib.hid hst
        have hno : runRow xs n N row = none := by
          have h1 : N - s = (N - (s + 1)) + 1 := by omega
          have h2 := HRUN.out
          rw [h1, runRow_no hfin] at h2
          exact h2.symm
        have HNO := Lib.hid hno
        clear hst hg hfin hno
        go_wp2_with (go_at_call 12; refine (HSTC.out).mono ?_; rintro e w5 ⟨A5, c5, rfl, hown5, hb5⟩)
        refine bodyPost_ret (v := .tuple #[.slice none 0 0, .bool false]) (by simp [results, Try.results18, go_sem]) rfl ?_
        rw [HG2.out, HG3.out, HNO.out]
        exact flOut_none (below_next (below_next HBD.out HBW.out) hb5)
    · have hsn : s = N := by omega
      have hyes : runRow xs n N row = some r := by
        have h2 := HRUN.out
        rw [hsn, Nat.sub_self] at h2
        exact h2.symm
      have HYES := Lib.hid hyes
      subst hsn
      clear hyes HST
      go_wp2_with fail
      refine bodyPost_ret (v := .tuple #[.slice A4 n c4, .bool true]) (by simp [results, Try.results18, go_sem]) rfl ?_
      rw [HG2.out, HG3.out, HYES.out]
      unfold flOut
      rw [show ((some r).getD []) = r from rfl, HRL.out]
      exact ⟨_, _, rfl, own_base HOWN.out HBD.out.size, below_next HBD.out HBW.out⟩
end Go.Proofs.Ytlhepgdheopgaaa

