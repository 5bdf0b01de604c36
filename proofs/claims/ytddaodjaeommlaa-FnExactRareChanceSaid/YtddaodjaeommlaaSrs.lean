/-
  spec.l07Step and spec.StepRow.
-/
import Derived.Test.YtddaodjaeommlaaSrp
import Derived.Test.YtddaodjaeommlaaJoi2
namespace Go.Proofs.Ytddaodjaeommlaa
open Go Go.RowKit Ieee
attribute [local go_sem] run_store_float

def stepTo (xs row : List Nat) (n k : Nat) : List Nat := (List.range k).map fun p => dotRow xs row n p n
theorem stepTo_succ (xs row : List Nat) (n k : Nat) : stepTo xs row n (k + 1) = stepTo xs row n k ++ [dotRow xs row n k n] := by
  unfold stepTo
  rw [List.range_succ, List.map_append]
  rfl
theorem stepTo_len (xs row : List Nat) (n k : Nat) : (stepTo xs row n k).length = k := by simp [stepTo]

set_option maxRecDepth 100000 in
set_option maxHeartbeats 3200000 in
theorem l07Step_any (b : Nat) (n : Nat) (A : Option Addr) (xs : List Nat) (c : Nat) (B : Option Addr) (row : List Nat) (d : Nat) (w : World) (_hx : xs.length ≤ 9223372036854775807) (hc0 : w.cell? ⟨b, 0, none⟩ = some (.int .i64 n)) (hc1 : w.cell? ⟨b, 1, none⟩ = some (.slice A xs.length c)) (hA : Rd w w.heap.size A (fl xs)) (hB : Rd w w.heap.size B (fl row)) (hn1 : 1 ≤ n) (hn2 : n ≤ 12) (hl : xs.length = n * n) (hp : xs.all partB = true) (hrl : row.length = n) (hrw : row.all leastB = true) :
    Calls Try.prog 113 #[.pointer (some ⟨b, 0, none⟩), .slice B row.length d] w (fun e w' => ∃ A' c', e = .returned (.slice A' n c') ∧ w'.ownsRow w.heap.size 33 1 (.slice A' n c') n (fl (stepRow xs row n)) ∧ Below w.heap.size w w') := by
  have HR : Hid (∀ k i, k < n → i < n → floatBits .mul .f32 (rowOf row i) (stepOf xs n i k) = some (fmul (rowOf row i) (stepOf xs n i k)) ∧ floatBits .add .f32 (dotRow xs row n k i) (fmul (rowOf row i) (stepOf xs n i k)) = some (dotRow xs row n k (i + 1))) := Lib.hid fun k i hk hi => ((dotRow_runs hl hp hrl hrw hk) i (by omega)).2 hi
  obtain ⟨b2, o2, rfl, hb2, hc2⟩ := hB (by rw [fl_len]; omega)
  obtain ⟨b1, o1, rfl, hb1, hc1'⟩ := hA (by rw [fl_len, hl]; exact Nat.mul_pos (by omega) (by omega))
  have HRC : Hid (∀ i, i < n → w.cell? ⟨b2, o2 + i, none⟩ = some (.float .f32 (rowOf row i))) := Lib.hid fun i hi => rowOf_cell (by omega) hc2
  have HXC : Hid (∀ i k, i < n → k < n → w.cell? ⟨b1, o1 + (i * n + k), none⟩ = some (.float .f32 (stepOf xs n i k))) := Lib.hid fun i k hi hk => stepOf_cell hl hi hk hc1'
  have HIX : Hid (∀ i k, i < n → k < n → i * n + k < n * n) := Lib.hid fun i k hi hk => idx_lt hi hk
  have hnn : n * n ≤ 144 := Nat.mul_le_mul hn2 hn2
  have hxl : n * n ≤ xs.length := by omega
  have hbl := lt_of_cell hc0
  have HL := Lib.hid hl
  have HALL : Hid (stepTo xs row n n = stepRow xs row n) := Lib.hid rfl
  have HSU := Lib.hid fun k => stepTo_succ xs row n k
  obtain ⟨i0, hi0, hz0, hz1, hz2⟩ := info_parts info_f32
  rw [hrl]
  clear hl hp hrl hrw hA hB hc2 hc1'
  have hw0 : ∀ o, w.frozen? ⟨w.heap.size, o, none⟩ = w.frozen? ⟨w.heap.size, o, none⟩ := fun _ => rfl
  clear hw0
  go_enter Try.func113, Try.ntmps113
  go_wp2_with fail
  generalize hW1 : World.alloc w _ = W1
  have START : Hid (Grow w 33 0 (fl (stepTo xs row n 0)) (.slice (some ⟨w.heap.size, 0, none⟩) 0 0) W1) := by rw [← hW1]; exact Lib.hid (Grow.empty _ _)
  clear hW1
  go_loopw [5, 6] (fun v i wr => ∃ k : Nat, k ≤ n ∧ i = .int .i64 k ∧ Grow w 33 k (fl (stepTo xs row n k)) v wr) (fun _ i _ => n - (intOf i).toNat)
  case atStart => exact ⟨0, Nat.zero_le _, rfl, START.out⟩
  case round =>
    obtain ⟨k, hk, rfl, hgr⟩ := hrel
    rename World => wr
    obtain ⟨hbw, A', c', rfl, hown⟩ := hgr
    have g0 : wr.cell? ⟨b, 0, none⟩ = some (.int .i64 n) := keepC hbw hc0
    have g1 : wr.cell? ⟨b, 1, none⟩ = some (.slice (some ⟨b1, o1, none⟩) xs.length c) := keepC hbw hc1
    have HBW := Lib.hid hbw
    by_cases hlt : k < n
    · have HXR : Hid (∀ i, i < n → wr.cell? ⟨b2, o2 + i, none⟩ = some (.float .f32 (rowOf row i))) := Lib.hid fun i hi => (HBW.out.cell (p := ⟨b2, o2 + i, none⟩) hb2).trans (HRC.out i hi)
      have HXX : Hid (∀ i, i < n → wr.cell? ⟨b1, o1 + (i * n + k), none⟩ = some (.float .f32 (stepOf xs n i k))) := Lib.hid fun i hi => (HBW.out.cell (p := ⟨b1, o1 + (i * n + k), none⟩) hb1).trans (HXC.out i k hi hlt)
      have HRR := Lib.hid fun i hi => HR.out k i hlt hi
      have HD0 : Hid (dotRow xs row n k 0 = 0) := Lib.hid rfl
      have HSU' := Lib.hid (HSU.out k)
      have HOWN := Lib.hid hown
      clear hbw hown
      generalize dotRow xs row n k = dt at *
      go_wp2_with fail
      go_loopw [7, 20] (fun s t W => ∃ i r : Nat, i ≤ n ∧ t = .int .i64 i ∧ s = .float .f32 (dt i) ∧ W = wr.drewN r) (fun _ t _ => n - (intOf t).toNat)
      case atStart => exact ⟨0, 0, Nat.zero_le _, rfl, by rw [HD0.out], rfl⟩
      case round =>
        obtain ⟨i, r, hi, rfl, rfl, rfl⟩ := hrel
        by_cases hit : i < n
        · obtain ⟨r1, r2⟩ := HRR.out i hit
          have e1 := fun w => run_float_arith (P := Try.prog) w .mul 33 .f32 _ _ _ r1
          have e2 := fun w => run_float_arith (P := Try.prog) w .add 33 .f32 _ _ _ r2
          have xa := HXR.out i hit
          have xb := HXX.out i hit
          have xi := HIX.out i k hit hlt
          have wj : IntKind.i64.wrap ((i : Int) * (n : Int)) = ((i * n : Nat) : Int) := by rw [show (i : Int) * (n : Int) = ((i * n : Nat) : Int) by push_cast; rfl]; exact IntWalk.i64_in _ (by omega)
          clear r1 r2
          generalize fmul (rowOf row i) (stepOf xs n i k) = z at *
          generalize rowOf row i = x at *
          generalize stepOf xs n i k = y at *
          generalize i * n = jn at *
          go_wp2_with fail
          go_quiet (fail)
          go_wp2_with fail
          go_roundw
          case rel => exact ⟨i + 1, _, by omega, by go_num, rfl, rfl⟩
          case measure => simp [intOf]; omega
        · have hie : n = i := by omega
          subst hie
          go_wp2_with (refine wpList_append_lies _ rfl _ _ _ rfl w.heap.size 33 i0 _ 1 4 Try.underlying22 hi0 hz0 hz1 hz2 rfl (by omega) (.slice A' k c') k (fl (stepTo xs row n k)) (by rfl) ((own_below HOWN.out (below_drewN (Below.refl _ _) r)).alloc _) ⟨wr.heap.size, 0, none⟩ 1 1 [.float .f32 (dt n)] (by rfl) (by rfl) (World.news_of_block (cs := #[.float .f32 (dt n)]) (t := 33) (fr := (0, 0)) (heap_alloc_new (wr.drewN r) _)) (by simp [Value.oneCell']) (by omega) (by unfold maxLen; omega) (by omega) (by simp; have := HBW.out.size; omega) (wr.heap.size + 1) (by simp) ?_; intro g cap w3 hown3 hgrow hat hlt3; have HX := Lib.hid (Grow.step HBW.out HOWN.out (below_drewN (Below.refl _ _) r) hgrow hown3); clear hown3 hgrow hat hlt3)
          go_roundw
          case rel => exact ⟨k + 1, by omega, by go_num, by rw [HSU'.out]; simpa [fl] using HX.out⟩
          case measure => simp [intOf]; omega
    · obtain rfl : k = n := by omega
      have HO := Lib.hid hown
      clear hown
      go_wp2_with fail
      go_ret
      rw [HALL.out] at HO
      exact ⟨_, _, rfl, HO.out, HBW.out⟩

set_option maxHeartbeats 1600000 in
theorem specStepRow_bad (side : Int) (A : Option Addr) (xs : List Nat) (c : Nat) (B : Option Addr) (row : List Nat) (d : Nat) (w : World) (hx : xs.length ≤ 9223372036854775807) (hr : row.length ≤ 9223372036854775807) (hA : Rd w w.heap.size A (fl xs)) (hB : Rd w w.heap.size B (fl row)) (hb : fitB side xs row = false) :
    Calls Try.prog 47 #[.agg #[.int .i64 side, .slice A xs.length c], .slice B row.length d] w (flOut [] false w) := by
  have HF := Lib.hid fun b W h0 h1 h h' => l07Fits_any b side A xs c B row d W hx hr h0 h1 h h'
  rw [hb] at HF
  clear hb
  go_enter Try.func47, Try.ntmps47
  go_wp2_with (go_at_call 106; refine (HF.out _ _ (by simp [go_sem]) (by simp [go_sem]) (hA.at_ (below_al (Below.refl _ _) _)) (hB.at_ (below_al (Below.refl _ _) _))).mono ?_; rintro e w1 ⟨rfl, m, rfl⟩)
  go_ret2
  exact flOut_none (below_drewN (below_al (Below.refl _ _) _) _)

set_option maxHeartbeats 1600000 in
theorem specStepRow_ok (n : Nat) (A : Option Addr) (xs : List Nat) (c : Nat) (B : Option Addr) (row : List Nat) (d : Nat) (w : World) (hx : xs.length ≤ 9223372036854775807) (hr : row.length ≤ 9223372036854775807) (hA : Rd w w.heap.size A (fl xs)) (hB : Rd w w.heap.size B (fl row)) (hf : fitB n xs row = true) :
    Calls Try.prog 47 #[.agg #[.int .i64 n, .slice A xs.length c], .slice B row.length d] w (flOut (rowGive xs row n) ((stepRow xs row n).all (isFin single)) w) := by
  obtain ⟨n', hn', hn1, hn2, hl, hp, hrl, hrw, hv, hw⟩ := fitB_facts hf
  obtain rfl : n = n' := by omega
  have HF := Lib.hid fun b W h0 h1 h h' => l07Fits_any b n A xs c B row d W hx hr h0 h1 h h'
  rw [hf] at HF
  have HT := Lib.hid fun b W h0 h1 h h' => l07Step_any b n A xs c B row d W hx h0 h1 h h' hn1 hn2 hl hp hrl hrw
  have HLI : Hid (∀ g c W, Rd W W.heap.size g (fl (stepRow xs row n)) → Calls Try.prog 112 #[.slice g n c] W (Quiet (.tuple #[if (stepRow xs row n).all (isFin single) = true then .slice g n c else .slice none 0 0, .bool ((stepRow xs row n).all (isFin single))]) W)) := Lib.hid fun g c W h => by
    have := l02List_any g (stepRow xs row n) c W (by rw [stepRow_len]; omega) h
    rwa [stepRow_len] at this
  have HSL : Hid ((stepRow xs row n).length = n) := Lib.hid (stepRow_len _ _ _)
  have HGV : Hid (rowGive xs row n = if (stepRow xs row n).all (isFin single) = true then stepRow xs row n else []) := Lib.hid rfl
  clear hf hl hp hrl hrw hv hw hx hr hn'
  cases hfin : (stepRow xs row n).all (isFin single) with
  | true =>
    have HFN := Lib.hid hfin
    rw [hfin] at HLI
    clear hfin
    go_enter Try.func47, Try.ntmps47
    go_wp2_with fail
    generalize hW1 : World.alloc w _ = W1
    have c0 : W1.cell? ⟨w.heap.size, 0, none⟩ = some (.int .i64 n) := by rw [← hW1]; simp [go_sem]
    have c1 : W1.cell? ⟨w.heap.size, 1, none⟩ = some (.slice A xs.length c) := by rw [← hW1]; simp [go_sem]
    have hb1 : Below w.heap.size w W1 := by rw [← hW1]; exact below_al (Below.refl _ _) _
    clear hW1
    refine (HF.out _ _ c0 c1 (hA.at_ hb1) (hB.at_ hb1)).mono ?_
    rintro e w1 ⟨rfl, m, rfl⟩
    go_wp2_with fail
    refine (HT.out _ (W1.drewN m) c0 c1 ((hA.at_ hb1).drewN m) ((hB.at_ hb1).drewN m)).mono ?_
    rintro e w2 ⟨A2, c2, rfl, hown, hb2⟩
    have hk2 : Below w.heap.size w w2 := below_next (below_drewN hb1 m) hb2
    have HO := Lib.hid (own_base (base' := w.heap.size) hown hb1.size)
    clear hown hb2
    go_wp2_with (go_at_call 112; refine (HLI.out _ _ _ (Rd.of_own HO.out)).mono ?_; rintro e w3 ⟨rfl, m3, rfl⟩)
    go_ret2
    rw [HGV.out, if_pos HFN.out]
    unfold flOut
    rw [HSL.out]
    exact ⟨_, _, rfl, own_below HO.out (below_drewN (Below.refl _ _) _), below_drewN hk2 _⟩
  | false =>
    have HFN := Lib.hid hfin
    rw [hfin] at HLI
    clear hfin
    go_enter Try.func47, Try.ntmps47
    go_wp2_with fail
    generalize hW1 : World.alloc w _ = W1
    have c0 : W1.cell? ⟨w.heap.size, 0, none⟩ = some (.int .i64 n) := by rw [← hW1]; simp [go_sem]
    have c1 : W1.cell? ⟨w.heap.size, 1, none⟩ = some (.slice A xs.length c) := by rw [← hW1]; simp [go_sem]
    have hb1 : Below w.heap.size w W1 := by rw [← hW1]; exact below_al (Below.refl _ _) _
    clear hW1
    refine (HF.out _ _ c0 c1 (hA.at_ hb1) (hB.at_ hb1)).mono ?_
    rintro e w1 ⟨rfl, m, rfl⟩
    go_wp2_with fail
    refine (HT.out _ (W1.drewN m) c0 c1 ((hA.at_ hb1).drewN m) ((hB.at_ hb1).drewN m)).mono ?_
    rintro e w2 ⟨A2, c2, rfl, hown, hb2⟩
    have hk2 : Below w.heap.size w w2 := below_next (below_drewN hb1 m) hb2
    have HO := Lib.hid (own_base (base' := w.heap.size) hown hb1.size)
    clear hown hb2
    go_wp2_with (go_at_call 112; refine (HLI.out _ _ _ (Rd.of_own HO.out)).mono ?_; rintro e w3 ⟨rfl, m3, rfl⟩)
    go_ret2
    rw [HGV.out, if_neg (by rw [HFN.out]; simp)]
    exact flOut_none (below_drewN hk2 _)
end Go.Proofs.Ytddaodjaeommlaa
