/-
  spec.l07Step and spec.StepRow.
-/
import Derived.Test.YtlhepgdheopgaaaSrp
import Derived.Test.YtlhepgdheopgaaaJoi2
namespace Go.Proofs.Ytlhepgdheopgaaa
open Go Go.RowKit Ieee
attribute [local go_sem] run_store_float

def stepTo (xs row : List Nat) (n k : Nat) : List Nat := (List.range k).map fun p => dotRow xs row n p n
theorem stepTo_succ (xs row : List Nat) (n k : Nat) : stepTo xs row n (k + 1) = stepTo xs row n k ++ [dotRow xs row n k n] := by
  unfold stepTo
  rw [List.range_succ, List.map_append]
  rfl
theorem stepTo_len (xs row : List Nat) (n k : Nat) : (stepTo xs row n k).length = k := by simp [stepTo]

set_option maxRecDepth 100000 in
set_option maxHeartbeats 3200000 in
theorem l07Step_any (b : Nat) (n : Nat) (A : Option Addr) (xs : List Nat) (c : Nat) (B : Option Addr) (row : List Nat) (d : Nat) (w : World) (_hx : xs.length ≤ 9223372036854775807) (hc0 : w.cell? ⟨b, 0, none⟩ = some (.int .i64 n)) (hc1 : w.cell? ⟨b, 1, none⟩ = some (.slice A xs.length c)) (hA : Rd w w.heap.size A (fl xs)) (hB : Rd w w.heap.size B (fl row)) (hn1 : 1 ≤ n) (hn2 : n ≤ 12) (hl : xs.length = n * n) (hp : xs.all partB = true) (hrl : row.length = n) (hrw : row.all leastB = true) :
    Calls Try.prog 44 #[.pointer (some ⟨b, 0, none⟩), .slice B row.length d] w (fun e w' => ∃ A' c', e = .returned (.slice A' n c') ∧ w'.ownsRow w.heap.size 31 1 (.slice A' n c') n (fl (stepRow xs row n)) ∧ Below w.heap.size w w') := by
  have HR : Hid (∀ k i, k < n → i < n → floatBits .mul .f32 (rowOf row i) (stepOf xs n i k) = some (fmul (rowOf row i) (stepOf xs n i k)) ∧ floatBits .add .f32 (dotRow xs row n k i) (fmul (rowOf row i) (stepOf xs n i k)) = some (dotRow xs row n k (i + 1))) := Lib.hid fun k i hk hi => ((dotRow_runs hl hp hrl hrw hk) i (by omega)).2 hi
  obtain ⟨b2, o2, rfl, hb2, hc2⟩ := hB (by rw [fl_len]; omega)
  obtain ⟨b1, o1, rfl, hb1, hc1'⟩ := hA (by rw [fl_len, hl]; exact Nat.mul_pos (by omega) (by omega))
  have HRC : Hid (∀ i, i < n → w.cell? ⟨b2, o2 + i, none⟩ = some (.float .f32 (rowOf row i))) := Lib.hid fun i hi => rowOf_cell (by omega) hc2
  have HXC : Hid (∀ i k, i < n → k < n → w.cell? ⟨b1, o1 + (i * n + k), none⟩ = some (.float .f32 (stepOf xs n i k))) := Lib.hid fun i k hi hk => stepOf_cell hl hi hk hc1'
  have HIX : Hid (∀ i k, i < n → k < n → i * n + k < n * n) := Lib.hid fun i k hi hk => idx_lt hi hk
  have hnn : n * n ≤ 144 := Nat.mul_le_mul hn2 hn2
  have hxl : n * n ≤ xs.length := by omega
  have hbl := lt_of_cell hc0
  have HL := Lib.hid hl
  have HALL : Hid (stepTo xs row n n = stepRow xs row n) := Lib.hid rfl
  have HSU := Lib.hid fun k => stepTo_succ xs row n k
  obtain ⟨i0, hi0, hz0, hz1, hz2⟩ := info_parts info_f32
  rw [hrl]
  clear hl hp hrl hrw hA hB hc2 hc1'
  have hw0 : ∀ o, w.frozen? ⟨w.heap.size, o, none⟩ = w.frozen? ⟨w.heap.size, o, none⟩ := fun _ => rfl
  clear hw0
  go_enter Try.func44, Try.ntmps44
  go_wp2_with fail
  generalize hW1 : World.alloc w _ = W1
  have START : Hid (Grow w 31 0 (fl (stepTo xs row n 0)) (.slice (some ⟨w.heap.size, 0, none⟩) 0 0) W1) := by rw [← hW1]; exact Lib.hid (Grow.empty _ _)
  clear hW1
  go_loopw [5, 6] (fun v i wr => ∃ k : Nat, k ≤ n ∧ i = .int .i64 k ∧ Grow w 31 k (fl (stepTo xs row n k)) v wr) (fun _ i _ => n - (intOf i).toNat)
  case atStart => exact ⟨0, Nat.zero_le _, rfl, START.out⟩
  case round =>
    obtain ⟨k, hk, rfl, hgr⟩ := hrel
    rename World => wr
    obtain ⟨hbw, A', c', rfl, hown⟩ := hgr
    have g0 : wr.cell? ⟨b, 0, none⟩ = some (.int .i64 n) := keepC hbw hc0
    have g1 : wr.cell? ⟨b, 1, none⟩ = some (.slice (some ⟨b1, o1, none⟩) xs.length c) := keepC hbw hc1
    have HBW := Lib.hid hbw
    by_cases hlt : k < n
    · have HXR : Hid (∀ i, i < n → wr.cell? ⟨b2, o2 + i, none⟩ = some (.float .f32 (rowOf row i))) := Lib.hid fun i hi => (HBW.out.cell (p := ⟨b2, o2 + i, none⟩) hb2).trans (HRC.out i hi)
      have HXX : Hid (∀ i, i < n → wr.cell? ⟨b1, o1 + (i * n + k), none⟩ = some (.float .f32 (stepOf xs n i k))) := Lib.hid fun i hi => (HBW.out.cell (p := ⟨b1, o1 + (i * n + k), none⟩) hb1).trans (HXC.out i k hi hlt)
      have HRR := Lib.hid fun i hi => HR.out k i hlt hi
      have HD0 : Hid (dotRow xs row n k 0 = 0) := Lib.hid rfl
      have HSU' := Lib.hid (HSU.out k)
      have HOWN := Lib.hid hown
      clear hbw hown
      generalize dotRow xs row n k = dt at *
      go_wp2_with fail
      go_loopw [7, 20] (fun s t W => ∃ i r : Nat, i ≤ n ∧ t = .int .i64 i ∧ s = .float .f32 (dt i) ∧ W = wr.drewN r) (fun _ t _ => n - (intOf t).toNat)
      case atStart => exact ⟨0, 0, Nat.zero_le _, rfl, by rw [HD0.out], rfl⟩
      case round =>
        obtain ⟨i, r, hi, rfl, rfl, rfl⟩ := hrel
        by_cases hit : i < n
        · obtain ⟨r1, r2⟩ := HRR.out i hit
          have e1 := fun w => run_float_arith (P := Try.prog) w .mul 31 .f32 _ _ _ r1
          have e2 := fun w => run_float_arith (P := Try.prog) w .add 31 .f32 _ _ _ r2
          have xa := HXR.out i hit
          have xb := HXX.out i hit
          have xi := HIX.out i k hit hlt
          have wj : IntKind.i64.wrap ((i : Int) * (n : Int)) = ((i * n : Nat) : Int) := by rw [show (i : Int) * (n : Int) = ((i * n : Nat) : Int) by push_cast; rfl]; exact IntWalk.i64_in _ (by omega)
          clear r1 r2
          generalize fmul (rowOf row i) (stepOf xs n i k) = z at *
          generalize rowOf row i = x at *
          generalize stepOf xs n i k = y at *
          generalize i * n = jn at *
          go_wp2_with fail
          go_quiet (fail)
          go_wp2_with fail
          go_roundw
          case rel => exact ⟨i + 1, _, by omega, by go_num, rfl, rfl⟩
          case measure => simp [intOf]; omega
        · have hie : n = i := by omega
          subst hie
          go_wp2_with (refine wpList_append_lies _ rfl _ _ _ rfl w.heap.size 31 i0 _ 1 4 Try.underlying24 hi0 hz0 hz1 hz2 rfl (by omega) (.slice A' k c') k (fl (stepTo xs row n k)) (by rfl) ((own_below HOWN.out (below_drewN (Below.refl _ _) r)).alloc _) ⟨wr.heap.size, 0, none⟩ 1 1 [.float .f32 (dt n)] (by rfl) (by rfl) (World.news_of_block (cs := #[.float .f32 (dt n)]) (t := 31) (fr := (0, 0)) (heap_alloc_new (wr.drewN r) _)) (by simp [Value.oneCell']) (by omega) (by unfold maxLen; omega) (by omega) (by simp; have := HBW.out.size; omega) (wr.heap.size + 1) (by simp) ?_; intro g cap w3 hown3 hgrow hat hlt3; have HX := Lib.hid (Grow.step HBW.out HOWN.out (below_drewN (Below.refl _ _) r) hgrow hown3); clear hown3 hgrow hat hlt3)
          go_roundw
          case rel => exact ⟨k + 1, by omega, by go_num, by rw [HSU'.out]; simpa [fl] using HX.out⟩
          case measure => simp [intOf]; omega
    · obtain rfl : k = n := by omega
      have HO := Lib.hid hown
      clear hown
      go_wp2_with fail
      go_ret
      rw [HALL.out] at HO
      exact ⟨_, _, rfl, HO.out, HBW.out⟩

end Go.Proofs.Ytlhepgdheopgaaa

