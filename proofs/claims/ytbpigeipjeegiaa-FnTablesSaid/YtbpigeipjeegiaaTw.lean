/-
  impl.RowSums, ColumnSums (2 rows, 2 columns), Choices, ShareOfTail; laws.r8At, r8Long (printed by tabsgen15.py).
-/
import Derived.Test.YtbpigeipjeegiaaGc
import Derived.Test.YtbpigeipjeegiaaVf
import Derived.Test.YtbpigeipjeegiaaTq
namespace Go.Proofs.Ytbpigeipjeegiaa
open Go Go.RowKit

theorem tabB_two {a b c d : Nat} (hs : 1 ≤ a + b + c + d ∧ a + b + c + d ≤ 60) : tabB 2 2 [(a : Int), b, c, d] = true := by
  unfold tabB
  have e1 : sumI [(a : Int), b, c, d] 4 = ((a + b + c + d : Nat) : Int) := by
    have := sumI_nat [a, b, c, d] 4 (by simp)
    simp at this
    rw [this]
    push_cast
    omega
  have e2 : ([(a : Int), b, c, d]).length = 4 := rfl
  rw [e2, e1]
  simp only [Bool.and_eq_true, decide_eq_true_eq]
  refine ⟨⟨⟨⟨by decide, by decide⟩, by decide⟩, ?_⟩, inB_yes (by omega) (by omega)⟩
  simp only [List.all_cons, List.all_nil, Bool.and_eq_true, and_true]
  exact ⟨inB_yes (by omega) (by omega), inB_yes (by omega) (by omega), inB_yes (by omega) (by omega), inB_yes (by omega) (by omega)⟩
set_option maxRecDepth 100000 in
set_option maxHeartbeats 1600000 in
theorem RowSums_two (a b c d : Nat) (A : Option Addr) (ct : Nat) (w : World) (hs : 1 ≤ a + b + c + d ∧ a + b + c + d ≤ 60) (hct : 4 ≤ ct) (h : Rd w w.heap.size A (nlv [a, b, c, d])) :
    Calls Try.prog 6 #[tbV 2 2 A 4 ct] w (fun e w' => ∃ g2 c2, e = .returned (.tuple #[.slice (some ⟨g2, 0, none⟩) 2 c2, .bool true]) ∧ w.heap.size ≤ g2 ∧ w'.ownsRow 0 2 1 (.slice (some ⟨g2, 0, none⟩) 2 c2) 2 (nlv [a + b, c + d]) ∧ Below w.heap.size w w') := by
  have hv := tabB_two hs
  have hbx := below_al (Below.refl w.heap.size w) (.cells #[.int .i64 2, .int .i64 2, .slice A 4 ct] 26)
  have HV := Lib.hid (ValidTable_any 2 2 A [(a : Int), b, c, d] ct (w.alloc (.cells #[.int .i64 2, .int .i64 2, .slice A 4 ct] 26)) (by simp) (h.at_ hbx))
  rw [hv] at HV
  obtain ⟨g, o, rfl, hg, hcs⟩ := rd_cells (ns := [a, b, c, d]) h (by simp)
  have hcs : ∀ i, i < 2 * 2 → w.cell? ⟨g, o + i, none⟩ = some (.int .i64 (([a, b, c, d] : List Nat)[i]! : Nat)) := hcs
  have KB := Lib.hid hbx
  have HRS : Hid (∀ W, Below w.heap.size w W → Calls Try.prog 18 #[.agg #[.int .i64 2, .int .i64 2, .slice (some ⟨g, o, none⟩) 4 ct]] W (fun e w' => ∃ g2 c2, e = .returned (.slice (some ⟨g2, 0, none⟩) 2 c2) ∧ W.heap.size ≤ g2 ∧ w'.ownsRow 0 2 1 (.slice (some ⟨g2, 0, none⟩) 2 c2) 2 (nlv [a + b, c + d]) ∧ Below W.heap.size W w')) := Lib.hid fun W hW => by
    have := rowSums_any g o 2 2 ct [a, b, c, d] W (by omega) (by omega) hct rfl (by simp; omega) (by have := hW.size; omega) (fun i hi => keepC hW (hcs i hi))
    rw [show rowsS [a, b, c, d] 2 2 = [a + b, c + d] by simp [rowsS, chN, List.range_succ]] at this
    exact this
  unfold tbV at *
  unfold BoolOut at HV
  clear h hv hcs
  have e4 : ([(a : Int), b, c, d]).length = 4 := rfl
  rw [e4] at HV
  have hz1 : (w.alloc (.cells #[.int .i64 2, .int .i64 2, .slice (some ⟨g, o, none⟩) 4 ct] 26)).heap.size = w.heap.size + 1 := by simp
  have k1 : (w.alloc (.cells #[.int .i64 2, .int .i64 2, .slice (some ⟨g, o, none⟩) 4 ct] 26)).cell? ⟨w.heap.size, 0, none⟩ = some (.int .i64 2) := by simp
  have k2 : (w.alloc (.cells #[.int .i64 2, .int .i64 2, .slice (some ⟨g, o, none⟩) 4 ct] 26)).cell? ⟨w.heap.size, 1, none⟩ = some (.int .i64 2) := by simp
  have k3 : (w.alloc (.cells #[.int .i64 2, .int .i64 2, .slice (some ⟨g, o, none⟩) 4 ct] 26)).cell? ⟨w.heap.size, 2, none⟩ = some (.slice (some ⟨g, o, none⟩) 4 ct) := by simp
  go_enter Try.func6, Try.ntmps6
  go_upto_region 1 with fail
  generalize World.alloc w _ = w1 at *
  go_wp2_with (first
    | (go_at_call 17; refine HV.out.mono ?_; rintro e w2 ⟨rfl, hb2⟩; have m1 := keepC hb2 k1; have m2 := keepC hb2 k2; have m3 := keepC hb2 k3; have B2 := Lib.hid (below_next KB.out hb2); clear hb2)
    | (go_at_call 18; refine (HRS.out _ B2.out).mono ?_; rintro e w3 ⟨g2, c2, rfl, hg2, ho3, hb3⟩; have B3 := Lib.hid (below_next B2.out hb3); have O3 := Lib.hid ho3; have G3 := Lib.hid hg2; clear hb3 ho3 hg2))
  go_ret2
  exact ⟨g2, c2, rfl, by have := B2.out.size; have := G3.out; omega, O3.out, B3.out⟩
set_option maxRecDepth 100000 in
set_option maxHeartbeats 1600000 in
theorem ColumnSums_two (a b c d : Nat) (A : Option Addr) (ct : Nat) (w : World) (hs : 1 ≤ a + b + c + d ∧ a + b + c + d ≤ 60) (hct : 4 ≤ ct) (h : Rd w w.heap.size A (nlv [a, b, c, d])) :
    Calls Try.prog 7 #[tbV 2 2 A 4 ct] w (fun e w' => ∃ g2 c2, e = .returned (.tuple #[.slice (some ⟨g2, 0, none⟩) 2 c2, .bool true]) ∧ w.heap.size ≤ g2 ∧ w'.ownsRow 0 2 1 (.slice (some ⟨g2, 0, none⟩) 2 c2) 2 (nlv [a + c, b + d]) ∧ Below w.heap.size w w') := by
  have hv := tabB_two hs
  have hbx := below_al (Below.refl w.heap.size w) (.cells #[.int .i64 2, .int .i64 2, .slice A 4 ct] 26)
  have HV := Lib.hid (ValidTable_any 2 2 A [(a : Int), b, c, d] ct (w.alloc (.cells #[.int .i64 2, .int .i64 2, .slice A 4 ct] 26)) (by simp) (h.at_ hbx))
  rw [hv] at HV
  obtain ⟨g, o, rfl, hg, hcs⟩ := rd_cells (ns := [a, b, c, d]) h (by simp)
  have hcs : ∀ i, i < 2 * 2 → w.cell? ⟨g, o + i, none⟩ = some (.int .i64 (([a, b, c, d] : List Nat)[i]! : Nat)) := hcs
  have KB := Lib.hid hbx
  have HRS : Hid (∀ W, Below w.heap.size w W → Calls Try.prog 19 #[.agg #[.int .i64 2, .int .i64 2, .slice (some ⟨g, o, none⟩) 4 ct]] W (fun e w' => ∃ g2 c2, e = .returned (.slice (some ⟨g2, 0, none⟩) 2 c2) ∧ W.heap.size ≤ g2 ∧ w'.ownsRow 0 2 1 (.slice (some ⟨g2, 0, none⟩) 2 c2) 2 (nlv [a + c, b + d]) ∧ Below W.heap.size W w')) := Lib.hid fun W hW => by
    have := columnSums_any g o 2 2 ct [a, b, c, d] W (by omega) rfl (by omega) (by simp; omega) (by have := hW.size; omega) (fun i hi => keepC hW (hcs i hi))
    rw [show colsS [a, b, c, d] 2 = [a + c, b + d] by simp [colsS, colsTo, List.range_succ]] at this
    exact this
  unfold tbV at *
  unfold BoolOut at HV
  clear h hv hcs
  have e4 : ([(a : Int), b, c, d]).length = 4 := rfl
  rw [e4] at HV
  have hz1 : (w.alloc (.cells #[.int .i64 2, .int .i64 2, .slice (some ⟨g, o, none⟩) 4 ct] 26)).heap.size = w.heap.size + 1 := by simp
  have k1 : (w.alloc (.cells #[.int .i64 2, .int .i64 2, .slice (some ⟨g, o, none⟩) 4 ct] 26)).cell? ⟨w.heap.size, 0, none⟩ = some (.int .i64 2) := by simp
  have k2 : (w.alloc (.cells #[.int .i64 2, .int .i64 2, .slice (some ⟨g, o, none⟩) 4 ct] 26)).cell? ⟨w.heap.size, 1, none⟩ = some (.int .i64 2) := by simp
  have k3 : (w.alloc (.cells #[.int .i64 2, .int .i64 2, .slice (some ⟨g, o, none⟩) 4 ct] 26)).cell? ⟨w.heap.size, 2, none⟩ = some (.slice (some ⟨g, o, none⟩) 4 ct) := by simp
  go_enter Try.func7, Try.ntmps7
  go_upto_region 1 with fail
  generalize World.alloc w _ = w1 at *
  go_wp2_with (first
    | (go_at_call 17; refine HV.out.mono ?_; rintro e w2 ⟨rfl, hb2⟩; have m1 := keepC hb2 k1; have m2 := keepC hb2 k2; have m3 := keepC hb2 k3; have B2 := Lib.hid (below_next KB.out hb2); clear hb2)
    | (go_at_call 19; refine (HRS.out _ B2.out).mono ?_; rintro e w3 ⟨g2, c2, rfl, hg2, ho3, hb3⟩; have B3 := Lib.hid (below_next B2.out hb3); have O3 := Lib.hid ho3; have G3 := Lib.hid hg2; clear hb3 ho3 hg2))
  go_ret2
  exact ⟨g2, c2, rfl, by have := B2.out.size; have := G3.out; omega, O3.out, B3.out⟩
set_option maxRecDepth 100000 in
set_option maxHeartbeats 800000 in
theorem Choices_ok (n k : Nat) (hn : n ≤ 60) (hk : k ≤ n) (w : World) : Calls Try.prog 11 #[.int .i64 n, .int .i64 k] w (fun e w' => e = .returned (.tuple #[.int .i64 (pas n k : Nat), .bool true]) ∧ Below w.heap.size w w') := by
  have H1 : Hid (∀ W, Calls Try.prog 24 #[.int .i64 n, .int .i64 0, .int .i64 60] W (fun e w' => e = .returned (.bool true) ∧ W = w')) := Lib.hid fun W => by
    have := within_same (n : Int) 0 60 W
    rw [inB_yes (by omega) (by omega)] at this
    exact this
  have H2 : Hid (∀ W, Calls Try.prog 24 #[.int .i64 k, .int .i64 0, .int .i64 n] W (fun e w' => e = .returned (.bool true) ∧ W = w')) := Lib.hid fun W => by
    have := within_same (k : Int) 0 n W
    rw [inB_yes (by omega) (by omega)] at this
    exact this
  have H3 := Lib.hid (choices_any n k hn hk w)
  generalize pas n k = r at *
  go_enter Try.func11, Try.ntmps11
  go_wp2_with (first
    | (go_at_call 24; (with_reducible refine (H1.out _).mono ?_); rintro e w' ⟨rfl, rfl⟩)
    | (go_at_call 24; (with_reducible refine (H2.out _).mono ?_); rintro e w' ⟨rfl, rfl⟩)
    | (go_at_call 25; (with_reducible refine H3.out.mono ?_); rintro e w3 ⟨rfl, hb3⟩; have B3 := Lib.hid hb3; clear hb3))
  go_ret2
  exact ⟨rfl, B3.out⟩
set_option maxHeartbeats 800000 in
theorem Choices_over (w : World) : Calls Try.prog 11 #[.int .i64 20, .int .i64 20] w (fun e w' => e = .returned (.tuple #[.int .i64 (pas 20 20 : Nat), .bool true]) ∧ Below w.heap.size w w') := Choices_ok 20 20 (by omega) (by omega) w
set_option maxRecDepth 100000 in
set_option maxHeartbeats 800000 in
theorem ShareOfTail_ok (p q s : Nat) (h1 : 1 ≤ p) (h2 : p ≤ q) (hs : floatBits .quo .f32 (floatOfInt .f32 (p : Int)) (floatOfInt .f32 (q : Int)) = some s) (w : World) : Calls Try.prog 13 #[.int .i64 p, .int .i64 q] w (fun e w' => e = .returned (.tuple #[.float .f32 s, .bool true]) ∧ w = w') := by
  have H1 : Hid (∀ W, Calls Try.prog 24 #[.int .i64 p, .int .i64 0, .int .i64 q] W (fun e w' => e = .returned (.bool true) ∧ W = w')) := Lib.hid fun W => by
    have := within_same (p : Int) 0 q W
    rw [inB_yes (by omega) (by omega)] at this
    exact this
  have hrun := fun w => run_float_arith (P := Try.prog) w .quo 35 .f32 _ _ _ hs
  have hq : ¬ (q : Int) < 1 := by omega
  clear h1 h2 hs
  go_enter Try.func13, Try.ntmps13
  go_wp2_with (go_at_call 24; (with_reducible refine (H1.out _).mono ?_); rintro e w' ⟨rfl, rfl⟩)
  go_ret2
  exact ⟨rfl, rfl⟩
theorem r8Long_any (A B : Option Addr) (n m ca cb : Nat) (w : World) : Calls Try.prog 4 #[.slice A n ca, .slice B m cb] w (fun e w' => e = .returned (.bool (decide (48 < n) || decide (48 < m))) ∧ w = w') := by
  by_cases h1 : 48 < n
  · have h1I : (48 : Int) < (n : Int) := by omega
    go_enter Try.func4, Try.ntmps4
    go_wp2
    go_ret
    exact ⟨by simp [h1], rfl⟩
  · have h1I : ¬ (48 : Int) < (n : Int) := by omega
    by_cases h2 : 48 < m
    · have h2I : (48 : Int) < (m : Int) := by omega
      go_enter Try.func4, Try.ntmps4
      go_wp2
      go_ret
      exact ⟨by simp [h1, h2], rfl⟩
    · have h2I : ¬ (48 : Int) < (m : Int) := by omega
      go_enter Try.func4, Try.ntmps4
      go_wp2
      go_ret
      exact ⟨by simp [h1, h2], rfl⟩
/-- a byte of an input, or 0 -/
theorem r8At_any (A : Option Addr) (n ca N : Nat) (w : World) (hN : 1 < N ∧ N ≤ 100) (h : ∀ a, a < n → ∃ b off v, A = some ⟨b, off, none⟩ ∧ b < w.heap.size ∧ (v : Nat) ≤ 255 ∧ w.cell? ⟨b, off + a, none⟩ = some (.int .u8 (v : Nat))) :
    Calls Try.prog 14 #[.slice A n ca, .int .i64 0, .int .i64 N] w (fun e w' => ∃ k : Nat, k < N ∧ e = .returned (.int .i64 k) ∧ w = w') := by
  have hN1 : ¬ (N : Int) ≤ 1 := by omega
  by_cases hn : 0 < n
  · obtain ⟨b, off, v, rfl, hb, hv, hc⟩ := h 0 hn
    rw [Nat.add_zero] at hc
    have hnI : ¬ (n : Int) ≤ 0 := by omega
    have hnI2 : (0 : Int) < (n : Int) := by omega
    have HV : Hid (v % N < N ∧ ((v : Int) % (N : Int)) = ((v % N : Nat) : Int)) := Lib.hid ⟨Nat.mod_lt _ (by omega), by omega⟩
    clear h
    go_enter Try.func14, Try.ntmps14
    go_wp2
    go_ret
    exact ⟨v % N, HV.out.1, by first | rfl | (rw [← HV.out.2]; rfl) | (congr 2; exact HV.out.2), rfl⟩
  · obtain rfl : n = 0 := by omega
    clear h
    go_enter Try.func14, Try.ntmps14
    go_wp2
    go_ret
    exact ⟨0, by omega, rfl, rfl⟩
end Go.Proofs.Ytbpigeipjeegiaa
