/-
  Contracts of the laws' helpers on desks: size, copy.
-/
import Derived.Test.YthkejpgffkahaaaDk1
import Derived.Test.YthkejpgffkahaaaOut
namespace Go.Proofs.Ythkejpgffkahaaa
open Go Go.RowKit

set_option maxHeartbeats 400000 in
theorem szInt64S_any (A : Option Addr) (n c : Nat) (left : Int) (w : World) (hn : n ≤ 9223372036854775807) (hl0 : 0 ≤ left) (hl : left ≤ 1048576) :
    Calls Try.prog 10 #[.slice A n c, .int .i64 left] w (Quiet (.int .i64 (leftOf left n)) w) := by
  have hlo : leftOf left n = if left - n < 0 then -1 else left - n := rfl
  generalize leftOf left n = r at *
  by_cases h : left - n < 0
  · rw [if_pos h] at hlo
    have HL := Lib.hid hlo
    clear hlo
    go_enter Try.func10, Try.ntmps10
    go_wp2
    go_ret
    rw [HL.out]
    exact .mk0
  · rw [if_neg h] at hlo
    have HL := Lib.hid hlo
    clear hlo
    go_enter Try.func10, Try.ntmps10
    go_wp2
    go_ret
    rw [HL.out]
    exact .mk0
theorem left_facts (left n : Int) (h0 : 0 ≤ left) (h : left ≤ 1048576) (hn : 0 ≤ n) : -1 ≤ leftOf left n ∧ leftOf left n ≤ 1048576 ∧ (leftOf left n < 0 → leftOf left n = -1) ∧ (¬ leftOf left n < 0 → n ≤ left ∧ leftOf left n = left - n) := by
  unfold leftOf
  split <;> omega
set_option maxHeartbeats 400000 in
theorem szTable_any (r l : Int) (A : Option Addr) (n c : Nat) (left : Int) (w : World) (hn : n ≤ 9223372036854775807) (hl0 : 0 ≤ left) (hl : left ≤ 1048576) :
    Calls Try.prog 9 #[.agg #[.int .i64 r, .int .i64 l, .slice A n c], .int .i64 left] w (fun e w' => e = .returned (.int .i64 (leftOf left n)) ∧ Below w.heap.size w w') := by
  have HS := Lib.hid fun w => szInt64S_any A n c left w hn hl0 hl
  obtain ⟨n1, n2, n3, _⟩ := left_facts left n hl0 hl (by omega)
  unfold Quiet at HS
  generalize leftOf left n = z at *
  have N3 := Lib.hid n3
  clear n3
  by_cases hr2 : z < 0
  · go_enter Try.func9, Try.ntmps9
    go_wp2_with (go_at_call 10; refine (HS.out _).mono ?_; rintro e w1 ⟨rfl, m, rfl⟩)
    go_ret
    rw [N3.out hr2]
    exact ⟨rfl, below_drewN (below_al (Below.refl _ _) _) _⟩
  · go_enter Try.func9, Try.ntmps9
    go_wp2_with (go_at_call 10; refine (HS.out _).mono ?_; rintro e w1 ⟨rfl, m, rfl⟩)
    go_ret
    exact ⟨rfl, below_drewN (below_al (Below.refl _ _) _) _⟩
def dkLeft (left n1 n2 n3 : Int) : Int := if leftOf left n1 < 0 then -1 else if leftOf (leftOf left n1) n2 < 0 then -1 else leftOf (leftOf (leftOf left n1) n2) n3
theorem dkLeft_facts {left n1 n2 n3 : Int} (h0 : 0 ≤ left) (h : left ≤ 1048576) (hn1 : 0 ≤ n1) (hn2 : 0 ≤ n2) (hn3 : 0 ≤ n3) (hz : ¬ dkLeft left n1 n2 n3 < 0) : n1 ≤ 1048576 ∧ n2 ≤ 1048576 ∧ n3 ≤ 1048576 ∧ 0 ≤ dkLeft left n1 n2 n3 ∧ dkLeft left n1 n2 n3 ≤ 1048576 := by
  unfold dkLeft at *
  unfold leftOf at *
  repeat (first | omega | split at hz)
  all_goals (try split)
  all_goals (try split)
  all_goals (try split)
  all_goals omega
set_option maxRecDepth 100000 in
set_option maxHeartbeats 1600000 in
theorem szDesk_any (k a b r l : Int) (A B C : Option Addr) (n1 n2 n3 c1 c2 c3 : Nat) (left : Int) (w : World) (hn1 : n1 ≤ 9223372036854775807) (hn2 : n2 ≤ 9223372036854775807) (hn3 : n3 ≤ 9223372036854775807) (hl0 : 0 ≤ left) (hl : left ≤ 1048576) :
    Calls Try.prog 4 #[dkA A B C n1 n2 n3 c1 c2 c3 k a b r l, .int .i64 left] w (fun e w' => e = .returned (.int .i64 (dkLeft left n1 n2 n3)) ∧ Below w.heap.size w w') := by
  have HD : Hid (dkLeft left n1 n2 n3 = if leftOf left n1 < 0 then -1 else if leftOf (leftOf left n1) n2 < 0 then -1 else leftOf (leftOf (leftOf left n1) n2) n3) := Lib.hid rfl
  have H1 := Lib.hid fun w => szTable_any r l A n1 c1 left w hn1 hl0 hl
  have H2 : Hid (¬ leftOf left n1 < 0 → ∀ w, Calls Try.prog 10 #[.slice B n2 c2, .int .i64 (leftOf left n1)] w (Quiet (.int .i64 (leftOf (leftOf left n1) n2)) w)) := Lib.hid fun h w => by
    obtain ⟨f1, f2, f3, f4⟩ := left_facts left n1 hl0 hl (by omega)
    exact szInt64S_any B n2 c2 _ w hn2 (by omega) f2
  have H3 : Hid (¬ leftOf left n1 < 0 → ¬ leftOf (leftOf left n1) n2 < 0 → ∀ w, Calls Try.prog 11 #[.slice C n3 c3, .int .i64 (leftOf (leftOf left n1) n2)] w (Quiet (.int .i64 (leftOf (leftOf (leftOf left n1) n2) n3)) w)) := Lib.hid fun h h' w => by
    obtain ⟨f1, f2, f3, f4⟩ := left_facts left n1 hl0 hl (by omega)
    obtain ⟨g1, g2, g3, g4⟩ := left_facts (leftOf left n1) n2 (by omega) f2 (by omega)
    exact szFloat32S_any C n3 c3 _ w hn3 (by omega) g2
  have HN1 : Hid (¬ leftOf left n1 < 0 → ¬ leftOf (leftOf left n1) n2 < 0 → leftOf (leftOf (leftOf left n1) n2) n3 < 0 → leftOf (leftOf (leftOf left n1) n2) n3 = -1) := Lib.hid fun h h' h2 => by
    obtain ⟨f1, f2, f3, f4⟩ := left_facts left n1 hl0 hl (by omega)
    obtain ⟨g1, g2, g3, g4⟩ := left_facts (leftOf left n1) n2 (by omega) f2 (by omega)
    exact (left_facts (leftOf (leftOf left n1) n2) n3 (by omega) g2 (by omega)).2.2.1 h2
  unfold Quiet at H2 H3
  unfold dkA
  generalize dkLeft left n1 n2 n3 = Z at *
  generalize leftOf (leftOf (leftOf left n1) n2) n3 = z3 at *
  generalize leftOf (leftOf left n1) n2 = z2 at *
  generalize leftOf left n1 = z1 at *
  by_cases h1 : z1 < 0
  · have HZ : Hid (Z = -1) := Lib.hid (by rw [HD.out, if_pos h1])
    go_enter Try.func4, Try.ntmps4
    go_wp2_with (go_at_call 9; refine (H1.out _).mono ?_; rintro e w1 ⟨rfl, hb⟩; have HB := Lib.hid (below_next (below_al (Below.refl _ _) _) hb); clear hb)
    go_ret
    rw [HZ.out]
    exact ⟨rfl, HB.out⟩
  · have H2' := Lib.hid (H2.out h1)
    by_cases h2 : z2 < 0
    · have HZ : Hid (Z = -1) := Lib.hid (by rw [HD.out, if_neg h1, if_pos h2])
      go_enter Try.func4, Try.ntmps4
      go_wp2_with fail
      generalize hW1 : World.alloc w _ = W1
      have p6 : W1.cell? ⟨w.heap.size, 6, none⟩ = some (.slice B n2 c2) := by rw [← hW1]; simp [go_sem]
      have b1 : Below w.heap.size w W1 := by rw [← hW1]; exact below_al (Below.refl _ _) _
      clear hW1
      refine (H1.out _).mono ?_
      rintro e w1 ⟨rfl, hb⟩
      have q6 := keepC hb p6
      have HB := Lib.hid (below_next b1 hb)
      clear hb p6 b1
      go_wp2_with (go_at_call 10; refine (H2'.out _).mono ?_; rintro e w2 ⟨rfl, m, rfl⟩)
      go_ret
      rw [HZ.out]
      exact ⟨rfl, below_drewN HB.out _⟩
    · have H3' := Lib.hid (H3.out h1 h2)
      have HZ : Hid (Z = z3) := Lib.hid (by rw [HD.out, if_neg h1, if_neg h2])
      have HN := Lib.hid (HN1.out h1 h2)
      by_cases h3 : z3 < 0
      all_goals
        go_enter Try.func4, Try.ntmps4
        go_wp2_with fail
        generalize hW1 : World.alloc w _ = W1
        have p6 : W1.cell? ⟨w.heap.size, 6, none⟩ = some (.slice B n2 c2) := by rw [← hW1]; simp [go_sem]
        have p7 : W1.cell? ⟨w.heap.size, 7, none⟩ = some (.slice C n3 c3) := by rw [← hW1]; simp [go_sem]
        have b1 : Below w.heap.size w W1 := by rw [← hW1]; exact below_al (Below.refl _ _) _
        clear hW1
        refine (H1.out _).mono ?_
        rintro e w1 ⟨rfl, hb⟩
        have q6 := keepC hb p6
        have q7 := keepC hb p7
        have HB := Lib.hid (below_next b1 hb)
        clear hb p6 p7 b1
        go_wp2_with (first
          | (go_at_call 10; refine (H2'.out _).mono ?_; rintro e w2 ⟨rfl, m, rfl⟩)
          | (go_at_call 11; refine (H3'.out _).mono ?_; rintro e w3 ⟨rfl, m2, rfl⟩))
        go_ret
        rw [HZ.out]
        first | exact ⟨rfl, by repeat (first | exact HB.out | refine below_drewN ?_ _)⟩ | (rw [HN.out h3]; exact ⟨rfl, by repeat (first | exact HB.out | refine below_drewN ?_ _)⟩)

theorem toSeed_any (k a b : Int) (w : World) : Calls Try.prog 13 #[.agg #[.int .i64 k, .int .u64 a, .int .u64 b]] w (fun e w' => e = .returned (.agg #[.int .i64 k, .int .u64 a, .int .u64 b]) ∧ Below w.heap.size w w') := by
  go_enter Try.func13, Try.ntmps13
  go_wp2
  refine bodyPost_ret (v := .agg #[.int .i64 k, .int .u64 a, .int .u64 b]) (by simp [results, Try.results13, go_sem]) rfl ⟨rfl, ?_⟩
  exact below_al (below_al (below_al (Below.refl _ _) _) _) _
/-- a box of three cells that can be written -/
def B3 (W : World) (p : Nat) (v0 v1 v2 : Value) : Prop :=
  (W.cell? ⟨p, 0, none⟩ = some v0 ∧ W.cell? ⟨p, 1, none⟩ = some v1 ∧ W.cell? ⟨p, 2, none⟩ = some v2) ∧ ∀ o, W.frozen? ⟨p, o, none⟩ = false
theorem B3.lt {W : World} {p : Nat} {v0 v1 v2 : Value} (h : B3 W p v0 v1 v2) : p < W.heap.size := lt_of_cell (a := ⟨p, 0, none⟩) h.1.1
theorem B3.keep {W W' : World} {p : Nat} {v0 v1 v2 : Value} (h : B3 W p v0 v1 v2) (hb : Below W.heap.size W W') : B3 W' p v0 v1 v2 :=
  ⟨⟨keepC hb h.1.1, keepC hb h.1.2.1, keepC hb h.1.2.2⟩, fun o => (hb.frozen (p := ⟨p, o, none⟩) h.lt).trans (h.2 o)⟩
set_option maxRecDepth 100000 in
set_option maxHeartbeats 3200000 in
theorem toTable_any (r l : Int) (A : Option Addr) (ds : List Int) (c : Nat) (w : World) (hx : ds.length ≤ 1048576) (h : Rd w w.heap.size A (il ds)) :
    Calls Try.prog 14 #[.agg #[.int .i64 r, .int .i64 l, .slice A ds.length c]] w (fun e w' => ∃ A', e = .returned (.agg #[.int .i64 r, .int .i64 l, .slice A' ds.length ds.length]) ∧ w'.ownsRow w.heap.size 2 1 (.slice A' ds.length ds.length) ds.length (il ds) ∧ Below w.heap.size w w') := by
  have HI := Lib.hid fun w h => toInt64S_any A ds c w hx h
  have HH := Lib.hid h
  clear h
  go_enter Try.func14, Try.ntmps14
  go_wp2_with fail
  generalize hW2 : World.alloc (World.alloc (World.alloc w _) _) _ = W2
  have k2 : W2.cell? ⟨w.heap.size, 2, none⟩ = some (.slice A ds.length c) := by rw [← hW2]; simp [go_sem]
  have P2 : B3 W2 (w.heap.size + 1) (.int .i64 0) (.int .i64 0) (.slice none 0 0) := by rw [← hW2]; simp [B3, go_sem]
  have Q2 : B3 W2 (w.heap.size + 1 + 1) (.int .i64 r) (.int .i64 l) (.slice none 0 0) := by rw [← hW2]; simp [B3, go_sem]
  have B2 : Below w.heap.size w W2 := by rw [← hW2]; exact below_al (below_al (below_al (Below.refl _ _) _) _) _
  have z2 : w.heap.size + 2 < W2.heap.size := lt_of_cell (a := ⟨w.heap.size + 1 + 1, 0, none⟩) Q2.1.1
  clear hW2
  refine (HI.out _ (HH.out.at_ B2)).mono ?_
  rintro e w3 ⟨A', rfl, hown, hb3⟩
  have P3 := P2.keep hb3
  have Q3 := Q2.keep hb3
  have B3' := Lib.hid (below_next B2 hb3)
  have O3 := Lib.hid (own_base hown (show w.heap.size + 3 ≤ W2.heap.size by omega))
  have z3 : w.heap.size + 2 < w3.heap.size := by have := hb3.size; omega
  clear hb3 hown k2 P2 Q2 B2 z2
  obtain ⟨⟨p0, p1, p2⟩, pf⟩ := P3
  obtain ⟨⟨q0, q1, q2⟩, qf⟩ := Q3
  go_wp2_with fail
  refine bodyPost_ret (v := .agg #[.int .i64 r, .int .i64 l, .slice A' ds.length ds.length]) (by simp [results, Try.results14, go_sem, p0, p1, p2]) rfl ⟨A', rfl, ?_, ?_⟩
  · refine own_base (base := w.heap.size + 3) ?_ (by omega)
    repeat (first | (with_reducible exact O3.out) | (with_reducible refine ownsRow_setCell_below ?_ (by simp; try omega) _))
  · repeat (first | (with_reducible exact B3'.out) | (with_reducible refine below_set ?_ _ _ (by simp; try omega)))
/-- a box of eight cells that can be written -/
def B8 (W : World) (p : Nat) (v0 v1 v2 v3 v4 v5 v6 v7 : Value) : Prop :=
  (W.cell? ⟨p, 0, none⟩ = some v0 ∧ W.cell? ⟨p, 1, none⟩ = some v1 ∧ W.cell? ⟨p, 2, none⟩ = some v2 ∧ W.cell? ⟨p, 3, none⟩ = some v3 ∧ W.cell? ⟨p, 4, none⟩ = some v4 ∧ W.cell? ⟨p, 5, none⟩ = some v5 ∧ W.cell? ⟨p, 6, none⟩ = some v6 ∧ W.cell? ⟨p, 7, none⟩ = some v7) ∧ ∀ o, W.frozen? ⟨p, o, none⟩ = false
theorem B8.lt {W : World} {p : Nat} {v0 v1 v2 v3 v4 v5 v6 v7 : Value} (h : B8 W p v0 v1 v2 v3 v4 v5 v6 v7) : p < W.heap.size := lt_of_cell (a := ⟨p, 0, none⟩) h.1.1
theorem B8.keep {W W' : World} {p : Nat} {v0 v1 v2 v3 v4 v5 v6 v7 : Value} (h : B8 W p v0 v1 v2 v3 v4 v5 v6 v7) (hb : Below W.heap.size W W') : B8 W' p v0 v1 v2 v3 v4 v5 v6 v7 := by
  have hl := h.lt
  obtain ⟨⟨h0, h1, h2, h3, h4, h5, h6, h7⟩, hf⟩ := h
  exact ⟨⟨keepC hb h0, keepC hb h1, keepC hb h2, keepC hb h3, keepC hb h4, keepC hb h5, keepC hb h6, keepC hb h7⟩, fun o => (hb.frozen (p := ⟨p, o, none⟩) hl).trans (hf o)⟩
set_option maxRecDepth 100000 in
set_option maxHeartbeats 6400000 in
theorem toDesk_any (k a b r l : Int) (A B C : Option Addr) (xs ys : List Int) (zs : List Nat) (c1 c2 c3 : Nat) (w : World) (hx : xs.length ≤ 1048576) (hy : ys.length ≤ 1048576) (hz : zs.length ≤ 1048576) (hA : Rd w w.heap.size A (il xs)) (hB : Rd w w.heap.size B (il ys)) (hC : Rd w w.heap.size C (fl zs)) :
    Calls Try.prog 6 #[dkA A B C xs.length ys.length zs.length c1 c2 c3 k a b r l] w (fun e w' => ∃ A' B' C', e = .returned (dkA A' B' C' xs.length ys.length zs.length xs.length ys.length zs.length k a b r l) ∧ Rd w' w'.heap.size A' (il xs) ∧ Rd w' w'.heap.size B' (il ys) ∧ Rd w' w'.heap.size C' (fl zs) ∧ Below w.heap.size w w') := by
  have HS := Lib.hid fun w => toSeed_any k a b w
  have HT := Lib.hid fun w h => toTable_any r l A xs c1 w hx h
  have HI := Lib.hid fun w h => toInt64S_any B ys c2 w hy h
  have HF := Lib.hid fun w h => toFloat32S_any C zs c3 w hz h
  have HA := Lib.hid hA
  have HB := Lib.hid hB
  have HC := Lib.hid hC
  unfold dkA
  clear hA hB hC
  go_enter Try.func6, Try.ntmps6
  go_wp2_with fail
  generalize hW0 : World.alloc (World.alloc (World.alloc w _) _) _ = W0
  have A0 : B8 W0 w.heap.size (.int .i64 k) (.int .u64 a) (.int .u64 b) (.int .i64 r) (.int .i64 l) (.slice A xs.length c1) (.slice B ys.length c2) (.slice C zs.length c3) := by rw [← hW0]; simp [B8, go_sem]
  have P0 : B8 W0 (w.heap.size + 1) (.int .i64 0) (.int .u64 0) (.int .u64 0) (.int .i64 0) (.int .i64 0) (.slice none 0 0) (.slice none 0 0) (.slice none 0 0) := by rw [← hW0]; simp [B8, go_sem]
  have Q0 : B8 W0 (w.heap.size + 1 + 1) (.int .i64 0) (.int .u64 0) (.int .u64 0) (.int .i64 0) (.int .i64 0) (.slice none 0 0) (.slice none 0 0) (.slice none 0 0) := by rw [← hW0]; simp [B8, go_sem]
  have b0 : Below w.heap.size w W0 := by rw [← hW0]; exact below_al (below_al (below_al (Below.refl _ _) _) _) _
  clear hW0
  refine (HS.out _).mono ?_
  rintro e w1 ⟨rfl, hb1⟩
  have A1 := Lib.hid (A0.keep hb1)
  have P1 := Lib.hid (P0.keep hb1)
  have Q1 := Lib.hid (Q0.keep hb1)
  have B1 := Lib.hid (below_next b0 hb1)
  have z1 : w.heap.size + 2 < w1.heap.size := Q1.out.lt
  clear hb1 A0 P0 Q0 b0
  obtain ⟨⟨a0, a1, a2, a3, a4, a5, a6, a7⟩, af⟩ := A1.out
  obtain ⟨⟨q0, q1, q2, q3, q4, q5, q6, q7⟩, qf⟩ := Q1.out
  go_wp2_with fail
  generalize hW2 : World.setCell (World.setCell (World.setCell _ _ _) _ _) _ _ = W2
  have A2 : B8 W2 w.heap.size (.int .i64 k) (.int .u64 a) (.int .u64 b) (.int .i64 r) (.int .i64 l) (.slice A xs.length c1) (.slice B ys.length c2) (.slice C zs.length c3) := by rw [← hW2]; simp [B8, go_sem, a0, a1, a2, a3, a4, a5, a6, a7, af]
  have P2 : B8 W2 (w.heap.size + 1) (.int .i64 0) (.int .u64 0) (.int .u64 0) (.int .i64 0) (.int .i64 0) (.slice none 0 0) (.slice none 0 0) (.slice none 0 0) := by rw [← hW2]; obtain ⟨⟨p0, p1, p2, p3, p4, p5, p6, p7⟩, pf⟩ := P1.out; simp [B8, go_sem, p0, p1, p2, p3, p4, p5, p6, p7, pf]
  have Q2 : B8 W2 (w.heap.size + 1 + 1) (.int .i64 k) (.int .u64 a) (.int .u64 b) (.int .i64 0) (.int .i64 0) (.slice none 0 0) (.slice none 0 0) (.slice none 0 0) := by rw [← hW2]; simp [B8, go_sem, q0, q1, q2, q3, q4, q5, q6, q7, qf]
  have b2 : Below w.heap.size w W2 := by rw [← hW2]; exact below_set (below_set (below_set B1.out _ _ (by simp; omega)) _ _ (by simp; omega)) _ _ (by simp; omega)
  have z2 : w.heap.size + 2 < W2.heap.size := Q2.lt
  clear hW2 A1 P1 Q1 B1 z1 a0 a1 a2 a3 a4 a5 a6 a7 af q0 q1 q2 q3 q4 q5 q6 q7 qf
  refine (HT.out _ (HA.out.at_ b2)).mono ?_
  rintro e w3 ⟨A', rfl, ho3, hb3⟩
  have A3 := Lib.hid (A2.keep hb3)
  have P3 := Lib.hid (P2.keep hb3)
  have Q3 := Lib.hid (Q2.keep hb3)
  have B3 := Lib.hid (below_next b2 hb3)
  have O3 := Lib.hid (own_base ho3 (show w.heap.size + 3 ≤ W2.heap.size by omega))
  have z3 : w.heap.size + 2 < w3.heap.size := Q3.out.lt
  clear hb3 ho3 A2 P2 Q2 b2 z2
  obtain ⟨⟨a0, a1, a2, a3, a4, a5, a6, a7⟩, af⟩ := A3.out
  obtain ⟨⟨q0, q1, q2, q3, q4, q5, q6, q7⟩, qf⟩ := Q3.out
  go_wp2_with fail
  generalize hW4 : World.setCell (World.setCell (World.setCell _ _ _) _ _) _ _ = W4
  have A4 : B8 W4 w.heap.size (.int .i64 k) (.int .u64 a) (.int .u64 b) (.int .i64 r) (.int .i64 l) (.slice A xs.length c1) (.slice B ys.length c2) (.slice C zs.length c3) := by rw [← hW4]; simp [B8, go_sem, a0, a1, a2, a3, a4, a5, a6, a7, af]
  have P4 : B8 W4 (w.heap.size + 1) (.int .i64 0) (.int .u64 0) (.int .u64 0) (.int .i64 0) (.int .i64 0) (.slice none 0 0) (.slice none 0 0) (.slice none 0 0) := by rw [← hW4]; obtain ⟨⟨p0, p1, p2, p3, p4, p5, p6, p7⟩, pf⟩ := P3.out; simp [B8, go_sem, p0, p1, p2, p3, p4, p5, p6, p7, pf]
  have Q4 : B8 W4 (w.heap.size + 1 + 1) (.int .i64 k) (.int .u64 a) (.int .u64 b) (.int .i64 r) (.int .i64 l) (.slice A' xs.length xs.length) (.slice none 0 0) (.slice none 0 0) := by rw [← hW4]; simp [B8, go_sem, q0, q1, q2, q3, q4, q5, q6, q7, qf]
  have b4 : Below w.heap.size w W4 := by rw [← hW4]; exact below_set (below_set (below_set B3.out _ _ (by simp; omega)) _ _ (by simp; omega)) _ _ (by simp; omega)
  have o4 : W4.ownsRow (w.heap.size + 3) 2 1 (.slice A' xs.length xs.length) xs.length (il xs) := by rw [← hW4]; repeat (first | (with_reducible exact O3.out) | (with_reducible refine ownsRow_setCell_below ?_ (by simp; try omega) _))
  have z4 : w.heap.size + 2 < W4.heap.size := Q4.lt
  clear hW4 A3 P3 Q3 B3 O3 z3 a0 a1 a2 a3 a4 a5 a6 a7 af q0 q1 q2 q3 q4 q5 q6 q7 qf
  refine (HI.out _ (HB.out.at_ b4)).mono ?_
  rintro e w5 ⟨B', rfl, ho5, hb5⟩
  have A5 := Lib.hid (A4.keep hb5)
  have P5 := Lib.hid (P4.keep hb5)
  have Q5 := Lib.hid (Q4.keep hb5)
  have B5 := Lib.hid (below_next b4 hb5)
  have O5a := Lib.hid (own_below o4 hb5)
  have O5b := Lib.hid (own_base ho5 (show w.heap.size + 3 ≤ W4.heap.size by omega))
  have z5 : w.heap.size + 2 < w5.heap.size := Q5.out.lt
  clear hb5 ho5 A4 P4 Q4 b4 o4 z4
  obtain ⟨⟨a0, a1, a2, a3, a4, a5, a6, a7⟩, af⟩ := A5.out
  obtain ⟨⟨q0, q1, q2, q3, q4, q5, q6, q7⟩, qf⟩ := Q5.out
  go_wp2_with fail
  generalize hW6 : World.setCell w5 _ _ = W6
  have A6 : B8 W6 w.heap.size (.int .i64 k) (.int .u64 a) (.int .u64 b) (.int .i64 r) (.int .i64 l) (.slice A xs.length c1) (.slice B ys.length c2) (.slice C zs.length c3) := by rw [← hW6]; simp [B8, go_sem, a0, a1, a2, a3, a4, a5, a6, a7, af]
  have P6 : B8 W6 (w.heap.size + 1) (.int .i64 0) (.int .u64 0) (.int .u64 0) (.int .i64 0) (.int .i64 0) (.slice none 0 0) (.slice none 0 0) (.slice none 0 0) := by rw [← hW6]; obtain ⟨⟨p0, p1, p2, p3, p4, p5, p6, p7⟩, pf⟩ := P5.out; simp [B8, go_sem, p0, p1, p2, p3, p4, p5, p6, p7, pf]
  have Q6 : B8 W6 (w.heap.size + 1 + 1) (.int .i64 k) (.int .u64 a) (.int .u64 b) (.int .i64 r) (.int .i64 l) (.slice A' xs.length xs.length) (.slice B' ys.length ys.length) (.slice none 0 0) := by rw [← hW6]; simp [B8, go_sem, q0, q1, q2, q3, q4, q5, q6, q7, qf]
  have b6 : Below w.heap.size w W6 := by rw [← hW6]; exact below_set B5.out _ _ (by simp; omega)
  have o6a : W6.ownsRow (w.heap.size + 3) 2 1 (.slice A' xs.length xs.length) xs.length (il xs) := by rw [← hW6]; exact ownsRow_setCell_below O5a.out (by simp; try omega) _
  have o6b : W6.ownsRow (w.heap.size + 3) 2 1 (.slice B' ys.length ys.length) ys.length (il ys) := by rw [← hW6]; exact ownsRow_setCell_below O5b.out (by simp; try omega) _
  have z6 : w.heap.size + 2 < W6.heap.size := Q6.lt
  clear hW6 A5 P5 Q5 B5 O5a O5b z5 a0 a1 a2 a3 a4 a5 a6 a7 af q0 q1 q2 q3 q4 q5 q6 q7 qf
  refine (HF.out _ (HC.out.at_ b6)).mono ?_
  rintro e w7 ⟨C', rfl, ho7, hb7⟩
  have P7 := P6.keep hb7
  have Q7 := Q6.keep hb7
  have B7 := Lib.hid (below_next b6 hb7)
  have O7a := Lib.hid (own_below o6a hb7)
  have O7b := Lib.hid (own_below o6b hb7)
  have O7c := Lib.hid (own_base ho7 (show w.heap.size + 3 ≤ W6.heap.size by omega))
  have z7 : w.heap.size + 2 < w7.heap.size := Q7.lt
  clear hb7 ho7 A6 P6 Q6 b6 o6a o6b z6
  obtain ⟨⟨p0, p1, p2, p3, p4, p5, p6, p7⟩, pf⟩ := P7
  obtain ⟨⟨q0, q1, q2, q3, q4, q5, q6, q7⟩, qf⟩ := Q7
  go_wp2_with fail
  refine bodyPost_ret (v := .agg #[.int .i64 k, .int .u64 a, .int .u64 b, .int .i64 r, .int .i64 l, .slice A' xs.length xs.length, .slice B' ys.length ys.length, .slice C' zs.length zs.length]) (by simp [results, Try.results6, go_sem, p0, p1, p2, p3, p4, p5, p6, p7]) rfl ⟨A', B', C', rfl, ?_, ?_, ?_, ?_⟩
  · refine Rd.of_own (base := w.heap.size + 3) (e := 2) (n := xs.length) (c := xs.length) ?_
    repeat (first | (with_reducible exact O7a.out) | (with_reducible refine ownsRow_setCell_below ?_ (by simp; try omega) _))
  · refine Rd.of_own (base := w.heap.size + 3) (e := 2) (n := ys.length) (c := ys.length) ?_
    repeat (first | (with_reducible exact O7b.out) | (with_reducible refine ownsRow_setCell_below ?_ (by simp; try omega) _))
  · refine Rd.of_own (base := w.heap.size + 3) (e := 61) (n := zs.length) (c := zs.length) ?_
    repeat (first | (with_reducible exact O7c.out) | (with_reducible refine ownsRow_setCell_below ?_ (by simp; try omega) _))
  · repeat (first | (with_reducible exact B7.out) | (with_reducible refine below_set ?_ _ _ (by simp; try omega)))
end Go.Proofs.Ythkejpgffkahaaa

