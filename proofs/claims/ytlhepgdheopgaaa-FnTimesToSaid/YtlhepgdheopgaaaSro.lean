/-
  impl.isRowOf, spec.l07Fits, spec.l02Finite, spec.l02List; impl.StepRow.
-/
import Derived.Test.YtlhepgdheopgaaaRow
import Derived.Test.YtlhepgdheopgaaaOut
import Derived.Deep.RegionHeld3
import Derived.BigQuiet
namespace Go.Proofs.Ytlhepgdheopgaaa
open Go Go.RowKit Ieee
attribute [local go_sem] run_store_float

/-- a chain that is valid, and a row for it -/
def fitB (side : Int) (xs row : List Nat) : Bool := validB side xs && (rowB row && decide ((row.length : Int) = side))
theorem fitB_facts {side : Int} {xs row : List Nat} (h : fitB side xs row = true) : ∃ n : Nat, side = n ∧ 1 ≤ n ∧ n ≤ 12 ∧ xs.length = n * n ∧ xs.all partB = true ∧ row.length = n ∧ row.all leastB = true ∧ validB n xs = true ∧ rowB row = true := by
  unfold fitB at h
  rw [Bool.and_eq_true, Bool.and_eq_true, decide_eq_true_eq] at h
  obtain ⟨h1, h2, h3⟩ := h
  obtain ⟨n, rfl, a, b, c, d, -⟩ := validB_facts h1
  refine ⟨n, rfl, a, b, c, d, by omega, ?_, h1, h2⟩
  unfold rowB at h2
  rw [Bool.and_eq_true] at h2
  exact h2.1

set_option maxHeartbeats 1600000 in
theorem isRowOf_any (side : Int) (A : Option Addr) (xs : List Nat) (c : Nat) (B : Option Addr) (row : List Nat) (d : Nat) (w : World) (hx : xs.length ≤ c) (hc : c ≤ 9223372036854775807) (hr : row.length ≤ 9223372036854775807) (hA : Rd w w.heap.size A (fl xs)) (hB : Rd w w.heap.size B (fl row)) :
    Calls Try.prog 32 #[.agg #[.int .i64 side, .slice A xs.length c], .slice B row.length d] w (fun e w' => e = .returned (.bool (fitB side xs row)) ∧ Below w.heap.size w w') := by
  have HV := Lib.hid fun W h => ValidChain_any side A xs c W hx hc h
  have HI := Lib.hid fun W h => IsRow_any B row d W hr h
  cases hv : validB side xs with
  | false =>
    have HF : Hid (fitB side xs row = false) := by unfold Hid fitB; rw [hv]; rfl
    rw [hv] at HV
    clear hv
    go_enter Try.func32, Try.ntmps32
    go_wp2_with (go_at_call 20; refine (HV.out _ (hA.at_ ((Below.refl _ _).alloc (Nat.le_refl _) _))).mono ?_; rintro e w1 ⟨rfl, hb1⟩)
    go_ret
    exact ⟨retB HF.out.symm, below_next (below_al (Below.refl _ _) _) hb1⟩
  | true =>
    rw [hv] at HV
    cases hw : rowB row with
    | false =>
      have HF : Hid (fitB side xs row = false) := by unfold Hid fitB; rw [hv, hw]; rfl
      rw [hw] at HI
      clear hv hw
      go_enter Try.func32, Try.ntmps32
      go_wp2_with fail
      refine (HV.out _ (hA.at_ ((Below.refl _ _).alloc (Nat.le_refl _) _))).mono ?_
      rintro e w1 ⟨rfl, hb1⟩
      have hk := below_next (below_al (Below.refl _ _) _) hb1
      go_wp2_with (go_at_call 22; refine (HI.out _ (hB.at_ hk)).mono ?_; rintro e w2 ⟨rfl, m, rfl⟩)
      go_ret
      exact ⟨retB HF.out.symm, below_drewN hk _⟩
    | true =>
      have hF : fitB side xs row = decide ((row.length : Int) = side) := by unfold fitB; rw [hv, hw]; rfl
      rw [hw] at HI
      clear hv hw
      by_cases hl : (row.length : Int) = side
      · rw [decide_eq_true hl] at hF
        have HF := Lib.hid hF
        have hq : ((row.length : Int) == side) = true := by rw [beq_iff_eq]; exact hl
        clear hl hF
        go_enter Try.func32, Try.ntmps32
        go_wp2_with fail
        refine (HV.out _ (hA.at_ ((Below.refl _ _).alloc (Nat.le_refl _) _))).mono ?_
        rintro e w1 ⟨rfl, hb1⟩
        have hk := below_next (below_al (Below.refl _ _) _) hb1
        have z0 : w1.cell? ⟨w.heap.size, 0, none⟩ = some (.int .i64 side) := keepC hb1 (by simp [go_sem])
        go_wp2_with (go_at_call 22; refine (HI.out _ (hB.at_ hk)).mono ?_; rintro e w2 ⟨rfl, m, rfl⟩)
        go_ret
        exact ⟨retB HF.out.symm, below_drewN hk _⟩
      · rw [decide_eq_false hl] at hF
        have HF := Lib.hid hF
        have hq : ((row.length : Int) == side) = false := by rw [Bool.eq_false_iff, ne_eq, beq_iff_eq]; exact hl
        clear hl hF
        go_enter Try.func32, Try.ntmps32
        go_wp2_with fail
        refine (HV.out _ (hA.at_ ((Below.refl _ _).alloc (Nat.le_refl _) _))).mono ?_
        rintro e w1 ⟨rfl, hb1⟩
        have hk := below_next (below_al (Below.refl _ _) _) hb1
        have z0 : w1.cell? ⟨w.heap.size, 0, none⟩ = some (.int .i64 side) := keepC hb1 (by simp [go_sem])
        go_wp2_with (go_at_call 22; refine (HI.out _ (hB.at_ hk)).mono ?_; rintro e w2 ⟨rfl, m, rfl⟩)
        go_ret
        exact ⟨retB HF.out.symm, below_drewN hk _⟩

set_option maxHeartbeats 1600000 in
theorem l07Fits_any (b : Nat) (side : Int) (A : Option Addr) (xs : List Nat) (c : Nat) (B : Option Addr) (row : List Nat) (d : Nat) (w : World) (hx : xs.length ≤ 9223372036854775807) (hr : row.length ≤ 9223372036854775807) (hc0 : w.cell? ⟨b, 0, none⟩ = some (.int .i64 side)) (hc1 : w.cell? ⟨b, 1, none⟩ = some (.slice A xs.length c)) (hA : Rd w w.heap.size A (fl xs)) (hB : Rd w w.heap.size B (fl row)) :
    Calls Try.prog 46 #[.pointer (some ⟨b, 0, none⟩), .slice B row.length d] w (Quiet (.bool (fitB side xs row)) w) := by
  have HV := Lib.hid (l07Is_any b side A xs c w hx hc0 hc1 hA)
  have HI := Lib.hid fun W h => l07Row_any B row d W hr h
  cases hv : validB side xs with
  | false =>
    have HF : Hid (fitB side xs row = false) := by unfold Hid fitB; rw [hv]; rfl
    rw [hv] at HV
    clear hv
    go_enter Try.func46, Try.ntmps46
    go_wp2_with (go_at_call 41; refine (HV.out).mono ?_; rintro e w1 ⟨rfl, m1, rfl⟩)
    go_ret
    exact ⟨retB HF.out.symm, _, rfl⟩
  | true =>
    rw [hv] at HV
    cases hw : rowB row with
    | false =>
      have HF : Hid (fitB side xs row = false) := by unfold Hid fitB; rw [hv, hw]; rfl
      rw [hw] at HI
      clear hv hw
      go_enter Try.func46, Try.ntmps46
      go_wp2_with (first | (go_at_call 41; refine (HV.out).mono ?_; rintro e w1 ⟨rfl, m1, rfl⟩) | (go_at_call 73; refine (HI.out _ (hB.drewN m1)).mono ?_; rintro e w2 ⟨rfl, m2, rfl⟩))
      go_ret
      exact ⟨retB HF.out.symm, _, rfl⟩
    | true =>
      have hF : fitB side xs row = decide ((row.length : Int) = side) := by unfold fitB; rw [hv, hw]; rfl
      rw [hw] at HI
      clear hv hw
      by_cases hl : (row.length : Int) = side
      · rw [decide_eq_true hl] at hF
        have HF := Lib.hid hF
        have hq : ((row.length : Int) == side) = true := by rw [beq_iff_eq]; exact hl
        clear hl hF
        go_enter Try.func46, Try.ntmps46
        go_wp2_with (first | (go_at_call 41; refine (HV.out).mono ?_; rintro e w1 ⟨rfl, m1, rfl⟩) | (go_at_call 73; refine (HI.out _ (hB.drewN m1)).mono ?_; rintro e w2 ⟨rfl, m2, rfl⟩))
        go_ret
        exact ⟨retB HF.out.symm, _, rfl⟩
      · rw [decide_eq_false hl] at hF
        have HF := Lib.hid hF
        have hq : ((row.length : Int) == side) = false := by rw [Bool.eq_false_iff, ne_eq, beq_iff_eq]; exact hl
        clear hl hF
        go_enter Try.func46, Try.ntmps46
        go_wp2_with (first | (go_at_call 41; refine (HV.out).mono ?_; rintro e w1 ⟨rfl, m1, rfl⟩) | (go_at_call 73; refine (HI.out _ (hB.drewN m1)).mono ?_; rintro e w2 ⟨rfl, m2, rfl⟩))
        go_ret
        exact ⟨retB HF.out.symm, _, rfl⟩

/-- a row of single numbers of the call's own, and whether there is one -/
def flOut (xs : List Nat) (ok : Bool) (w : World) : Ending → World → Prop := fun e w' =>
  ∃ A c, e = .returned (.tuple #[.slice A xs.length c, .bool ok]) ∧ w'.ownsRow w.heap.size 31 1 (.slice A xs.length c) xs.length (fl xs) ∧ Below w.heap.size w w'
theorem flOut_none {w w' : World} (hb : Below w.heap.size w w') : flOut [] false w (.returned (.tuple #[.slice none 0 0, .bool false])) w' := ⟨none, 0, rfl, World.ownsRow_nil _ _ _ _, hb⟩
/-- a row behind a step, if it is finite -/
def rowGive (xs row : List Nat) (n : Nat) : List Nat := if (stepRow xs row n).all (isFin single) = true then stepRow xs row n else []

set_option maxHeartbeats 800000 in
theorem StepRow_bad (side : Int) (A : Option Addr) (xs : List Nat) (c : Nat) (B : Option Addr) (row : List Nat) (d : Nat) (w : World) (hx : xs.length ≤ c) (hc : c ≤ 9223372036854775807) (hr : row.length ≤ 9223372036854775807) (hA : Rd w w.heap.size A (fl xs)) (hB : Rd w w.heap.size B (fl row)) (hb : fitB side xs row = false) :
    Calls Try.prog 12 #[.agg #[.int .i64 side, .slice A xs.length c], .slice B row.length d] w (flOut [] false w) := by
  have HF := Lib.hid fun W h h' => isRowOf_any side A xs c B row d W hx hc hr h h'
  rw [hb] at HF
  clear hb
  go_enter Try.func12, Try.ntmps12
  go_wp2_with (go_at_call 32; refine (HF.out _ (hA.at_ ((Below.refl _ _).alloc (Nat.le_refl _) _)) (hB.at_ ((Below.refl _ _).alloc (Nat.le_refl _) _))).mono ?_; rintro e w1 ⟨rfl, hb1⟩)
  go_ret2
  exact flOut_none (below_next (below_al (Below.refl _ _) _) hb1)

/-- the row that is being made: k numbers are there, the next one up to i -/
def rowAcc (xs row : List Nat) (n k i p : Nat) : Nat := if p < k then dotRow xs row n p n else if p = k then dotRow xs row n k i else 0
theorem rowAcc_set {xs row : List Nat} {n k i : Nat} (p : Nat) : (if p = k then Value.float .f32 (dotRow xs row n k (i + 1)) else Value.float .f32 (rowAcc xs row n k i p)) = Value.float .f32 (rowAcc xs row n k (i + 1) p) := by
  unfold rowAcc
  by_cases h : p = k
  · subst h; simp
  · rw [if_neg h]
    by_cases h1 : p < k
    · rw [if_pos h1, if_pos h1]
    · rw [if_neg h1, if_neg h1, if_neg h, if_neg h]
theorem rowAcc_next {xs row : List Nat} {n k : Nat} (p : Nat) : rowAcc xs row n k n p = rowAcc xs row n (k + 1) 0 p := by
  unfold rowAcc
  by_cases h1 : p < k
  · rw [if_pos h1, if_pos (by omega)]
  · rw [if_neg h1]
    by_cases h2 : p = k
    · subst h2; rw [if_pos rfl, if_pos (by omega)]
    · rw [if_neg h2, if_neg (by omega)]
      by_cases h3 : p = k + 1
      · rw [if_pos h3]; rfl
      · rw [if_neg h3]
theorem rowAcc_zero {xs row : List Nat} {n : Nat} (p : Nat) : rowAcc xs row n 0 0 p = 0 := by
  unfold rowAcc
  rw [if_neg (by omega)]
  split
  · rfl
  · rfl
theorem rowAcc_all (xs row : List Nat) (n : Nat) : (List.range n).map (fun p => Value.float .f32 (rowAcc xs row n n 0 p)) = fl (stepRow xs row n) := by
  unfold fl stepRow
  rw [List.map_map]
  refine List.map_congr_left fun p hp => ?_
  rw [List.mem_range] at hp
  unfold rowAcc
  rw [if_pos hp]
  rfl
end Go.Proofs.Ytlhepgdheopgaaa

