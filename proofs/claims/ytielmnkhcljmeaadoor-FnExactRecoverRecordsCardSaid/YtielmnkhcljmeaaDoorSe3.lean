/-
  Which seeds are valid: a seed as a part of a record or a desk.
-/
import Derived.Test.YtielmnkhcljmeaaDoorProg
import Derived.Test.YtielmnkhcljmeaaDoorMem
import Derived.Test.YtielmnkhcljmeaaDoorOut
import Derived.RegionTactic
import Derived.Deep.QuietTactic
import Derived.BigQuiet
namespace Go.Proofs.YtielmnkhcljmeaaDoor
open Go Go.RowKit

/-- a seed is valid -/
def seedB (k a b : Int) : Bool := if k = 0 then b % 2 == 1 else if k = 1 then a != 0 else if k = 2 then true else if k = 3 then a != 0 || b != 0 else false
theorem seedB_kind {k a b : Int} (h : seedB k a b = true) : 0 ≤ k ∧ k ≤ 3 := by
  unfold seedB at h
  split at h
  · omega
  · split at h
    · omega
    · split at h
      · omega
      · split at h
        · omega
        · cases h
set_option maxHeartbeats 800000 in
theorem ValidSeed_any (k a b : Int) (hb : 0 ≤ b ∧ b < 18446744073709551616) (w : World) : Calls Tryd.prog 33 #[.agg #[.int .i64 k, .int .u64 a, .int .u64 b]] w (fun e w' => e = .returned (.bool (seedB k a b)) ∧ Below w.heap.size w w') := by
  obtain ⟨b0, b1⟩ := hb
  by_cases h0 : k = 0
  · subst h0
    have hR : Hid (seedB 0 a b = (b % 2 == 1)) := Lib.hid (if_pos rfl)
    go_enter Tryd.func33, Tryd.ntmps33
    go_wp2
    go_ret
    rw [hR.out]
    exact ⟨rfl, below_al (Below.refl _ _) _⟩
  · by_cases h1 : k = 1
    · subst h1
      have hR : Hid (seedB 1 a b = (a != 0)) := Lib.hid (by unfold seedB; rw [if_neg (by decide), if_pos rfl])
      clear h0
      go_enter Tryd.func33, Tryd.ntmps33
      go_wp2
      go_ret
      rw [hR.out]
      exact ⟨rfl, below_al (Below.refl _ _) _⟩
    · by_cases h3 : k = 3
      · subst h3
        have hR : Hid (seedB 3 a b = (a != 0 || b != 0)) := Lib.hid (by unfold seedB; rw [if_neg (by decide), if_neg (by decide), if_neg (by decide), if_pos rfl])
        clear h0 h1
        cases ha : (a != 0) with
        | true =>
          rw [ha, Bool.true_or] at hR
          go_enter Tryd.func33, Tryd.ntmps33
          go_wp2
          go_ret
          rw [hR.out]
          exact ⟨rfl, below_al (Below.refl _ _) _⟩
        | false =>
          rw [ha, Bool.false_or] at hR
          go_enter Tryd.func33, Tryd.ntmps33
          go_wp2
          go_ret
          rw [hR.out]
          exact ⟨rfl, below_al (Below.refl _ _) _⟩
      · have hR : Hid (seedB k a b = (k == 2)) := Lib.hid (by
          unfold seedB
          rw [if_neg h0, if_neg h1]
          by_cases h2 : k = 2
          · rw [if_pos h2, h2]; rfl
          · rw [if_neg h2, if_neg h3, beq_false_of_ne h2])
        have g0 : (k == 0) = false := beq_false_of_ne h0
        have g1 : (k == 1) = false := beq_false_of_ne h1
        have g3 : (k == 3) = false := beq_false_of_ne h3
        clear h0 h1 h3
        go_enter Tryd.func33, Tryd.ntmps33
        go_wp2
        go_ret
        rw [hR.out]
        exact ⟨rfl, below_al (Below.refl _ _) _⟩
set_option maxHeartbeats 800000 in
theorem l02Is_at (p o : Nat) (k a b : Int) (hb : 0 ≤ b ∧ b < 18446744073709551616) (w : World) (h : w.cell? ⟨p, o, none⟩ = some (.int .i64 k) ∧ w.cell? ⟨p, o + 1, none⟩ = some (.int .u64 a) ∧ w.cell? ⟨p, o + 2, none⟩ = some (.int .u64 b)) : Calls Tryd.prog 48 #[.pointer (some ⟨p, o, none⟩)] w (fun e w' => e = .returned (.bool (seedB k a b)) ∧ w = w') := by
  obtain ⟨b0, b1⟩ := hb
  obtain ⟨c0, c1, c2⟩ := h
  by_cases h0 : k = 0
  · subst h0
    have hR : Hid (seedB 0 a b = (b % 2 == 1)) := Lib.hid (if_pos rfl)
    go_enter Tryd.func48, Tryd.ntmps48
    go_wp2
    go_ret
    rw [hR.out]
    exact ⟨rfl, rfl⟩
  · by_cases h1 : k = 1
    · subst h1
      have hR : Hid (seedB 1 a b = (a != 0)) := Lib.hid (by unfold seedB; rw [if_neg (by decide), if_pos rfl])
      clear h0
      go_enter Tryd.func48, Tryd.ntmps48
      go_wp2
      go_ret
      rw [hR.out]
      exact ⟨rfl, rfl⟩
    · by_cases h3 : k = 3
      · subst h3
        have hR : Hid (seedB 3 a b = (a != 0 || b != 0)) := Lib.hid (by unfold seedB; rw [if_neg (by decide), if_neg (by decide), if_neg (by decide), if_pos rfl])
        clear h0 h1
        cases ha : (a != 0) with
        | true =>
          rw [ha, Bool.true_or] at hR
          go_enter Tryd.func48, Tryd.ntmps48
          go_wp2
          go_ret
          rw [hR.out]
          exact ⟨rfl, rfl⟩
        | false =>
          rw [ha, Bool.false_or] at hR
          go_enter Tryd.func48, Tryd.ntmps48
          go_wp2
          go_ret
          rw [hR.out]
          exact ⟨rfl, rfl⟩
      · by_cases h2 : k = 2
        · subst h2
          have hR : Hid (seedB 2 a b = true) := Lib.hid (by unfold seedB; rw [if_neg (by decide), if_neg (by decide), if_pos rfl])
          clear h0 h1 h3
          go_enter Tryd.func48, Tryd.ntmps48
          go_wp2
          go_ret
          rw [hR.out]
          exact ⟨rfl, rfl⟩
        · have hR : Hid (seedB k a b = false) := Lib.hid (by unfold seedB; rw [if_neg h0, if_neg h1, if_neg h2, if_neg h3])
          have g0 : (k == 0) = false := beq_false_of_ne h0
          have g1 : (k == 1) = false := beq_false_of_ne h1
          have g2 : (k == 2) = false := beq_false_of_ne h2
          have g3 : (k == 3) = false := beq_false_of_ne h3
          clear h0 h1 h2 h3
          go_enter Tryd.func48, Tryd.ntmps48
          go_wp2
          go_ret
          rw [hR.out]
          exact ⟨rfl, rfl⟩
end Go.Proofs.YtielmnkhcljmeaaDoor
