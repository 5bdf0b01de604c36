/-
  Which seeds are valid: a seed as a part of a record or a desk.
-/
import Derived.Test.YtckdbnnkabgopaaDoorProg
import Derived.Test.YtckdbnnkabgopaaDoorMem
import Derived.Test.YtckdbnnkabgopaaDoorOut
import Derived.RegionTactic
import Derived.Deep.QuietTactic
import Derived.BigQuiet
namespace Go.Proofs.YtckdbnnkabgopaaDoor
open Go Go.RowKit

/-- a seed is valid -/
def seedB (k a b : Int) : Bool := if k = 0 then b % 2 == 1 else if k = 1 then a != 0 else if k = 2 then true else if k = 3 then a != 0 || b != 0 else false
theorem seedB_kind {k a b : Int} (h : seedB k a b = true) : 0 ≤ k ∧ k ≤ 3 := by
  unfold seedB at h
  split at h
  · omega
  · split at h
    · omega
    · split at h
      · omega
      · split at h
        · omega
        · cases h
set_option maxHeartbeats 800000 in
theorem ValidSeed_any (k a b : Int) (hb : 0 ≤ b ∧ b < 18446744073709551616) (w : World) : Calls Tryd.prog 20 #[.agg #[.int .i64 k, .int .u64 a, .int .u64 b]] w (fun e w' => e = .returned (.bool (seedB k a b)) ∧ Below w.heap.size w w') := by
  obtain ⟨b0, b1⟩ := hb
  by_cases h0 : k = 0
  · subst h0
    have hR : Hid (seedB 0 a b = (b % 2 == 1)) := Lib.hid (if_pos rfl)
    go_enter Tryd.func20, Tryd.ntmps20
    go_wp2
    go_ret
    rw [hR.out]
    exact ⟨rfl, below_al (Below.refl _ _) _⟩
  · by_cases h1 : k = 1
    · subst h1
      have hR : Hid (seedB 1 a b = (a != 0)) := Lib.hid (by unfold seedB; rw [if_neg (by decide), if_pos rfl])
      clear h0
      go_enter Tryd.func20, Tryd.ntmps20
      go_wp2
      go_ret
      rw [hR.out]
      exact ⟨rfl, below_al (Below.refl _ _) _⟩
    · by_cases h3 : k = 3
      · subst h3
        have hR : Hid (seedB 3 a b = (a != 0 || b != 0)) := Lib.hid (by unfold seedB; rw [if_neg (by decide), if_neg (by decide), if_neg (by decide), if_pos rfl])
        clear h0 h1
        cases ha : (a != 0) with
        | true =>
          rw [ha, Bool.true_or] at hR
          go_enter Tryd.func20, Tryd.ntmps20
          go_wp2
          go_ret
          rw [hR.out]
          exact ⟨rfl, below_al (Below.refl _ _) _⟩
        | false =>
          rw [ha, Bool.false_or] at hR
          go_enter Tryd.func20, Tryd.ntmps20
          go_wp2
          go_ret
          rw [hR.out]
          exact ⟨rfl, below_al (Below.refl _ _) _⟩
      · have hR : Hid (seedB k a b = (k == 2)) := Lib.hid (by
          unfold seedB
          rw [if_neg h0, if_neg h1]
          by_cases h2 : k = 2
          · rw [if_pos h2, h2]; rfl
          · rw [if_neg h2, if_neg h3, beq_false_of_ne h2])
        have g0 : (k == 0) = false := beq_false_of_ne h0
        have g1 : (k == 1) = false := beq_false_of_ne h1
        have g3 : (k == 3) = false := beq_false_of_ne h3
        clear h0 h1 h3
        go_enter Tryd.func20, Tryd.ntmps20
        go_wp2
        go_ret
        rw [hR.out]
        exact ⟨rfl, below_al (Below.refl _ _) _⟩
end Go.Proofs.YtckdbnnkabgopaaDoor

