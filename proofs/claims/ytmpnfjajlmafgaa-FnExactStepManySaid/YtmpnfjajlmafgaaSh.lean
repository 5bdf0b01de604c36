/-
  impl.areShares and spec.l06Shares.
-/
import Derived.Test.YtmpnfjajlmafgaaVal
namespace Go.Proofs.Ytmpnfjajlmafgaa
open Go Go.RowKit Ieee

/-- 1 to 64 numbers from 0 to 1 -/
def sharesB (xs : List Nat) : Bool := (decide (1 ≤ xs.length) && decide (xs.length ≤ 64)) && xs.all partB
set_option maxHeartbeats 800000 in
theorem areShares_any (A : Option Addr) (xs : List Nat) (c : Nat) (w : World) (hx : xs.length ≤ 9223372036854775807) (h : Rd w w.heap.size A (fl xs)) : Calls Try.prog 58 #[.slice A xs.length c] w (Quiet (.bool (sharesB xs)) w) := by
  have HC := Lib.hid fun w h => areParts_any A xs c w hx h
  have hr : sharesB xs = ((decide (1 ≤ xs.length) && decide (xs.length ≤ 64)) && xs.all partB) := rfl
  by_cases h1 : 1 ≤ xs.length
  · by_cases h2 : xs.length ≤ 64
    · rw [decide_eq_true h1, decide_eq_true h2] at hr
      have HR := Lib.hid hr
      clear hr
      go_enter Try.func58, Try.ntmps58
      go_wp2_with (go_at_call 78; refine (HC.out _ h).mono ?_; rintro e w' ⟨rfl, n, rfl⟩)
      go_ret
      exact ⟨retB (by rw [HR.out]; simp), n, rfl⟩
    · rw [decide_eq_false h2] at hr
      have HR := Lib.hid hr
      clear hr
      go_enter Try.func58, Try.ntmps58
      go_wp2
      go_ret
      exact ⟨retB (by rw [HR.out]; simp), 0, rfl⟩
  · rw [decide_eq_false h1] at hr
    have HR := Lib.hid hr
    clear hr
    go_enter Try.func58, Try.ntmps58
    go_wp2
    go_ret
    exact ⟨retB (by rw [HR.out]; simp), 0, rfl⟩
set_option maxHeartbeats 800000 in
theorem l06Shares_any (A : Option Addr) (xs : List Nat) (c : Nat) (w : World) (hx : xs.length ≤ 9223372036854775807) (h : Rd w w.heap.size A (fl xs)) : Calls Try.prog 55 #[.slice A xs.length c] w (Quiet (.bool (sharesB xs)) w) := by
  go_enter Try.func55, Try.ntmps55
  go_wp2
  go_loopw [3] (fun i wr => ∃ k m : Nat, k ≤ xs.length ∧ i = .int .i64 k ∧ (xs.take k).all partB = true ∧ wr = w.drewN m) (fun i _ => xs.length - (intOf i).toNat)
  case atStart => exact ⟨0, 0, Nat.zero_le _, rfl, by simp, rfl⟩
  case round =>
    obtain ⟨k, m, hk, rfl, hall, rfl⟩ := hrel
    have HALL := Lib.hid hall
    clear hall
    by_cases hlt : k < xs.length
    · obtain ⟨b, off, rfl, hb, hc⟩ := h.flAt hlt
      clear h
      cases hle : partB xs[k] with
      | true =>
        have HLE := Lib.hid hle
        clear hle
        go_wp2_with (go_at_call 77; refine (l02Part_any _ _).mono ?_; rw [HLE.out]; rintro e w' ⟨rfl, n, rfl⟩)
        go_roundw
        case rel => exact ⟨k + 1, m + n, by omega, by go_num, by rw [List.take_succ_eq_append_getElem hlt, List.all_append, HALL.out]; simp [HLE.out], by simp⟩
        case measure => simp [intOf]; omega
      | false =>
        have HLE := Lib.hid hle
        clear hle
        go_wp2_with (go_at_call 77; refine (l02Part_any _ _).mono ?_; rw [HLE.out]; rintro e w' ⟨rfl, n, rfl⟩)
        go_ret
        have hr : sharesB xs = false := by
          unfold sharesB
          rw [Bool.and_eq_false_iff]
          refine .inr ?_
          rw [List.all_eq_false]
          exact ⟨xs[k], List.getElem_mem hlt, by simp [HLE.out]⟩
        rw [hr]
        exact ⟨rfl, m + n, rfl⟩
    · have hr : sharesB xs = (decide (1 ≤ xs.length) && decide (xs.length ≤ 64)) := by
        have h1 := HALL.out
        rw [List.take_of_length_le (by omega)] at h1
        unfold sharesB
        rw [h1, Bool.and_true]
      have HR := Lib.hid hr
      clear hr h HALL
      by_cases h1 : 1 ≤ xs.length
      · by_cases h2 : xs.length ≤ 64
        · go_wp2
          go_ret
          exact ⟨retB (by rw [HR.out, decide_eq_true h1]; first | (rw [decide_eq_true h2]; simp; omega) | (rw [decide_eq_false h2]; simp; omega)), m, rfl⟩
        · go_wp2
          go_ret
          exact ⟨retB (by rw [HR.out, decide_eq_true h1]; first | (rw [decide_eq_true h2]; simp; omega) | (rw [decide_eq_false h2]; simp; omega)), m, rfl⟩
      · go_wp2
        go_ret
        exact ⟨retB (by rw [HR.out, decide_eq_false h1]; simp), m, rfl⟩
end Go.Proofs.Ytmpnfjajlmafgaa
