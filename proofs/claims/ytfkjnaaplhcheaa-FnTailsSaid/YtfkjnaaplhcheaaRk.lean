/-
  Samples and their ranks: impl.isSample, areSamplesOf, ranksOf, total and their twins.
-/
import Derived.Test.YtfkjnaaplhcheaaCc
import Derived.Test.YtfkjnaaplhcheaaVal
import Derived.BigQuiet
namespace Go.Proofs.Ytfkjnaaplhcheaa
open Go Go.RowKit

def sampB (xs : List Int) : Bool := (decide (1 ≤ xs.length) && decide (xs.length ≤ 40)) && xs.all fun x => inB x (-1000) 1000
def sampsB (xs ys : List Int) : Bool := sampB xs && (sampB ys && decide (xs.length + ys.length ≤ 40))
def badS (x : Int) : Bool := !inB x (-1000) 1000
theorem any_badS (xs : List Int) : xs.any badS = !xs.all fun x => inB x (-1000) 1000 := by
  rw [List.any_eq_not_all_not]
  congr 2
  funext x
  unfold badS
  rw [Bool.not_not]
/-- where the first number is of which a test says yes -/
def idxJ (p : Int → Bool) (xs : List Int) : Int := match xs.findIdx? p with | some i => i | none => -1
theorem idxJ_hit {p : Int → Bool} {xs : List Int} {k : Nat} (hk : k < xs.length) (h0 : (xs.take k).any p = false) (h1 : p xs[k] = true) : idxJ p xs = k := by
  have : xs.findIdx? p = some k := by
    rw [List.findIdx?_eq_some_iff_getElem]
    refine ⟨hk, h1, fun j hj => ?_⟩
    have := List.any_eq_false.1 h0 xs[j] (List.mem_take_iff_getElem.2 ⟨j, by omega, rfl⟩)
    simpa using this
  unfold idxJ
  rw [this]
theorem idxJ_none {p : Int → Bool} {xs : List Int} (h : xs.any p = false) : idxJ p xs = -1 := by
  have : xs.findIdx? p = none := by
    rw [List.findIdx?_eq_none_iff]
    intro x hx
    simpa using List.any_eq_false.1 h x hx
  unfold idxJ
  rw [this]
theorem idxJ_any (p : Int → Bool) (xs : List Int) : (decide (0 ≤ idxJ p xs)) = xs.any p := by
  cases ha : xs.any p with
  | false => rw [idxJ_none ha]; rfl
  | true =>
    unfold idxJ
    cases hf : xs.findIdx? p with
    | none =>
      rw [List.findIdx?_eq_none_iff] at hf
      obtain ⟨x, hx, hp⟩ := List.any_eq_true.1 ha
      rw [hf x hx] at hp
      cases hp
    | some i => simp
def testJ (g : Nat) : Prop := g = 93 ∨ g = 93
set_option maxHeartbeats 1600000 in
theorem IndexFunc_il (g : Nat) (hgs : testJ g) (p : Int → Bool) (hg : ∀ (x : Int) (w : World), Calls Try.prog g #[.int .i64 x] w (Quiet (.bool (p x)) w))
    (A : Option Addr) (xs : List Int) (c : Nat) (w : World) (hx : xs.length ≤ 9223372036854775807) (h : Rd w w.heap.size A (il xs)) :
    Calls Try.prog 97 #[.slice A xs.length c, .func (.func g) #[] #[]] w (Quiet (.int .i64 (idxJ p xs)) w) := by
  have HG := Lib.hid hg
  clear hg
  rcases hgs with rfl | rfl
  all_goals
    go_enter Try.func97, Try.ntmps97
    go_wp2
    go_loopw [5, 8] (fun _ i wr => ∃ k m : Nat, k ≤ xs.length ∧ i = .int .i64 k ∧ (xs.take k).any p = false ∧ wr = w.drewN m) (fun _ i _ => xs.length - (intOf i).toNat)
    case atStart => exact ⟨0, 0, Nat.zero_le _, rfl, by simp, rfl⟩
    case round =>
      obtain ⟨k, m, hk, rfl, hall, rfl⟩ := hrel
      have HALL := Lib.hid hall
      clear hall
      by_cases hlt : k < xs.length
      · obtain ⟨b, off, rfl, hb, hc⟩ := h.ilAt hlt
        clear h
        cases hle : p xs[k] with
        | false =>
          have HLE := Lib.hid hle
          clear hle
          go_wp2_with ((with_reducible refine (HG.out _ _).mono ?_); rw [HLE.out]; rintro e w' ⟨rfl, n, rfl⟩)
          go_roundw
          case rel => exact ⟨k + 1, m + n, by omega, by go_num, by rw [List.take_succ_eq_append_getElem hlt, List.any_append, HALL.out]; simp [HLE.out], by simp⟩
          case measure => simp [intOf]; omega
        | true =>
          have HLE := Lib.hid hle
          clear hle
          go_wp2_with ((with_reducible refine (HG.out _ _).mono ?_); rw [HLE.out]; rintro e w' ⟨rfl, n, rfl⟩)
          go_ret
          rw [idxJ_hit hlt HALL.out HLE.out]
          exact ⟨rfl, m + n, rfl⟩
      · have hr : idxJ p xs = -1 := by
          have h1 := HALL.out
          rw [List.take_of_length_le (by omega)] at h1
          exact idxJ_none h1
        have HR := Lib.hid hr
        clear hr
        go_wp2
        go_ret
        rw [HR.out]
        exact ⟨rfl, m, rfl⟩
set_option maxHeartbeats 400000 in
theorem ContainsFunc_il (g : Nat) (hgs : testJ g) (p : Int → Bool) (hg : ∀ (x : Int) (w : World), Calls Try.prog g #[.int .i64 x] w (Quiet (.bool (p x)) w))
    (A : Option Addr) (xs : List Int) (c : Nat) (w : World) (hx : xs.length ≤ 9223372036854775807) (h : Rd w w.heap.size A (il xs)) :
    Calls Try.prog 92 #[.slice A xs.length c, .func (.func g) #[] #[]] w (Quiet (.bool (xs.any p)) w) := by
  have HG := Lib.hid (IndexFunc_il g hgs p hg A xs c w hx h)
  have HA := Lib.hid (idxJ_any p xs)
  clear hg
  go_enter Try.func92, Try.ntmps92
  go_wp2_with (go_at_call 97; refine (HG.out).mono ?_; rintro e w' ⟨rfl, n, rfl⟩)
  go_ret
  exact ⟨retB HA.out, n, rfl⟩
theorem isSample1_any (x : Int) (w : World) : Calls Try.prog 93 #[.int .i64 x] w (Quiet (.bool (badS x)) w) := by
  have HW := Lib.hid (within_any x (-1000) 1000 w)
  unfold badS
  generalize inB x (-1000) 1000 = r at *
  go_enter Try.func93, Try.ntmps93
  go_wp2_with (go_at_call 55; refine HW.out.mono ?_; rintro e w1 ⟨rfl, n, rfl⟩)
  go_ret
  exact .mk _
set_option maxHeartbeats 800000 in
theorem isSample_any (A : Option Addr) (xs : List Int) (c : Nat) (w : World) (hx : xs.length ≤ 9223372036854775807) (h : Rd w w.heap.size A (il xs)) : Calls Try.prog 46 #[.slice A xs.length c] w (Quiet (.bool (sampB xs)) w) := by
  have HC := Lib.hid fun w h => ContainsFunc_il 93 (.inl rfl) badS isSample1_any A xs c w hx h
  have hr : sampB xs = ((decide (1 ≤ xs.length) && decide (xs.length ≤ 40)) && !xs.any badS) := by
    rw [any_badS, Bool.not_not]
    rfl
  by_cases h1 : 1 ≤ xs.length
  · by_cases h2 : xs.length ≤ 40
    · rw [decide_eq_true h1, decide_eq_true h2] at hr
      have HR := Lib.hid hr
      clear hr
      go_enter Try.func46, Try.ntmps46
      go_wp2_with (go_at_call 92; refine (HC.out _ h).mono ?_; rintro e w' ⟨rfl, n, rfl⟩)
      go_ret
      exact ⟨retB (by rw [HR.out]; simp), n, rfl⟩
    · rw [decide_eq_false h2] at hr
      have HR := Lib.hid hr
      clear hr
      go_enter Try.func46, Try.ntmps46
      go_wp2
      go_ret
      exact ⟨retB (by rw [HR.out]; simp), 0, rfl⟩
  · rw [decide_eq_false h1] at hr
    have HR := Lib.hid hr
    clear hr
    go_enter Try.func46, Try.ntmps46
    go_wp2
    go_ret
    exact ⟨retB (by rw [HR.out]; simp), 0, rfl⟩
set_option maxHeartbeats 800000 in
theorem l06Sample_any (A : Option Addr) (xs : List Int) (c : Nat) (w : World) (hx : xs.length ≤ 9223372036854775807) (h : Rd w w.heap.size A (il xs)) : Calls Try.prog 115 #[.slice A xs.length c] w (Quiet (.bool (sampB xs)) w) := by
  go_enter Try.func115, Try.ntmps115
  go_wp2
  go_loopw [3] (fun i wr => ∃ k m : Nat, k ≤ xs.length ∧ i = .int .i64 k ∧ (xs.take k).all (fun x => inB x (-1000) 1000) = true ∧ wr = w.drewN m) (fun i _ => xs.length - (intOf i).toNat)
  case atStart => exact ⟨0, 0, Nat.zero_le _, rfl, by simp, rfl⟩
  case round =>
    obtain ⟨k, m, hk, rfl, hall, rfl⟩ := hrel
    have HALL := Lib.hid hall
    clear hall
    by_cases hlt : k < xs.length
    · obtain ⟨b, off, rfl, hb, hc⟩ := h.ilAt hlt
      clear h
      cases hle : inB xs[k] (-1000) 1000 with
      | true =>
        have HLE := Lib.hid hle
        clear hle
        go_wp2_with (go_at_call 82; refine (l00In_any _ _ _ _).mono ?_; rw [HLE.out]; rintro e w' ⟨rfl, n, rfl⟩)
        go_roundw
        case rel => exact ⟨k + 1, m + n, by omega, by go_num, by rw [List.take_succ_eq_append_getElem hlt, List.all_append, HALL.out]; simp [HLE.out], by simp⟩
        case measure => simp [intOf]; omega
      | false =>
        have HLE := Lib.hid hle
        clear hle
        go_wp2_with (go_at_call 82; refine (l00In_any _ _ _ _).mono ?_; rw [HLE.out]; rintro e w' ⟨rfl, n, rfl⟩)
        go_ret
        have hr : sampB xs = false := by
          unfold sampB
          rw [Bool.and_eq_false_iff]
          refine .inr ?_
          rw [List.all_eq_false]
          exact ⟨xs[k], List.getElem_mem hlt, by simp [HLE.out]⟩
        rw [hr]
        exact ⟨rfl, m + n, rfl⟩
    · have hr : sampB xs = (decide (1 ≤ xs.length) && decide (xs.length ≤ 40)) := by
        have h1 := HALL.out
        rw [List.take_of_length_le (by omega)] at h1
        unfold sampB
        rw [h1, Bool.and_true]
      by_cases h1 : 1 ≤ xs.length
      · rw [decide_eq_true h1] at hr
        have HR := Lib.hid hr
        clear hr
        go_wp2
        go_ret
        rw [HR.out]
        exact ⟨retB (by simp; omega), m, rfl⟩
      · rw [decide_eq_false h1] at hr
        have HR := Lib.hid hr
        clear hr
        go_wp2
        go_ret
        rw [HR.out]
        exact ⟨rfl, m, rfl⟩
set_option maxHeartbeats 1600000 in
theorem areSamplesOf_any (A B : Option Addr) (xs ys : List Int) (c d : Nat) (w : World) (hx : xs.length ≤ 1048576) (hy : ys.length ≤ 1048576) (h : Rd w w.heap.size A (il xs)) (h' : Rd w w.heap.size B (il ys)) : Calls Try.prog 48 #[.slice A xs.length c, .slice B ys.length d, .int .i64 40] w (Quiet (.bool (sampsB xs ys)) w) := by
  have H : Hid (∀ A xs c w, xs.length ≤ 1048576 → Rd w w.heap.size A (il xs) → Calls Try.prog 46 #[.slice A xs.length c] w (Quiet (.bool (sampB xs)) w)) := Lib.hid fun A xs c w hx h => isSample_any A xs c w (by omega) h
  have hr : sampsB xs ys = (sampB xs && (sampB ys && decide (xs.length + ys.length ≤ 40))) := rfl
  cases s1 : sampB xs with
  | false =>
    rw [s1] at hr
    have HR := Lib.hid hr
    clear hr
    go_enter Try.func48, Try.ntmps48
    go_wp2_with (go_at_call 46; refine (H.out _ _ _ _ hx h).mono ?_; rintro e w' ⟨rfl, n, rfl⟩)
    go_ret
    exact ⟨retB (by rw [HR.out]; simp), n, rfl⟩
  | true =>
    rw [s1] at hr
    cases s2 : sampB ys with
    | false =>
      rw [s2] at hr
      have HR := Lib.hid hr
      clear hr
      go_enter Try.func48, Try.ntmps48
      go_wp2_with (go_at_call 46; refine (H.out _ _ _ _ (by assumption) (by first | exact h | exact h'.drewN _)).mono ?_; rintro e w' ⟨rfl, n, rfl⟩)
      go_ret
      exact ⟨retB (by rw [HR.out]; simp), _, rfl⟩
    | true =>
      rw [s2] at hr
      have HR := Lib.hid hr
      clear hr
      go_enter Try.func48, Try.ntmps48
      go_wp2_with (go_at_call 46; refine (H.out _ _ _ _ (by assumption) (by first | exact h | exact h'.drewN _)).mono ?_; rintro e w' ⟨rfl, n, rfl⟩)
      go_ret
      exact ⟨retB (by rw [HR.out]; simp; try omega), _, rfl⟩
set_option maxHeartbeats 1600000 in
theorem l06Both_any (A B : Option Addr) (xs ys : List Int) (c d : Nat) (w : World) (hx : xs.length ≤ 1048576) (hy : ys.length ≤ 1048576) (h : Rd w w.heap.size A (il xs)) (h' : Rd w w.heap.size B (il ys)) : Calls Try.prog 81 #[.slice A xs.length c, .slice B ys.length d] w (Quiet (.bool (sampsB xs ys)) w) := by
  have H : Hid (∀ A xs c w, xs.length ≤ 1048576 → Rd w w.heap.size A (il xs) → Calls Try.prog 115 #[.slice A xs.length c] w (Quiet (.bool (sampB xs)) w)) := Lib.hid fun A xs c w hx h => l06Sample_any A xs c w (by omega) h
  have hr : sampsB xs ys = (sampB xs && (sampB ys && decide (xs.length + ys.length ≤ 40))) := rfl
  cases s1 : sampB xs with
  | false =>
    rw [s1] at hr
    have HR := Lib.hid hr
    clear hr
    go_enter Try.func81, Try.ntmps81
    go_wp2_with (go_at_call 115; refine (H.out _ _ _ _ hx h).mono ?_; rintro e w' ⟨rfl, n, rfl⟩)
    go_ret
    exact ⟨retB (by rw [HR.out]; simp), n, rfl⟩
  | true =>
    rw [s1] at hr
    cases s2 : sampB ys with
    | false =>
      rw [s2] at hr
      have HR := Lib.hid hr
      clear hr
      go_enter Try.func81, Try.ntmps81
      go_wp2_with (go_at_call 115; refine (H.out _ _ _ _ (by assumption) (by first | exact h | exact h'.drewN _)).mono ?_; rintro e w' ⟨rfl, n, rfl⟩)
      go_ret
      exact ⟨retB (by rw [HR.out]; simp), _, rfl⟩
    | true =>
      rw [s2] at hr
      have HR := Lib.hid hr
      clear hr
      go_enter Try.func81, Try.ntmps81
      go_wp2_with (go_at_call 115; refine (H.out _ _ _ _ (by assumption) (by first | exact h | exact h'.drewN _)).mono ?_; rintro e w' ⟨rfl, n, rfl⟩)
      go_ret
      exact ⟨retB (by rw [HR.out]; simp; try omega), _, rfl⟩
end Go.Proofs.Ytfkjnaaplhcheaa
