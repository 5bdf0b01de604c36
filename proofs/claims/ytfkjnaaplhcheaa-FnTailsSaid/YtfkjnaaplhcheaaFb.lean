/-
  Contracts of the loops over a list of single precision numbers.
-/
import Derived.Test.YtfkjnaaplhcheaaFa
namespace Go.Proofs.Ytfkjnaaplhcheaa
open Go Go.RowKit Ieee

/-- a row: finite numbers of at least 0, from 1 to 12 of them -/
def rowB (xs : List Nat) : Bool := xs.all leastB && (decide (1 ≤ xs.length) && decide (xs.length ≤ 12))

/-- where the first number is of which a test says yes -/
def idxOf (p : Nat → Bool) (xs : List Nat) : Int := match xs.findIdx? p with | some i => i | none => -1
theorem idxOf_hit {p : Nat → Bool} {xs : List Nat} {k : Nat} (hk : k < xs.length) (h0 : (xs.take k).any p = false) (h1 : p xs[k] = true) : idxOf p xs = k := by
  have : xs.findIdx? p = some k := by
    rw [List.findIdx?_eq_some_iff_getElem]
    refine ⟨hk, h1, fun j hj => ?_⟩
    have := List.any_eq_false.1 h0 xs[j] (List.mem_take_iff_getElem.2 ⟨j, by omega, rfl⟩)
    simpa using this
  unfold idxOf
  rw [this]
theorem idxOf_none {p : Nat → Bool} {xs : List Nat} (h : xs.any p = false) : idxOf p xs = -1 := by
  have : xs.findIdx? p = none := by
    rw [List.findIdx?_eq_none_iff]
    intro x hx
    simpa using List.any_eq_false.1 h x hx
  unfold idxOf
  rw [this]
theorem idxOf_any (p : Nat → Bool) (xs : List Nat) : (decide (0 ≤ idxOf p xs)) = xs.any p := by
  cases ha : xs.any p with
  | false => rw [idxOf_none ha]; rfl
  | true =>
    unfold idxOf
    cases hf : xs.findIdx? p with
    | none =>
      rw [List.findIdx?_eq_none_iff] at hf
      obtain ⟨x, hx, hp⟩ := List.any_eq_true.1 ha
      rw [hf x hx] at hp
      cases hp
    | some i => simp

/-- the tests that are handed to the search: functions without captured variables -/
def testOf (g : Nat) : Prop := g = 114

set_option maxHeartbeats 1600000 in
theorem IndexFunc_fl (g : Nat) (hgs : testOf g) (p : Nat → Bool) (hg : ∀ (x : Nat) (w : World), Calls Try.prog g #[.float .f32 x] w (Quiet (.bool (p x)) w))
    (A : Option Addr) (xs : List Nat) (c : Nat) (w : World) (hx : xs.length ≤ 9223372036854775807) (h : Rd w w.heap.size A (fl xs)) :
    Calls Try.prog 120 #[.slice A xs.length c, .func (.func g) #[] #[]] w (Quiet (.int .i64 (idxOf p xs)) w) := by
  have HG := Lib.hid hg
  clear hg
  obtain rfl : g = 114 := hgs
  all_goals
    go_enter Try.func120, Try.ntmps120
    go_wp2
    go_loopw [5, 8] (fun _ i wr => ∃ k m : Nat, k ≤ xs.length ∧ i = .int .i64 k ∧ (xs.take k).any p = false ∧ wr = w.drewN m) (fun _ i _ => xs.length - (intOf i).toNat)
    case atStart => exact ⟨0, 0, Nat.zero_le _, rfl, by simp, rfl⟩
    case round =>
      obtain ⟨k, m, hk, rfl, hall, rfl⟩ := hrel
      have HALL := Lib.hid hall
      clear hall
      by_cases hlt : k < xs.length
      · obtain ⟨b, off, rfl, hb, hc⟩ := h.flAt hlt
        clear h
        cases hle : p xs[k] with
        | false =>
          have HLE := Lib.hid hle
          clear hle
          go_wp2_with ((with_reducible refine (HG.out _ _).mono ?_); rw [HLE.out]; rintro e w' ⟨rfl, n, rfl⟩)
          go_roundw
          case rel => exact ⟨k + 1, m + n, by omega, by go_num, by rw [List.take_succ_eq_append_getElem hlt, List.any_append, HALL.out]; simp [HLE.out], by simp⟩
          case measure => simp [intOf]; omega
        | true =>
          have HLE := Lib.hid hle
          clear hle
          go_wp2_with ((with_reducible refine (HG.out _ _).mono ?_); rw [HLE.out]; rintro e w' ⟨rfl, n, rfl⟩)
          go_ret
          rw [idxOf_hit hlt HALL.out HLE.out]
          exact ⟨rfl, m + n, rfl⟩
      · have hr : idxOf p xs = -1 := by
          have h1 := HALL.out
          rw [List.take_of_length_le (by omega)] at h1
          exact idxOf_none h1
        have HR := Lib.hid hr
        clear hr
        go_wp2
        go_ret
        rw [HR.out]
        exact ⟨rfl, m, rfl⟩

set_option maxHeartbeats 400000 in
theorem ContainsFunc_fl (g : Nat) (hgs : testOf g) (p : Nat → Bool) (hg : ∀ (x : Nat) (w : World), Calls Try.prog g #[.float .f32 x] w (Quiet (.bool (p x)) w))
    (A : Option Addr) (xs : List Nat) (c : Nat) (w : World) (hx : xs.length ≤ 9223372036854775807) (h : Rd w w.heap.size A (fl xs)) :
    Calls Try.prog 102 #[.slice A xs.length c, .func (.func g) #[] #[]] w (Quiet (.bool (xs.any p)) w) := by
  have HG := Lib.hid (IndexFunc_fl g hgs p hg A xs c w hx h)
  have HA := Lib.hid (idxOf_any p xs)
  clear hg
  go_enter Try.func102, Try.ntmps102
  go_wp2_with (go_at_call 120; refine (HG.out).mono ?_; rintro e w' ⟨rfl, n, rfl⟩)
  go_ret
  exact ⟨retB HA.out, n, rfl⟩

/-- the closure of impl.IsRow: what a row's number may not be -/
def badRow (x : Nat) : Bool := !isFin single x || single.order x 0 == some .lt
theorem order_fin {x y : Nat} (hx : isNan single x = false) (hy : isNan single y = false) : single.order x y = some .lt ∨ single.order x y = some .eq ∨ single.order x y = some .gt := by
  unfold isNan Datum.isNaN at hx hy
  unfold Format.order Datum.order
  cases h1 : single.read x with
  | number s m i =>
    cases h2 : single.read y with
    | number t n j =>
      simp only
      cases compare (signed s m (i - min i j).toNat) (signed t n (j - min i j).toNat) <;> simp
    | infinity t => cases t <;> simp
    | nan t u => rw [h2] at hy; simp at hy
  | infinity s =>
    cases h2 : single.read y with
    | number t n j => cases s <;> simp
    | infinity t => simp only; cases compare t.toNat s.toNat <;> simp
    | nan t u => rw [h2] at hy; simp at hy
  | nan s u => rw [h1] at hx; simp at hx
theorem badRow_least (x : Nat) : badRow x = !leastB x := by
  unfold badRow leastB
  cases hf : isFin single x with
  | false => rfl
  | true =>
    rcases order_fin (fin_not_nan hf) (show isNan single 0 = false by decide +kernel) with h | h | h <;> simp [h]
theorem any_badRow (xs : List Nat) : xs.any badRow = !xs.all leastB := by
  rw [List.any_eq_not_all_not]
  congr 2
  funext x
  rw [badRow_least, Bool.not_not]

end Go.Proofs.Ytfkjnaaplhcheaa



