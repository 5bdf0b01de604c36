/-
  Contracts of the laws' helpers on slices of 64 bit integers: copy, compare, write marks, read marks.
-/
import Derived.Test.YtnnnpdendnjkhaaCh
import Derived.BigQuiet
namespace Go.Proofs.Ytnnnpdendnjkhaa
open Go Go.RowKit

theorem info_i64 : (Try.prog.info? 2).map (fun i => (i.zero, i.size, i.bytes)) = some (some (.int .i64 0), 1, 8) := by kernel_rfl

/-- a number that is no NaN as a double -/
theorem wide_run (x : Nat) (h : isNan Ieee.single x = false) : ∃ r, (∀ W : World, (convert 42 67 (.float .f32 x)).run Try.prog W = .ok (.float .f64 r) W) ∧ isNan Ieee.double r = false := by
  have hs : (Try.prog.underlying 42).isSome = true := by rw [Try.underlying42]; rfl
  obtain ⟨r, hr, hr2⟩ := wide x h
  exact ⟨r, fun W => run_convert_float_float W _ _ .f32 .f64 x r hs Try.underlying67 hr, hr2⟩

theorem il_take_succ {xs : List Int} {k : Nat} (h : k < xs.length) (rest : List Value) (hr : 0 < rest.length) :
    (il (xs.take k) ++ rest).set k (.int .i64 xs[k]) = il (xs.take (k + 1)) ++ rest.tail := by
  have hl : (il (xs.take k)).length = k := by rw [il_len, List.length_take]; omega
  rw [List.set_append_right _ _ (by omega), hl, Nat.sub_self]
  cases rest with
  | nil => simp at hr
  | cons r rs =>
    simp only [List.set_cons_zero, List.tail_cons]
    rw [List.take_succ_eq_append_getElem h]
    unfold il
    rw [List.map_append, List.append_assoc]
    rfl

set_option maxHeartbeats 800000 in
theorem eqInt64S_yes (A B : Option Addr) (xs : List Int) (c d : Nat) (w : World) (hx : xs.length ≤ 9223372036854775807) (hA : Rd w w.heap.size A (il xs)) (hB : Rd w w.heap.size B (il xs)) :
    Calls Try.prog 12 #[.slice A xs.length c, .slice B xs.length d] w (Quiet (.bool true) w) := by
  go_enter Try.func12, Try.ntmps12
  go_wp2
  go_loopw [5] (fun i wr => ∃ k m : Nat, k ≤ xs.length ∧ i = .int .i64 k ∧ wr = w.drewN m) (fun i _ => xs.length - (intOf i).toNat)
  case atStart => exact ⟨0, 0, Nat.zero_le _, rfl, rfl⟩
  case round =>
    obtain ⟨k, m, hk, rfl, rfl⟩ := hrel
    by_cases hlt : k < xs.length
    · obtain ⟨b, off, rfl, hb, hc⟩ := hA.ilAt hlt
      obtain ⟨b', off', rfl, hb', hc'⟩ := hB.ilAt hlt
      clear hA hB
      generalize xs[k] = x at *
      go_wp2
      go_quiet (fail)
      go_wp2
      go_roundw
      case rel => exact ⟨k + 1, _, by omega, by go_num, rfl⟩
      case measure => simp [intOf]; omega
    · go_wp2
      go_ret
      exact ⟨rfl, m, rfl⟩

/-- the marks that a slice of integers gets -/
def marksI (k : Int) : Nat → List Int
  | 0 => []
  | n + 1 => marksI k n ++ [k + n]
theorem marksI_len (k : Int) (n : Nat) : (marksI k n).length = n := by
  induction n with
  | zero => rfl
  | succ n ih => simp [marksI, ih]
theorem marksI_get (k : Int) (n j : Nat) (h : j < n) (hj : j < (marksI k n).length) : (marksI k n)[j] = k + j := by
  induction n with
  | zero => omega
  | succ n ih =>
    simp only [marksI]
    rcases Nat.lt_or_ge j n with h1 | h1
    · rw [List.getElem_append_left (by rw [marksI_len]; exact h1)]
      exact ih h1 _
    · have : j = n := by omega
      subst this
      rw [List.getElem_append_right (by rw [marksI_len]; omega)]
      simp [marksI_len]
theorem marksI_set (k : Int) (j : Nat) (ys : List Value) (h : j < ys.length) : (il (marksI k j) ++ ys.drop j).set j (.int .i64 (k + j)) = il (marksI k (j + 1)) ++ ys.drop (j + 1) := by
  have hl : (il (marksI k j)).length = j := by rw [il_len, marksI_len]
  rw [List.set_append_right _ _ (by omega), hl, Nat.sub_self, List.drop_eq_getElem_cons h]
  simp only [List.set_cons_zero, marksI]
  unfold il
  rw [List.map_append, List.append_assoc]
  rfl

set_option maxHeartbeats 800000 in
theorem markInt64S_any (A : Option Addr) (base n : Nat) (vs : List Value) (c : Nat) (k : Int) (w : World) (hx : n ≤ 1048576) (hk0 : 0 ≤ k) (hk : k ≤ 4194304) (ho : w.ownsRow base 2 1 (.slice A n c) n vs) :
    Calls Try.prog 15 #[.slice A n c, .int .i64 k] w (fun e w' => e = .returned (.int .i64 (k + n)) ∧ w'.ownsRow base 2 1 (.slice A n c) n (il (marksI k n)) ∧ w.grownBy w' (Value.slice A n c).ownBlock) := by
  have HO := Lib.hid ho
  clear ho
  go_enter Try.func15, Try.ntmps15
  go_wp2
  go_loopw [1, 5] (fun kk i wr => ∃ j : Nat, j ≤ n ∧ i = .int .i64 j ∧ kk = .int .i64 (k + j) ∧ w.grownBy wr (Value.slice A n c).ownBlock ∧ wr.ownsRow base 2 1 (.slice A n c) n (il (marksI k j) ++ vs.drop j)) (fun _ i _ => n - (intOf i).toNat)
  case atStart => exact ⟨0, Nat.zero_le _, rfl, by go_num, grown_refl _ _, by simpa [marksI, il] using HO.out⟩
  case round =>
    obtain ⟨j, hj, rfl, rfl, hb, hown⟩ := hrel
    have HB := Lib.hid hb
    clear hb
    by_cases hlt : j < n
    · cases A with
      | none => have := own_none hown; omega
      | some a =>
        obtain ⟨g, rfl, hg⟩ := own_some hown
        have hvl : vs.length = n := by have := HO.out.1; omega
        have hst := hown.stored j (.int .i64 (k + j))
        have hfz := hown.frozenAt j
        have hcl := hown.cellAt j (by omega)
        have hlen : j < (il (marksI k j) ++ vs.drop j).length := by rw [hown.1]; omega
        rw [List.getElem?_eq_getElem hlen] at hcl
        generalize (il (marksI k j) ++ vs.drop j)[j] = u at hcl
        rw [marksI_set k j vs (by omega)] at hst
        have HST := Lib.hid hst
        have HV := Lib.hid hvl
        clear hst hown hlen hvl
        go_wp2
        go_roundw
        case rel => exact ⟨j + 1, by omega, by go_num, by go_num, grown_set HB.out _ _, HST.out.1⟩
        case measure => simp [intOf]; omega
    · have hke : j = n := by omega
      subst hke
      rw [List.drop_eq_nil_of_le (by have := HO.out.1; omega), List.append_nil] at hown
      have HOW := Lib.hid hown
      clear hown
      go_wp2
      go_ret
      exact ⟨rfl, HOW.out, HB.out⟩

set_option maxHeartbeats 800000 in
theorem heldInt64S_any (A : Option Addr) (n c : Nat) (k : Int) (w : World) (hx : n ≤ 1048576) (hk0 : 0 ≤ k) (hk : k ≤ 4194304) (hr : Rd w w.heap.size A (il (marksI k n))) :
    Calls Try.prog 16 #[.slice A n c, .int .i64 k] w (Quiet (.int .i64 (k + n)) w) := by
  go_enter Try.func16, Try.ntmps16
  go_wp2
  go_loop [1, 5] (fun kk i => ∃ j : Nat, j ≤ n ∧ i = .int .i64 j ∧ kk = .int .i64 (k + j)) (fun _ i => n - (intOf i).toNat)
  case atStart => exact ⟨0, Nat.zero_le _, rfl, by go_num⟩
  case round =>
    obtain ⟨j, hj, rfl, rfl⟩ := hrel
    by_cases hlt : j < n
    · obtain ⟨b, off, rfl, hb, hc⟩ := hr.ilAt (k := j) (by rw [marksI_len]; exact hlt)
      rw [marksI_get k n j hlt] at hc
      clear hr
      go_wp2
      go_round
      case rel => exact ⟨j + 1, by omega, by go_num, by go_num⟩
      case measure => simp [intOf]; omega
    · have hke : j = n := by omega
      subst hke
      go_wp2
      go_ret
      exact .mk0
end Go.Proofs.Ytnnnpdendnjkhaa

