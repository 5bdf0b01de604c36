/-
  Contracts of the laws' helpers on slices of 64 bit integers: copy, compare, write marks, read marks.
-/
import Derived.Test.YtfkjnaaplhcheaaCh
import Derived.BigQuiet
namespace Go.Proofs.Ytfkjnaaplhcheaa
open Go Go.RowKit

theorem info_i64 : (Try.prog.info? 2).map (fun i => (i.zero, i.size, i.bytes)) = some (some (.int .i64 0), 1, 8) := by kernel_rfl

/-- a number that is no NaN as a double -/
theorem wide_run (x : Nat) (h : isNan Ieee.single x = false) : ∃ r, (∀ W : World, (convert 50 51 (.float .f32 x)).run Try.prog W = .ok (.float .f64 r) W) ∧ isNan Ieee.double r = false := by
  have hs : (Try.prog.underlying 50).isSome = true := by rw [Try.underlying50]; rfl
  obtain ⟨r, hr, hr2⟩ := wide x h
  exact ⟨r, fun W => run_convert_float_float W _ _ .f32 .f64 x r hs Try.underlying51 hr, hr2⟩

theorem il_take_succ {xs : List Int} {k : Nat} (h : k < xs.length) (rest : List Value) (hr : 0 < rest.length) :
    (il (xs.take k) ++ rest).set k (.int .i64 xs[k]) = il (xs.take (k + 1)) ++ rest.tail := by
  have hl : (il (xs.take k)).length = k := by rw [il_len, List.length_take]; omega
  rw [List.set_append_right _ _ (by omega), hl, Nat.sub_self]
  cases rest with
  | nil => simp at hr
  | cons r rs =>
    simp only [List.set_cons_zero, List.tail_cons]
    rw [List.take_succ_eq_append_getElem h]
    unfold il
    rw [List.map_append, List.append_assoc]
    rfl

set_option maxHeartbeats 800000 in
theorem toInt64S_any (A : Option Addr) (xs : List Int) (c : Nat) (w : World) (hx : xs.length ≤ 1048576) (h : Rd w w.heap.size A (il xs)) :
    Calls Try.prog 36 #[.slice A xs.length c] w (fun e w' => ∃ A', e = .returned (.slice A' xs.length xs.length) ∧
      w'.ownsRow w.heap.size 2 1 (.slice A' xs.length xs.length) xs.length (il xs) ∧ Below w.heap.size w w') := by
  obtain ⟨i0, hi, hz0, hz1, hz2⟩ := info_parts info_i64
  go_enter Try.func36, Try.ntmps36
  go_wp2_with (refine wpList_make_full _ rfl (.tmp 6) (.tmp 6) 25 rfl w.heap.size 2 i0 (.int .i64 0) 1 Try.underlying25 hi hz0 hz1 .i64 .i64 xs.length xs.length xs.length rfl rfl rfl rfl (by rw [hz2]; omega) (by unfold maxLen; omega) (Nat.le_refl _) ?_; intro w1 hown1 hg1)
  have hb1 : Below w.heap.size w w1 := (Below.refl _ _).grown hg1 (Nat.le_refl _) (by simp)
  have hl1 : (il (xs.take 0) ++ List.replicate xs.length (Value.int .i64 0)) = (madeCells (Value.int .i64 0).cells (xs.length * 1)).toList := by
    rw [Nat.mul_one]
    exact (toList_madeCells_one _ _).symm
  rw [← hl1] at hown1
  have HO := Lib.hid hown1
  have HB := Lib.hid hb1
  clear hown1 hb1 hg1 hl1
  go_loopw [4] (fun i wr => ∃ k : Nat, k ≤ xs.length ∧ i = .int .i64 k ∧ Below w.heap.size w wr ∧
      wr.ownsRow w.heap.size 2 1 (.slice (some ⟨w.heap.size, 0, none⟩) xs.length xs.length) xs.length (il (xs.take k) ++ List.replicate (xs.length - k) (.int .i64 0)))
    (fun i _ => xs.length - (intOf i).toNat)
  case atStart => exact ⟨0, Nat.zero_le _, rfl, HB.out, HO.out⟩
  case round =>
    obtain ⟨k, hk, rfl, hb, hown⟩ := hrel
    by_cases hlt : k < xs.length
    · obtain ⟨b, off, rfl, hbb, hc⟩ := (h.below hb).ilAt hlt
      have hst := hown.stored k (.int .i64 xs[k])
      have hfz := hown.frozenAt k
      have hcl := hown.cellAt k (by omega)
      have hlen : k < (il (xs.take k) ++ List.replicate (xs.length - k) (Value.int .i64 0)).length := by rw [hown.1]; omega
      rw [List.getElem?_eq_getElem hlen] at hcl
      generalize (il (xs.take k) ++ List.replicate (xs.length - k) (Value.int .i64 0))[k] = u at hcl
      rw [il_take_succ hlt _ (by simp; omega)] at hst
      have hrep : (List.replicate (xs.length - k) (Value.int .i64 0)).tail = List.replicate (xs.length - (k + 1)) (Value.int .i64 0) := by
        rw [List.tail_replicate]
        congr 1
      rw [hrep] at hst
      have HST := Lib.hid hst
      have HBB := Lib.hid hb
      clear hst hown hb h hrep hlen HO HB
      go_wp2
      go_roundw
      case rel => exact ⟨k + 1, by omega, by go_num, HBB.out.grown HST.out.2 HBB.out.size (by simp), HST.out.1⟩
      case measure => simp [intOf]; omega
    · have hke : k = xs.length := by omega
      subst hke
      rw [List.take_length, Nat.sub_self, List.replicate_zero, List.append_nil] at hown
      have HOW := Lib.hid hown
      clear hown
      go_wp2
      go_ret
      exact ⟨_, rfl, HOW.out, hb⟩

set_option maxHeartbeats 800000 in
theorem eqInt64S_yes (A B : Option Addr) (xs : List Int) (c d : Nat) (w : World) (hx : xs.length ≤ 9223372036854775807) (hA : Rd w w.heap.size A (il xs)) (hB : Rd w w.heap.size B (il xs)) :
    Calls Try.prog 38 #[.slice A xs.length c, .slice B xs.length d] w (Quiet (.bool true) w) := by
  go_enter Try.func38, Try.ntmps38
  go_wp2
  go_loopw [5] (fun i wr => ∃ k m : Nat, k ≤ xs.length ∧ i = .int .i64 k ∧ wr = w.drewN m) (fun i _ => xs.length - (intOf i).toNat)
  case atStart => exact ⟨0, 0, Nat.zero_le _, rfl, rfl⟩
  case round =>
    obtain ⟨k, m, hk, rfl, rfl⟩ := hrel
    by_cases hlt : k < xs.length
    · obtain ⟨b, off, rfl, hb, hc⟩ := hA.ilAt hlt
      obtain ⟨b', off', rfl, hb', hc'⟩ := hB.ilAt hlt
      clear hA hB
      generalize xs[k] = x at *
      go_wp2
      go_quiet (fail)
      go_wp2
      go_roundw
      case rel => exact ⟨k + 1, _, by omega, by go_num, rfl⟩
      case measure => simp [intOf]; omega
    · go_wp2
      go_ret
      exact ⟨rfl, m, rfl⟩

/-- the marks that a slice of integers gets -/
def marksI (k : Int) : Nat → List Int
  | 0 => []
  | n + 1 => marksI k n ++ [k + n]
theorem marksI_len (k : Int) (n : Nat) : (marksI k n).length = n := by
  induction n with
  | zero => rfl
  | succ n ih => simp [marksI, ih]
theorem marksI_get (k : Int) (n j : Nat) (h : j < n) (hj : j < (marksI k n).length) : (marksI k n)[j] = k + j := by
  induction n with
  | zero => omega
  | succ n ih =>
    simp only [marksI]
    rcases Nat.lt_or_ge j n with h1 | h1
    · rw [List.getElem_append_left (by rw [marksI_len]; exact h1)]
      exact ih h1 _
    · have : j = n := by omega
      subst this
      rw [List.getElem_append_right (by rw [marksI_len]; omega)]
      simp [marksI_len]
theorem marksI_set (k : Int) (j : Nat) (ys : List Value) (h : j < ys.length) : (il (marksI k j) ++ ys.drop j).set j (.int .i64 (k + j)) = il (marksI k (j + 1)) ++ ys.drop (j + 1) := by
  have hl : (il (marksI k j)).length = j := by rw [il_len, marksI_len]
  rw [List.set_append_right _ _ (by omega), hl, Nat.sub_self, List.drop_eq_getElem_cons h]
  simp only [List.set_cons_zero, marksI]
  unfold il
  rw [List.map_append, List.append_assoc]
  rfl

end Go.Proofs.Ytfkjnaaplhcheaa

