/-
  Chains that go back: quotients; impl.arePositive, spec.l07Above; impl.BackChain.
-/
import Derived.Test.YtnnnpdendnjkhaaSrs
namespace Go.Proofs.Ytnnnpdendnjkhaa
open Go Go.RowKit Ieee
attribute [local go_sem] run_store_float

/-- a quotient by a finite number that is not 0 is no NaN -/
theorem div_some {x y : Nat} (hx : isFin single x = true) (hy : isFin single y = true) (hk : key single y ≠ 0) : ∃ r, single.div x y = some r ∧ isNan single r = false := by
  have he : 1 ≤ single.exponentBits := by decide
  obtain ⟨m, i, hr, -, -⟩ := read_fin ((fin_iff single he x).1 hx)
  obtain ⟨n, j, hq, -, hn⟩ := read_fin ((fin_iff single he y).1 hy)
  have hn0 : n ≠ 0 := by
    intro h0
    rw [h0, Nat.zero_mul] at hn
    have h1 : rungOf single y = 0 := by
      rcases Nat.eq_zero_or_pos (rungOf single y) with h | h
      · exact h
      · have := mu_mono single h
        omega
    unfold key at hk
    rw [h1] at hk
    simp at hk
  unfold Format.div
  rw [hr, hq]
  simp only [Datum.quotient, if_neg hn0, Option.map_some]
  exact ⟨_, rfl, notNan_write single he _ rfl⟩
theorem fdiv_run {x y : Nat} (hx : isFin single x = true) (hy : isFin single y = true) (hk : key single y ≠ 0) : floatBits .quo .f32 x y = some (fdiv x y) ∧ isNan single (fdiv x y) = false := by
  obtain ⟨r, h1, h2⟩ := div_some hx hy hk
  have h3 : fdiv x y = r := by unfold fdiv; rw [h1]; rfl
  rw [h3]
  exact ⟨h1, h2⟩

def aboveB (x : Nat) : Bool := FloatKind.f32.format.order x 0 == some .gt
def posB (x : Nat) : Bool := isFin single x && (FloatKind.f32.format.order x 0 == some .gt)
def badPos (x : Nat) : Bool := !isFin single x || (FloatKind.f32.format.order x 0 == some .lt || FloatKind.f32.format.order x 0 == some .eq)
theorem badPos_pos (x : Nat) : badPos x = !posB x := by
  unfold badPos posB
  cases hf : isFin single x with
  | false => rfl
  | true =>
    have h0 : single.order x 0 = FloatKind.f32.format.order x 0 := rfl
    rcases order_fin (fin_not_nan hf) (show isNan single 0 = false by decide +kernel) with h | h | h <;> rw [h0] at h <;> simp [h]
theorem any_badPos (xs : List Nat) : (!xs.any badPos) = xs.all posB := by
  rw [List.any_eq_not_all_not, Bool.not_not]
  congr 1
  funext x
  rw [badPos_pos, Bool.not_not]
theorem pos_above {xs : List Nat} (h : xs.all leastB = true) : xs.all posB = xs.all aboveB := by
  rw [Bool.eq_iff_iff, List.all_eq_true, List.all_eq_true]
  constructor
  · intro h1 x hx
    have := h1 x hx
    unfold posB at this
    rw [Bool.and_eq_true] at this
    exact this.2
  · intro h1 x hx
    unfold posB
    rw [Bool.and_eq_true]
    exact ⟨(least_iff.1 (List.all_eq_true.1 h x hx)).1, h1 x hx⟩
theorem above_key {x : Nat} (h : aboveB x = true) (hf : isFin single x = true) : 0 < key single x := by
  unfold aboveB at h
  have := gt_key (f := single) (by decide) (fin_not_nan hf) zero_notNan
  rw [key_zero] at this
  have h2 : (single.order x 0 == some .gt) = true := h
  rw [h2] at this
  exact of_decide_eq_true this.symm

set_option maxHeartbeats 400000 in
theorem arePositive1_any (x : Nat) (w : World) : Calls Try.prog 68 #[.float .f32 x] w (Quiet (.bool (badPos x)) w) := by
  have hl : badPos x = (!isFin single x || (FloatKind.f32.format.order x 0 == some .lt || FloatKind.f32.format.order x 0 == some .eq)) := rfl
  generalize badPos x = r at *
  cases hf : isFin single x with
  | true =>
    have HF := Lib.hid hf
    rw [hf] at hl
    have HL := Lib.hid hl
    clear hf hl
    go_enter Try.func68, Try.ntmps68
    go_wp2_with (go_at_call 50; refine (IsFinite_any _ _).mono ?_; rw [HF.out]; rintro e w' ⟨rfl, n, rfl⟩)
    go_ret
    rw [HL.out]
    exact .mk _
  | false =>
    have HF := Lib.hid hf
    rw [hf] at hl
    have HL := Lib.hid hl
    clear hf hl
    go_enter Try.func68, Try.ntmps68
    go_wp2_with (go_at_call 50; refine (IsFinite_any _ _).mono ?_; rw [HF.out]; rintro e w' ⟨rfl, n, rfl⟩)
    go_ret
    rw [HL.out]
    exact .mk _
set_option maxHeartbeats 400000 in
theorem arePositive_any (A : Option Addr) (xs : List Nat) (c : Nat) (w : World) (hx : xs.length ≤ 9223372036854775807) (h : Rd w w.heap.size A (fl xs)) :
    Calls Try.prog 39 #[.slice A xs.length c] w (Quiet (.bool (xs.all posB)) w) := by
  have HC := Lib.hid fun w h => ContainsFunc_fl 68 (.inr (.inr (.inl rfl))) badPos arePositive1_any A xs c w hx h
  have HA := Lib.hid (any_badPos xs)
  go_enter Try.func39, Try.ntmps39
  go_wp2_with (go_at_call 67; refine (HC.out _ h).mono ?_; rintro e w' ⟨rfl, n, rfl⟩)
  go_ret
  exact ⟨retB HA.out, n, rfl⟩
set_option maxHeartbeats 800000 in
theorem l07Above_any (A : Option Addr) (xs : List Nat) (c : Nat) (w : World) (hx : xs.length ≤ 9223372036854775807) (h : Rd w w.heap.size A (fl xs)) :
    Calls Try.prog 36 #[.slice A xs.length c] w (Quiet (.bool (xs.all aboveB)) w) := by
  go_enter Try.func36, Try.ntmps36
  go_wp2
  go_loop [6] (fun i => ∃ k : Nat, k ≤ xs.length ∧ i = .int .i64 k ∧ (xs.take k).all aboveB = true) (fun i => xs.length - (intOf i).toNat)
  case atStart => exact ⟨0, Nat.zero_le _, rfl, by simp⟩
  case round =>
    obtain ⟨k, hk, rfl, hall⟩ := hrel
    have HALL := Lib.hid hall
    clear hall
    by_cases hlt : k < xs.length
    · obtain ⟨b, off, rfl, hb, hc⟩ := h.flAt hlt
      have HT := Lib.hid (List.take_succ_eq_append_getElem hlt)
      have HM := Lib.hid (List.getElem_mem hlt)
      have hab : aboveB xs[k] = (FloatKind.f32.format.order xs[k] 0 == some .gt) := rfl
      clear h
      generalize xs[k] = x at *
      cases hs : aboveB x with
      | true =>
        have HS := Lib.hid hs
        rw [hs] at hab
        have hab' := hab.symm
        clear hs hab
        go_wp2
        go_round
        case rel => exact ⟨k + 1, by omega, by go_num, by rw [HT.out, List.all_append, HALL.out]; simp [HS.out]⟩
        case measure => simp [intOf]; omega
      | false =>
        have HS := Lib.hid hs
        rw [hs] at hab
        have hab' := hab.symm
        clear hs hab
        go_wp2
        go_ret
        refine ⟨retB ?_, 0, rfl⟩
        symm
        rw [Bool.eq_false_iff]
        intro ha
        have := List.all_eq_true.1 ha x HM.out
        rw [HS.out] at this
        cases this
    · have hr : xs.all aboveB = true := by
        have h1 := HALL.out
        rwa [List.take_of_length_le (by omega)] at h1
      have HR := Lib.hid hr
      clear hr
      go_wp2
      go_ret
      exact ⟨retB HR.out.symm, 0, rfl⟩

/-- the Steps of a chain that goes back -/
def backF (xs row : List Nat) (n i k : Nat) : Nat := fdiv (fmul (rowOf row k) (stepOf xs n k i)) (rowOf row i)
theorem back_runs {xs row : List Nat} {n i k : Nat} (hl : xs.length = n * n) (hp : xs.all partB = true) (hrl : row.length = n) (hr : row.all leastB = true) (ha : row.all aboveB = true) (hi : i < n) (hk : k < n) :
    floatBits .mul .f32 (rowOf row k) (stepOf xs n k i) = some (fmul (rowOf row k) (stepOf xs n k i)) ∧ floatBits .quo .f32 (fmul (rowOf row k) (stepOf xs n k i)) (rowOf row i) = some (backF xs row n i k) := by
  obtain ⟨f1, k1⟩ := rowOf_least hr (show k < row.length by omega)
  obtain ⟨f2, k2⟩ := rowOf_least hr (show i < row.length by omega)
  obtain ⟨p1, p2, p3, p4⟩ := part_key (stepOf_part hl hp hk hi)
  obtain ⟨m1, m2, m3⟩ := mul_nn f1 p4 k1 p2 p3
  have hab : aboveB (rowOf row i) = true := by
    unfold rowOf
    rw [List.getD_eq_getElem?_getD, List.getElem?_eq_getElem (show i < row.length by omega)]
    exact List.all_eq_true.1 ha _ (List.getElem_mem _)
  have := above_key hab f2
  exact ⟨(fmul_run f1 p4).1, (fdiv_run m1 f2 (by omega)).1⟩

def bkB (side : Int) (xs row : List Nat) : Bool := fitB side xs row && row.all aboveB

end Go.Proofs.Ytnnnpdendnjkhaa

