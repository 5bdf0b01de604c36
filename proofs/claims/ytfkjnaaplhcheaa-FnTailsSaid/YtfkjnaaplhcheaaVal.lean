/-
  Which chains are valid: the program's test and the reference's test give one and the same Bool.
-/
import Derived.Test.YtfkjnaaplhcheaaKey
import Derived.Test.YtfkjnaaplhcheaaFb
namespace Go.Proofs.Ytfkjnaaplhcheaa
open Go Go.RowKit Ieee

theorem quiet_add {P : Program} {f : FuncId} {args : Array Value} {w : World} {a n : Nat} {v : Value}
    (h : Calls P f args (w.drewN (a + n)) (Quiet v (w.drewN (a + n)))) : Calls P f args (w.drewN (a + n)) fun e w'' => e = .returned v ∧ ∃ m, w'' = w.drewN (a + m) :=
  h.mono fun _ _ ⟨he, m, hm⟩ => ⟨he, n + m, by rw [hm, World.drewN_drewN, Nat.add_assoc]⟩
theorem quiet_one {P : Program} {f : FuncId} {args : Array Value} {w : World} {n : Nat} {v : Value}
    (h : Calls P f args (w.drewN n) (Quiet v (w.drewN n))) : Calls P f args (w.drewN n) fun e w'' => e = .returned v ∧ ∃ m, w'' = w.drewN m :=
  h.mono fun _ _ ⟨he, m, hm⟩ => ⟨he, n + m, by rw [hm, World.drewN_drewN]⟩

def inB (n lo hi : Int) : Bool := decide (lo ≤ n ∧ n ≤ hi)
set_option maxHeartbeats 400000 in
theorem within_any (n lo hi : Int) (w : World) : Calls Try.prog 55 #[.int .i64 n, .int .i64 lo, .int .i64 hi] w (Quiet (.bool (inB n lo hi)) w) := by
  have hi' : inB n lo hi = decide (lo ≤ n ∧ n ≤ hi) := rfl
  generalize inB n lo hi = r at *
  by_cases h1 : lo ≤ n
  · by_cases h2 : n ≤ hi
    · have HR : Hid (r = true) := by rw [hi']; exact decide_eq_true ⟨h1, h2⟩
      clear hi'
      go_enter Try.func55, Try.ntmps55
      go_wp2
      go_ret
      rw [HR.out]
      exact .mk0
    · have HR : Hid (r = false) := by rw [hi']; exact decide_eq_false (by omega)
      clear hi'
      go_enter Try.func55, Try.ntmps55
      go_wp2
      go_ret
      rw [HR.out]
      exact ⟨retB (by first | (simp; done) | (simp; omega)), 0, rfl⟩
  · have HR : Hid (r = false) := by rw [hi']; exact decide_eq_false (by omega)
    clear hi'
    go_enter Try.func55, Try.ntmps55
    go_wp2
    go_ret
    rw [HR.out]
    exact .mk0
set_option maxHeartbeats 400000 in
theorem l00In_any (n lo hi : Int) (w : World) : Calls Try.prog 82 #[.int .i64 n, .int .i64 lo, .int .i64 hi] w (Quiet (.bool (inB n lo hi)) w) := by
  have hi' : inB n lo hi = decide (lo ≤ n ∧ n ≤ hi) := rfl
  generalize inB n lo hi = r at *
  by_cases h1 : lo ≤ n
  · by_cases h2 : n ≤ hi
    · have HR : Hid (r = true) := by rw [hi']; exact decide_eq_true ⟨h1, h2⟩
      clear hi'
      go_enter Try.func82, Try.ntmps82
      go_wp2
      go_ret
      rw [HR.out]
      exact .mk0
    · have HR : Hid (r = false) := by rw [hi']; exact decide_eq_false (by omega)
      clear hi'
      go_enter Try.func82, Try.ntmps82
      go_wp2
      go_ret
      rw [HR.out]
      exact ⟨retB (by first | (simp; done) | (simp; omega)), 0, rfl⟩
  · have HR : Hid (r = false) := by rw [hi']; exact decide_eq_false (by omega)
    clear hi'
    go_enter Try.func82, Try.ntmps82
    go_wp2
    go_ret
    rw [HR.out]
    exact .mk0

/-- from 0 to 1 -/
def partB (x : Nat) : Bool := (FloatKind.f32.format.order x 0 == some .gt || FloatKind.f32.format.order x 0 == some .eq) && (FloatKind.f32.format.order x 1065353216 == some .lt || FloatKind.f32.format.order x 1065353216 == some .eq)
theorem partB_eq (x : Nat) : partB x = ((FloatKind.f32.format.order x 0 == some .gt || FloatKind.f32.format.order x 0 == some .eq) && (FloatKind.f32.format.order x 1065353216 == some .lt || FloatKind.f32.format.order x 1065353216 == some .eq)) := rfl

def notPart (x : Nat) : Bool := !partB x
set_option maxHeartbeats 400000 in
theorem areParts1_any (x : Nat) (w : World) : Calls Try.prog 114 #[.float .f32 x] w (Quiet (.bool (notPart x)) w) := by
  have hn : notPart x = !partB x := rfl
  have hp := partB_eq x
  generalize notPart x = r' at *
  generalize partB x = r at *
  cases h1 : (FloatKind.f32.format.order x 0 == some .gt || FloatKind.f32.format.order x 0 == some .eq) with
  | true =>
    rw [h1] at hp
    have HN := Lib.hid hn
    have HP := Lib.hid hp
    clear hp hn
    go_enter Try.func114, Try.ntmps114
    go_wp2
    go_ret
    rw [HN.out, HP.out]
    exact ⟨retB (by simp), 0, rfl⟩
  | false =>
    rw [h1] at hp
    have HN := Lib.hid hn
    have HP := Lib.hid hp
    clear hp hn
    go_enter Try.func114, Try.ntmps114
    go_wp2
    go_ret
    rw [HN.out, HP.out]
    exact ⟨retB (by simp), 0, rfl⟩
theorem any_notPart (xs : List Nat) : (!xs.any notPart) = xs.all partB := by
  rw [List.any_eq_not_all_not, Bool.not_not]
  congr 1
  funext x
  unfold notPart
  rw [Bool.not_not]
set_option maxHeartbeats 400000 in
theorem areParts_any (A : Option Addr) (xs : List Nat) (c : Nat) (w : World) (hx : xs.length ≤ 9223372036854775807) (h : Rd w w.heap.size A (fl xs)) :
    Calls Try.prog 79 #[.slice A xs.length c] w (Quiet (.bool (xs.all partB)) w) := by
  have HC := Lib.hid fun w h => ContainsFunc_fl 114 rfl notPart areParts1_any A xs c w hx h
  have HA := Lib.hid (any_notPart xs)
  go_enter Try.func79, Try.ntmps79
  go_wp2_with (go_at_call 102; refine (HC.out _ h).mono ?_; rintro e w' ⟨rfl, n, rfl⟩)
  go_ret
  exact ⟨retB HA.out, n, rfl⟩

/-! ### keys of constants -/
theorem one_notNan : isNan single 1065353216 = false := by decide +kernel
theorem zero_notNan : isNan single 0 = false := by decide +kernel
theorem one_fin : isFin single 1065353216 = true := by decide +kernel
theorem key_zero : key single 0 = 0 := by decide +kernel
theorem key_one : key single 1065353216 = 1065353216 := by decide +kernel
theorem part_key {x : Nat} (h : partB x = true) : isNan single x = false ∧ 0 ≤ key single x ∧ key single x ≤ 1065353216 ∧ isFin single x = true := by
  have hn : isNan single x = false := by
    cases hn : isNan single x with
    | false => rfl
    | true =>
      have h0 := order_nan_left (f := FloatKind.f32.format) 0 hn
      rw [partB_eq, h0] at h
      cases h
  have g := ge_key (f := single) (by decide) hn zero_notNan
  have l := le_key (f := single) (by decide) hn one_notNan
  rw [partB_eq] at h
  have h' : ((single.order x 0 == some .gt || single.order x 0 == some .eq) && (single.order x 1065353216 == some .lt || single.order x 1065353216 == some .eq)) = true := h
  rw [g, l, key_zero, key_one, Bool.and_eq_true, decide_eq_true_eq, decide_eq_true_eq] at h'
  refine ⟨hn, h'.1, h'.2, ?_⟩
  rw [fin_iff single (by decide)]
  have hi : single.infRung = 2139095040 := rfl
  rw [hi]
  have := h'.1
  have := h'.2
  unfold key at *
  split at this <;> omega

/-- a sum, and 0 where there is none -/
def fadd (x y : Nat) : Nat := (single.add x y).getD 0
def fsub (x y : Nat) : Nat := (single.sub x y).getD 0
def fmul (x y : Nat) : Nat := (single.mul x y).getD 0
def fdiv (x y : Nat) : Nat := (single.div x y).getD 0
theorem fadd_run {x y : Nat} (hx : isNan single x = false) (hy : isFin single y = true) : floatBits .add .f32 x y = some (fadd x y) ∧ isNan single (fadd x y) = false := by
  obtain ⟨r, h, hn⟩ := add_some (f := single) (by decide) hx hy
  have e : fadd x y = r := by unfold fadd; rw [h]; rfl
  rw [e]
  exact ⟨h, hn⟩
theorem fsub_run {x y : Nat} (hx : isNan single x = false) (hy : isFin single y = true) : floatBits .sub .f32 x y = some (fsub x y) ∧ isNan single (fsub x y) = false := by
  obtain ⟨r, h, hn⟩ := sub_some (f := single) (by decide) hx hy
  have e : fsub x y = r := by unfold fsub; rw [h]; rfl
  rw [e]
  exact ⟨h, hn⟩
theorem fmul_run {x y : Nat} (hx : isFin single x = true) (hy : isFin single y = true) : floatBits .mul .f32 x y = some (fmul x y) ∧ isNan single (fmul x y) = false := by
  obtain ⟨r, h, hn⟩ := mul_some (f := single) (by decide) hx hy
  have e : fmul x y = r := by unfold fmul; rw [h]; rfl
  rw [e]
  exact ⟨h, hn⟩
def fsum (xs : List Nat) : Nat := xs.foldl fadd 0
theorem fsum_snoc (xs : List Nat) (x : Nat) : fsum (xs ++ [x]) = fadd (fsum xs) x := by unfold fsum; rw [List.foldl_append]; rfl
theorem fsum_notNan : ∀ (xs : List Nat), (∀ x ∈ xs, isFin single x = true) → isNan single (fsum xs) = false := by
  intro xs
  rw [← List.reverse_reverse xs]
  generalize xs.reverse = ys
  induction ys with
  | nil => exact fun _ => zero_notNan
  | cons y ys ih =>
    intro h
    rw [List.reverse_cons, fsum_snoc]
    exact (fadd_run (ih fun x hx => h x (by simp only [List.mem_reverse] at hx ⊢; exact List.mem_cons_of_mem _ hx)) (h y (by simp))).2

/-- a row of a list that holds rows of n numbers -/
def rowAt (xs : List Nat) (n i : Nat) : List Nat := (xs.drop (i * n)).take n
theorem rowAt_len {xs : List Nat} {n i : Nat} (hl : xs.length = n * n) (hi : i < n) : (rowAt xs n i).length = n := by
  unfold rowAt
  have h1 : i * n + n ≤ n * n := by
    have := Nat.mul_le_mul_right n (show i + 1 ≤ n by omega)
    rw [Nat.add_mul, Nat.one_mul] at this
    exact this
  rw [List.length_take, List.length_drop]
  omega
theorem idx_lt {n i k : Nat} (hi : i < n) (hk : k < n) : i * n + k < n * n := by
  have := Nat.mul_le_mul_right n (show i + 1 ≤ n by omega)
  rw [Nat.add_mul, Nat.one_mul] at this
  omega
theorem rowAt_get {xs : List Nat} {n i k : Nat} (hl : xs.length = n * n) (hi : i < n) (hk : k < n) (h : k < (rowAt xs n i).length) : (rowAt xs n i)[k] = xs[i * n + k]'(by rw [hl]; exact idx_lt hi hk) := by
  have e : rowAt xs n i = (xs.drop (i * n)).take n := rfl
  have h2 : k < ((xs.drop (i * n)).take n).length := by rw [← e]; exact h
  show ((xs.drop (i * n)).take n)[k]'h2 = _
  rw [List.getElem_take, List.getElem_drop]

theorem Rd.row {w : World} {B : Nat} {b off : Nat} {vs : List Value} {lo m : Nat} (h : Rd w B (some ⟨b, off, none⟩) vs) (hm : lo + m ≤ vs.length) : Rd w B (some ⟨b, off + lo, none⟩) ((vs.drop lo).take m) := fun h0 => by
  have hlen : ((vs.drop lo).take m).length = m := by rw [List.length_take, List.length_drop]; omega
  obtain ⟨b', off', e, hb, hc⟩ := h (by omega)
  injection e with e
  injection e with e1 e2
  subst e1 e2
  refine ⟨b, off + lo, rfl, hb, fun k hk => ?_⟩
  have := hc (lo + k) (by omega)
  rw [← Nat.add_assoc] at this
  rw [this, List.getElem_take, List.getElem_drop]

end Go.Proofs.Ytfkjnaaplhcheaa



