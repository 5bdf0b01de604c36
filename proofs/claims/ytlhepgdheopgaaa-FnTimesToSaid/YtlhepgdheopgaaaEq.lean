/-
  Contracts of the laws' own helpers on slices of single numbers: copies, and tests that two slices are the same.
-/
import Derived.Test.YtlhepgdheopgaaaFa
import Derived.Test.YtlhepgdheopgaaaRnd
import Derived.Test.YtlhepgdheopgaaaSet
namespace Go.Proofs.Ytlhepgdheopgaaa
open Go Go.RowKit Ieee

/-- two numbers are the same for the laws: the same bits, or both no number -/
def sameW (f : Format) (x y : Nat) : Prop := (x = y ∧ isNan f x = false) ∨ (isNan f x = true ∧ isNan f y = true)
theorem sameW_refl (f : Format) (x : Nat) : sameW f x x := by
  cases h : isNan f x with
  | true => exact .inr ⟨h, h⟩
  | false => exact .inl ⟨rfl, h⟩

theorem div_zero_some {x : Nat} (h : double.order x 0 = some .eq) : ∃ r, floatBits .quo .f64 4607182418800017408 x = some r := by
  unfold Format.order at h
  have h0 : double.read 0 = .number false 0 (-1074) := by decide +kernel
  have h1 : double.read 4607182418800017408 = .number false 4503599627370496 (-52) := by decide +kernel
  rw [h0] at h
  show ∃ r, double.div 4607182418800017408 x = some r
  unfold Format.div
  rw [h1]
  cases hx : double.read x with
  | nan s t => rw [hx] at h; simp [Datum.order] at h
  | infinity s => rw [hx] at h; cases s <;> simp [Datum.order] at h
  | number s m i =>
    rw [hx] at h
    have hm : m = 0 := by
      simp only [Datum.order, signed] at h
      have h' := Option.some.inj h
      simp only [Int.compare_eq_eq] at h'
      by_cases hm : m = 0
      · exact hm
      · exfalso
        have : 0 < m <<< (i - min i (-1074)).toNat := by
          rw [Nat.shiftLeft_eq]
          exact Nat.mul_pos (by omega) (Nat.two_pow_pos _)
        rw [Nat.zero_shiftLeft] at h'
        cases s <;> simp at h' <;> omega
    subst hm
    simp [Datum.quotient]

/-- what a single becomes as a double: its value, or any NaN -/
def wideV (x : Nat) (v : Value) : Prop := ∃ r, v = .float .f64 r ∧ ((isNan single x = false ∧ floatToFloatBits .f32 x .f64 = some r ∧ isNan double r = false) ∨ (isNan single x = true ∧ isNan double r = true))
theorem run_wide (x : Nat) (w : World) : ∃ v m, (convert 31 37 (.float .f32 x)).run Try.prog w = .ok v (w.drewN m) ∧ wideV x v := by
  have hs : (Try.prog.underlying 31).isSome = true := by rw [Try.underlying31]; rfl
  cases hn : isNan single x with
  | false =>
    obtain ⟨r, hr, hr2⟩ := wide x hn
    exact ⟨_, 0, run_convert_float_float w _ _ .f32 .f64 x r hs Try.underlying37 hr, r, rfl, .inl ⟨hn, hr, hr2⟩⟩
  | true =>
    exact ⟨_, 1, run_convert_nan w _ _ .f32 .f64 x hs Try.underlying37 (by decide) hn, _, rfl, .inr ⟨hn, nanDraw_conv .f64 x w⟩⟩
theorem wide_same {x y : Nat} {u v : Value} (h : sameW single x y) (hu : wideV x u) (hv : wideV y v) : ∃ r s, u = .float .f64 r ∧ v = .float .f64 s ∧ sameW double r s := by
  obtain ⟨r, rfl, hr⟩ := hu
  obtain ⟨s, rfl, hs⟩ := hv
  refine ⟨r, s, rfl, rfl, ?_⟩
  rcases h with ⟨rfl, hn⟩ | ⟨hx, hy⟩
  · rcases hr with ⟨_, h1, h2⟩ | ⟨h1, _⟩
    · rcases hs with ⟨_, h3, h4⟩ | ⟨h3, _⟩
      · rw [h1] at h3
        exact .inl ⟨Option.some.inj h3, h2⟩
      · rw [hn] at h3; cases h3
    · rw [hn] at h1; cases h1
  · rcases hr with ⟨h1, _⟩ | ⟨_, h2⟩
    · rw [hx] at h1; cases h1
    · rcases hs with ⟨h3, _⟩ | ⟨_, h4⟩
      · rw [hy] at h3; cases h3
      · exact .inr ⟨h2, h4⟩

/-- lists whose numbers are the same, one by one -/
def sameL (xs ys : List Nat) : Prop := xs.length = ys.length ∧ ∀ k (h : k < xs.length) (h' : k < ys.length), sameW single xs[k] ys[k]
theorem sameL_refl (xs : List Nat) : sameL xs xs := ⟨rfl, fun _ _ _ => sameW_refl _ _⟩

end Go.Proofs.Ytlhepgdheopgaaa

