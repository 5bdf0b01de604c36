/-
  Contracts of the laws' own helpers on slices of single numbers: copies, and tests that two slices are the same.
-/
import Derived.Test.YtfkjnaaplhcheaaFa
import Derived.Test.YtfkjnaaplhcheaaRnd
import Derived.Test.YtfkjnaaplhcheaaSet
namespace Go.Proofs.Ytfkjnaaplhcheaa
open Go Go.RowKit Ieee

/-- two numbers are the same for the laws: the same bits, or both no number -/
def sameW (f : Format) (x y : Nat) : Prop := (x = y ∧ isNan f x = false) ∨ (isNan f x = true ∧ isNan f y = true)
theorem sameW_refl (f : Format) (x : Nat) : sameW f x x := by
  cases h : isNan f x with
  | true => exact .inr ⟨h, h⟩
  | false => exact .inl ⟨rfl, h⟩

theorem div_zero_some {x : Nat} (h : double.order x 0 = some .eq) : ∃ r, floatBits .quo .f64 4607182418800017408 x = some r := by
  unfold Format.order at h
  have h0 : double.read 0 = .number false 0 (-1074) := by decide +kernel
  have h1 : double.read 4607182418800017408 = .number false 4503599627370496 (-52) := by decide +kernel
  rw [h0] at h
  show ∃ r, double.div 4607182418800017408 x = some r
  unfold Format.div
  rw [h1]
  cases hx : double.read x with
  | nan s t => rw [hx] at h; simp [Datum.order] at h
  | infinity s => rw [hx] at h; cases s <;> simp [Datum.order] at h
  | number s m i =>
    rw [hx] at h
    have hm : m = 0 := by
      simp only [Datum.order, signed] at h
      have h' := Option.some.inj h
      simp only [Int.compare_eq_eq] at h'
      by_cases hm : m = 0
      · exact hm
      · exfalso
        have : 0 < m <<< (i - min i (-1074)).toNat := by
          rw [Nat.shiftLeft_eq]
          exact Nat.mul_pos (by omega) (Nat.two_pow_pos _)
        rw [Nat.zero_shiftLeft] at h'
        cases s <;> simp at h' <;> omega
    subst hm
    simp [Datum.quotient]

set_option maxHeartbeats 800000 in
theorem sameFloat_yes (x y : Nat) (w : World) (h : sameW double x y) : Calls Try.prog 90 #[.float .f64 x, .float .f64 y] w (Quiet (.bool true) w) := by
  rcases h with ⟨rfl, hn⟩ | ⟨hx, hy⟩
  · have ho : FloatKind.f64.format.order x x = some .eq := order_refl hn
    cases hz : (FloatKind.f64.format.order x 0 == some .eq) with
    | true =>
      obtain ⟨r, hr⟩ := div_zero_some (x := x) (beq_iff_eq.1 hz)
      have hd := fun w => run_float_arith (P := Try.prog) w .quo 51 .f64 4607182418800017408 x r hr
      clear hr hn
      go_enter Try.func90, Try.ntmps90
      go_wp2
      go_ret
      exact ⟨retB (by simp), 0, rfl⟩
    | false =>
      clear hn
      go_enter Try.func90, Try.ntmps90
      go_wp2
      go_ret
      exact ⟨retB (by simp), 0, rfl⟩
  · have hxx : FloatKind.f64.format.order x x = none := order_nan_left x hx
    have hyy : FloatKind.f64.format.order y y = none := order_nan_left y hy
    clear hx hy
    go_enter Try.func90, Try.ntmps90
    go_wp2
    go_ret
    exact ⟨retB (by simp), 0, rfl⟩

/-- what a single becomes as a double: its value, or any NaN -/
def wideV (x : Nat) (v : Value) : Prop := ∃ r, v = .float .f64 r ∧ ((isNan single x = false ∧ floatToFloatBits .f32 x .f64 = some r ∧ isNan double r = false) ∨ (isNan single x = true ∧ isNan double r = true))
theorem run_wide (x : Nat) (w : World) : ∃ v m, (convert 50 51 (.float .f32 x)).run Try.prog w = .ok v (w.drewN m) ∧ wideV x v := by
  have hs : (Try.prog.underlying 50).isSome = true := by rw [Try.underlying50]; rfl
  cases hn : isNan single x with
  | false =>
    obtain ⟨r, hr, hr2⟩ := wide x hn
    exact ⟨_, 0, run_convert_float_float w _ _ .f32 .f64 x r hs Try.underlying51 hr, r, rfl, .inl ⟨hn, hr, hr2⟩⟩
  | true =>
    exact ⟨_, 1, run_convert_nan w _ _ .f32 .f64 x hs Try.underlying51 (by decide) hn, _, rfl, .inr ⟨hn, nanDraw_conv .f64 x w⟩⟩
theorem wide_same {x y : Nat} {u v : Value} (h : sameW single x y) (hu : wideV x u) (hv : wideV y v) : ∃ r s, u = .float .f64 r ∧ v = .float .f64 s ∧ sameW double r s := by
  obtain ⟨r, rfl, hr⟩ := hu
  obtain ⟨s, rfl, hs⟩ := hv
  refine ⟨r, s, rfl, rfl, ?_⟩
  rcases h with ⟨rfl, hn⟩ | ⟨hx, hy⟩
  · rcases hr with ⟨_, h1, h2⟩ | ⟨h1, _⟩
    · rcases hs with ⟨_, h3, h4⟩ | ⟨h3, _⟩
      · rw [h1] at h3
        exact .inl ⟨Option.some.inj h3, h2⟩
      · rw [hn] at h3; cases h3
    · rw [hn] at h1; cases h1
  · rcases hr with ⟨h1, _⟩ | ⟨_, h2⟩
    · rw [hx] at h1; cases h1
    · rcases hs with ⟨h3, _⟩ | ⟨_, h4⟩
      · rw [hy] at h3; cases h3
      · exact .inr ⟨h2, h4⟩

/-- lists whose numbers are the same, one by one -/
def sameL (xs ys : List Nat) : Prop := xs.length = ys.length ∧ ∀ k (h : k < xs.length) (h' : k < ys.length), sameW single xs[k] ys[k]
theorem sameL_refl (xs : List Nat) : sameL xs xs := ⟨rfl, fun _ _ _ => sameW_refl _ _⟩

set_option maxRecDepth 100000 in
set_option maxHeartbeats 800000 in
theorem eqFloat32S_yes (A B : Option Addr) (xs ys : List Nat) (c d : Nat) (w : World) (hx : xs.length ≤ 9223372036854775807) (hs : sameL xs ys) (hA : Rd w w.heap.size A (fl xs)) (hB : Rd w w.heap.size B (fl ys)) :
    Calls Try.prog 41 #[.slice A xs.length c, .slice B ys.length d] w (Quiet (.bool true) w) := by
  obtain ⟨hlen, hsame⟩ := hs
  rw [← hlen]
  have HS := Lib.hid hsame
  have HL := Lib.hid hlen
  clear hsame hlen
  go_enter Try.func41, Try.ntmps41
  go_wp2
  go_loopw [5] (fun i wr => ∃ k m : Nat, k ≤ xs.length ∧ i = .int .i64 k ∧ wr = w.drewN m) (fun i _ => xs.length - (intOf i).toNat)
  case atStart => exact ⟨0, 0, Nat.zero_le _, rfl, rfl⟩
  case round =>
    obtain ⟨k, m, hk, rfl, rfl⟩ := hrel
    by_cases hlt : k < xs.length
    · have hlt' : k < ys.length := by have := HL.out; omega
      obtain ⟨b, off, rfl, hb, hc⟩ := hA.flAt hlt
      obtain ⟨b', off', rfl, hb', hc'⟩ := hB.flAt hlt'
      clear hA hB
      have hsk := HS.out k hlt hlt'
      have HW := Lib.hid hsk
      clear hsk
      go_wp2
      refine wp_region_set_tail 10 (by kernel_rfl) (by kernel_rfl) ?_
      simp only [List.take_succ_cons, List.take_zero, List.drop_succ_cons, List.drop_zero]
      refine wpSet_quiet rfl rfl ?_; intro K hK; go_big_quiet_op; go_big_quiet_on
      refine wpSet_quiet rfl rfl ?_; intro K hK; go_big_quiet_op; go_big_quiet_on
      refine wpSet_quiet rfl rfl ?_; intro K hK; go_big_quiet_op; go_big_quiet_on
      refine wpSet_quiet rfl rfl ?_; intro K hK; go_big_quiet_op; go_big_quiet_on
      refine wpSet_of (w := w.drewN m) rfl (wideV xs[k]) (fun m1 => ?_) ?_
      · obtain ⟨v, m', hr, hv⟩ := run_wide xs[k] ((w.drewN m).drewN m1)
        exact ⟨v, m1 + m', by rw [← World.drewN_drewN]; exact run_convert_op rfl rfl hr, hv⟩
      rintro _ hv1
      have HV1 := hv1
      obtain ⟨r1, rfl, -⟩ := hv1
      simp only [Act.put, List.setIfInBounds_toArray, List.set_cons_succ, List.set_cons_zero]
      refine wpSet_quiet rfl rfl ?_; intro K hK; go_big_quiet_op; go_big_quiet_on
      refine wpSet_quiet rfl rfl ?_; intro K hK; go_big_quiet_op; go_big_quiet_on
      refine wpSet_quiet rfl rfl ?_; intro K hK; go_big_quiet_op; go_big_quiet_on
      refine wpSet_quiet rfl rfl ?_; intro K hK; go_big_quiet_op; go_big_quiet_on
      refine wpSet_of (w := w.drewN m) rfl (wideV ys[k]) (fun m1 => ?_) ?_
      · obtain ⟨v, m', hr, hv⟩ := run_wide ys[k] ((w.drewN m).drewN m1)
        exact ⟨v, m1 + m', by rw [← World.drewN_drewN]; exact run_convert_op rfl rfl hr, hv⟩
      rintro _ hv2
      obtain ⟨r1', r2, h1, rfl, hsw⟩ := wide_same HW.out HV1 hv2
      obtain rfl : r1 = r1' := by injection h1
      simp only [Act.put, List.setIfInBounds_toArray, List.set_cons_succ, List.set_cons_zero]
      have HSW := Lib.hid hsw
      clear HV1 hv2 hsw h1
      refine wpSet_nil (fun m2 => ?_)
      go_wp2_with (go_at_call 90; refine (sameFloat_yes _ _ _ HSW.out).mono ?_; rintro e w' ⟨rfl, n, rfl⟩)
      go_roundw
      case rel => exact ⟨k + 1, m + m2 + n, by omega, by go_num, by simp⟩
      case measure => simp [intOf]; omega
    · go_wp2
      go_ret
      exact ⟨rfl, m, rfl⟩
end Go.Proofs.Ytfkjnaaplhcheaa
