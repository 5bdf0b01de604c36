/-
  When two lists of single numbers are the same, for the program and for the reference.
-/
import Derived.Test.YtlhepgdheopgaaaVal
import Derived.Test.YtlhepgdheopgaaaExt
namespace Go.Proofs.Ytlhepgdheopgaaa
open Go Go.RowKit Ieee

def bitsI (x : Nat) : Int := if isNan single x then 2143289344 else x
set_option maxHeartbeats 400000 in
theorem l01Bits_any (x : Nat) (w : World) (hx : x < 4294967296) : Calls Try.prog 88 #[.float .f32 x] w (Quiet (.int .i64 (bitsI x)) w) := by
  cases hn : isNan single x with
  | true =>
    have HB : Hid (bitsI x = 2143289344) := by unfold Hid bitsI; rw [hn]; rfl
    have ho : FloatKind.f32.format.order x x = none := order_nan_left x hn
    clear hn
    go_enter Try.func88, Try.ntmps88
    go_wp2
    go_ret
    rw [HB.out]
    exact .mk0
  | false =>
    have HB : Hid (bitsI x = x) := by unfold Hid bitsI; rw [hn]; rfl
    have ho : FloatKind.f32.format.order x x = some .eq := order_refl hn
    clear hn
    have hb := fun w => f32bits_run x w
    go_enter Try.func88, Try.ntmps88
    go_wp2
    go_ret
    rw [HB.out]
    exact .mk0

def sameB (x y : Nat) : Bool := bitsI x == bitsI y
set_option maxHeartbeats 400000 in
theorem l01Same_any (x y : Nat) (w : World) (hx : x < 4294967296) (hy : y < 4294967296) : Calls Try.prog 79 #[.float .f32 x, .float .f32 y] w (Quiet (.bool (sameB x y)) w) := by
  have h1 := Lib.hid fun w => l01Bits_any x w hx
  have h2 := Lib.hid fun w => l01Bits_any y w hy
  have HS : Hid (sameB x y = (bitsI x == bitsI y)) := rfl
  clear hx hy
  go_enter Try.func79, Try.ntmps79
  go_wp2_with fail
  refine (h1.out _).mono ?_
  rintro e w1 ⟨rfl, n1, rfl⟩
  go_wp2_with fail
  refine (h2.out _).mono ?_
  rintro e w1 ⟨rfl, n2, rfl⟩
  go_wp2_with fail
  go_ret
  rw [HS.out]
  exact ⟨rfl, n1 + n2, by first | rfl | simp⟩
def sameAllB (xs ys : List Nat) : Bool := decide (xs.length = ys.length) && (xs.zip ys).all fun p => sameB p.1 p.2
theorem zip_take_succ {xs ys : List Nat} {k : Nat} (h1 : k < xs.length) (h2 : k < ys.length) : (xs.take (k + 1)).zip (ys.take (k + 1)) = (xs.take k).zip (ys.take k) ++ [(xs[k], ys[k])] := by
  rw [List.take_succ_eq_append_getElem h1, List.take_succ_eq_append_getElem h2, List.zip_append (by simp; omega)]
  rfl
theorem sameAll_no {xs ys : List Nat} {k : Nat} (h1 : k < xs.length) (h2 : k < ys.length) (h : sameB xs[k] ys[k] = false) : sameAllB xs ys = false := by
  unfold sameAllB
  rw [Bool.and_eq_false_iff]
  refine .inr (List.all_eq_false.2 ⟨(xs[k], ys[k]), ?_, by rw [h]; exact Bool.false_ne_true⟩)
  rw [List.mem_iff_getElem]
  exact ⟨k, by simp; omega, by simp⟩

/-! ### impl.SameNumber -/
theorem wide_sign {x r : Nat} (h : floatToFloatBits .f32 x .f64 = some r) : r < 18446744073709551616 ∧ negOf double r = negOf single x := by
  have hlt : ∀ d, double.write d < 18446744073709551616 := fun d => double.write_lt d
  unfold floatToFloatBits at h
  rw [if_neg (by decide)] at h
  have h' : (match single.read x with | .nan _ _ => none | .infinity s => some (double.write (.infinity s)) | .number s m e => if (double.read (double.write (.number s m e))).isInfinity = true then none else some (double.write (.number s m e))) = some r := h
  cases hr : single.read x with
  | nan s t => rw [hr] at h'; cases h'
  | infinity s =>
    rw [hr] at h'
    have e := Option.some.inj h'
    have hs : s = negOf single x := by
      have := hr
      rw [read_eq] at this
      split at this
      · cases this
      · split at this
        · cases this
        · split at this
          · injection this with this; exact this.symm
          · cases this
    rw [← e]
    refine ⟨hlt _, ?_⟩
    have : double.write (.infinity s) = double.word s double.infRung := rfl
    rw [this, (rung_word double s double.infRung_lt).2, hs]
  | number s m i =>
    rw [hr] at h'
    have hs : s = negOf single x := by
      have := hr
      rw [read_eq] at this
      split at this
      · injection this with this; exact this.symm
      · split at this
        · injection this with this; exact this.symm
        · split at this <;> cases this
    simp only at h'
    split at h'
    · cases h'
    · have e := Option.some.inj h'
      rw [← e]
      refine ⟨hlt _, ?_⟩
      have : double.write (.number s m i) = double.word s (rungTo double m i) := nearest_eq double s m i
      rw [this, (rung_word double s (rungTo_lt double m i)).2, hs]
theorem sign_wrap {r : Nat} (h : r < 18446744073709551616) : decide (wrap64 (r : Int) < 0) = negOf double r := by
  unfold negOf
  have h1 : double.signWeight = 9223372036854775808 := rfl
  rw [h1]
  unfold wrap64
  by_cases hr : r < 9223372036854775808
  · rw [Nat.div_eq_of_lt hr]
    simp
    omega
  · have : r / 9223372036854775808 = 1 := by omega
    rw [this]
    simp
    omega
set_option maxHeartbeats 400000 in
theorem Signbit_any (r : Nat) (w : World) (h : r < 18446744073709551616) : Calls Try.prog 87 #[.float .f64 r] w (Quiet (.bool (negOf double r)) w) := by
  have hb := fun w => f64bits_run r w
  have HS := Lib.hid (sign_wrap h)
  clear h
  go_enter Try.func87, Try.ntmps87
  go_wp2
  go_ret
  exact ⟨retB HS.out, 0, rfl⟩

theorem sameB_num {x y : Nat} (hx : isNan single x = false) (hy : isNan single y = false) (bx : x < 4294967296) (bY : y < 4294967296) : sameB x y = ((FloatKind.f32.format.order x y == some .eq) && (negOf single x == negOf single y)) := by
  have he : (FloatKind.f32.format.order x y == some .eq) = decide (key single x = key single y) := eq_key (f := single) (by decide) hx hy
  rw [he]
  unfold sameB bitsI
  rw [hx, hy]
  simp only [Bool.false_eq_true, if_false]
  have sw : single.signWeight = 2147483648 := rfl
  have dx : x = (if negOf single x then 2147483648 else 0) + rungOf single x := by
    unfold negOf rungOf
    rw [sw]
    split
    · rename_i h
      have := beq_iff_eq.1 h
      omega
    · rename_i h
      have : ¬ (x / 2147483648 % 2 = 1) := fun h' => h (beq_iff_eq.2 h')
      omega
  have dy : y = (if negOf single y then 2147483648 else 0) + rungOf single y := by
    unfold negOf rungOf
    rw [sw]
    split
    · rename_i h
      have := beq_iff_eq.1 h
      omega
    · rename_i h
      have : ¬ (y / 2147483648 % 2 = 1) := fun h' => h (beq_iff_eq.2 h')
      omega
  rw [Bool.eq_iff_iff]
  rw [Bool.and_eq_true, decide_eq_true_eq, beq_iff_eq, beq_iff_eq]
  unfold key
  constructor
  · intro h
    have hxy : x = y := Int.ofNat.inj h
    subst hxy
    exact ⟨rfl, rfl⟩
  · rintro ⟨h1, h2⟩
    rw [h2] at h1 dx
    have : rungOf single x = rungOf single y := by split at h1 <;> omega
    have hxy : x = y := by
      rw [this] at dx
      exact dx.trans dy.symm
    rw [hxy]
theorem sameB_nan {x y : Nat} (h : isNan single x = true ∨ isNan single y = true) : sameB x y = (isNan single x && isNan single y) := by
  have hq : isNan single 2143289344 = true := by decide +kernel
  unfold sameB bitsI
  cases hx : isNan single x with
  | true =>
    cases hy : isNan single y with
    | true => rfl
    | false =>
      simp only [if_true, Bool.false_eq_true, if_false, Bool.true_and]
      rw [beq_eq_false_iff_ne]
      intro h'
      have : y = 2143289344 := Int.ofNat.inj h'.symm
      rw [this, hq] at hy
      cases hy
  | false =>
    cases hy : isNan single y with
    | true =>
      simp only [if_true, Bool.false_eq_true, if_false, Bool.false_and]
      rw [beq_eq_false_iff_ne]
      intro h'
      have : x = 2143289344 := Int.ofNat.inj h'
      rw [this, hq] at hx
      cases hx
    | false => rcases h with h | h <;> simp_all

set_option maxHeartbeats 800000 in
theorem SameNumber_any (x y : Nat) (w : World) (bx : x < 4294967296) (bY : y < 4294967296) : Calls Try.prog 77 #[.float .f32 x, .float .f32 y] w (Quiet (.bool (sameB x y)) w) := by
  have HB1 := Lib.hid bx
  have HB2 := Lib.hid bY
  clear bx bY
  cases hx : isNan single x with
  | true =>
    have hs := sameB_nan (x := x) (y := y) (.inl hx)
    rw [hx, Bool.true_and] at hs
    have ho : FloatKind.f32.format.order x x = none := order_nan_left x hx
    clear hx
    cases hy : isNan single y with
    | true =>
      rw [hy] at hs
      have HS := Lib.hid hs
      have ho2 : FloatKind.f32.format.order y y = none := order_nan_left y hy
      clear hs hy
      go_enter Try.func77, Try.ntmps77
      go_wp2
      go_ret
      rw [HS.out]
      exact ⟨retB (by first | rfl | simp), 0, rfl⟩
    | false =>
      rw [hy] at hs
      have HS := Lib.hid hs
      have ho2 : FloatKind.f32.format.order y y = some .eq := order_refl hy
      clear hs hy
      go_enter Try.func77, Try.ntmps77
      go_wp2
      go_ret
      rw [HS.out]
      exact ⟨retB (by first | rfl | simp), 0, rfl⟩
  | false =>
    have ho : FloatKind.f32.format.order x x = some .eq := order_refl hx
    cases hy : isNan single y with
    | true =>
      have hs := sameB_nan (x := x) (y := y) (.inr hy)
      rw [hx, Bool.false_and] at hs
      have HS := Lib.hid hs
      have ho2 : FloatKind.f32.format.order y y = none := order_nan_left y hy
      clear hs hy hx
      go_enter Try.func77, Try.ntmps77
      go_wp2
      go_ret
      rw [HS.out]
      exact ⟨retB (by first | rfl | simp), 0, rfl⟩
    | false =>
      have hs := sameB_num hx hy HB1.out HB2.out
      have ho2 : FloatKind.f32.format.order y y = some .eq := order_refl hy
      obtain ⟨r, hr, -⟩ := wide x hx
      obtain ⟨q, hq, -⟩ := wide y hy
      have hr2 := wide_sign hr
      have hq2 := wide_sign hq
      have hsx : (Try.prog.underlying 31).isSome = true := by rw [Try.underlying31]; rfl
      have hc1 := fun w => run_convert_float_float (P := Try.prog) w 31 37 .f32 .f64 x r hsx Try.underlying37 hr
      have hc2 := fun w => run_convert_float_float (P := Try.prog) w 31 37 .f32 .f64 y q hsx Try.underlying37 hq
      have HG1 : Hid (∀ w, Calls Try.prog 87 #[.float .f64 r] w (Quiet (.bool (negOf single x)) w)) := fun w => by have := Signbit_any r w hr2.1; rwa [hr2.2] at this
      have HG2 : Hid (∀ w, Calls Try.prog 87 #[.float .f64 q] w (Quiet (.bool (negOf single y)) w)) := fun w => by have := Signbit_any q w hq2.1; rwa [hq2.2] at this
      clear hr2 hq2 hr hq hsx hx hy
      cases he : (FloatKind.f32.format.order x y == some .eq) with
      | false =>
        rw [he, Bool.false_and] at hs
        have HS := Lib.hid hs
        clear hs
        go_enter Try.func77, Try.ntmps77
        go_wp2
        go_ret
        rw [HS.out]
        exact ⟨retB (by first | rfl | simp), 0, rfl⟩
      | true =>
        rw [he, Bool.true_and] at hs
        have HS := Lib.hid hs
        clear hs
        go_enter Try.func77, Try.ntmps77
        go_wp2_with fail
        refine (HG1.out _).mono ?_
        rintro e w1 ⟨rfl, n1, rfl⟩
        go_wp2_with fail
        refine (HG2.out _).mono ?_
        rintro e w1 ⟨rfl, n2, rfl⟩
        go_wp2_with fail
        go_ret
        rw [HS.out]
        exact ⟨retB (by first | rfl | simp), n1 + n2, by first | rfl | simp⟩

set_option maxHeartbeats 800000 in
theorem EqualFunc_any (A B : Option Addr) (xs ys : List Nat) (c d : Nat) (w : World) (hx : xs.length ≤ 9223372036854775807) (_hy : ys.length ≤ 9223372036854775807) (bx : ∀ x ∈ xs, x < 4294967296) (bY : ∀ x ∈ ys, x < 4294967296) (hA : Rd w w.heap.size A (fl xs)) (hB : Rd w w.heap.size B (fl ys)) :
    Calls Try.prog 76 #[.slice A xs.length c, .slice B ys.length d, .func (.func 77) #[] #[]] w (Quiet (.bool (sameAllB xs ys)) w) := by
  have HX := Lib.hid bx
  have HY := Lib.hid bY
  clear bx bY
  by_cases hl : xs.length = ys.length
  · rw [← hl]
    have HL := Lib.hid hl
    clear hl
    go_enter Try.func76, Try.ntmps76
    go_wp2
    go_loopw [7, 8, 9, 17] (fun _ _ _ i wr => ∃ k m : Nat, k ≤ xs.length ∧ i = .int .i64 k ∧ ((xs.take k).zip (ys.take k)).all (fun p => sameB p.1 p.2) = true ∧ wr = w.drewN m) (fun _ _ _ i _ => xs.length - (intOf i).toNat)
    case atStart => exact ⟨0, 0, Nat.zero_le _, rfl, by simp, rfl⟩
    case round =>
      obtain ⟨k, m, hk, rfl, hall, rfl⟩ := hrel
      have HALL := Lib.hid hall
      clear hall
      by_cases hlt : k < xs.length
      · have hlt' : k < ys.length := by have := HL.out; omega
        obtain ⟨b, off, rfl, hb, hc⟩ := hA.flAt hlt
        obtain ⟨b', off', rfl, hb', hc'⟩ := hB.flAt hlt'
        have HZ := Lib.hid (zip_take_succ hlt hlt')
        have HNO := Lib.hid fun h => sameAll_no hlt hlt' h
        have HC := Lib.hid fun w => SameNumber_any xs[k] ys[k] w (HX.out _ (List.getElem_mem hlt)) (HY.out _ (List.getElem_mem hlt'))
        clear hA hB
        generalize xs[k] = x at *
        generalize ys[k] = y at *
        cases hs : sameB x y with
        | true =>
          have HS := Lib.hid hs
          clear hs
          have HCC : Hid (∀ w, Calls Try.prog 77 #[.float .f32 x, .float .f32 y] w (Quiet (.bool true) w)) := fun w => by have := HC.out w; rwa [HS.out] at this
          go_wp2_with (go_at_call 77; refine (HCC.out _).mono ?_; rintro e w1 ⟨rfl, n1, rfl⟩)
          go_roundw
          case rel => exact ⟨k + 1, m + n1, by omega, by go_num, by rw [HZ.out, List.all_append, HALL.out]; simp [HS.out], by first | rfl | simp⟩
          case measure => simp [intOf]; omega
        | false =>
          have HS := Lib.hid hs
          clear hs
          have HCC : Hid (∀ w, Calls Try.prog 77 #[.float .f32 x, .float .f32 y] w (Quiet (.bool false) w)) := fun w => by have := HC.out w; rwa [HS.out] at this
          go_wp2_with (go_at_call 77; refine (HCC.out _).mono ?_; rintro e w1 ⟨rfl, n1, rfl⟩)
          go_ret
          rw [HNO.out HS.out]
          exact ⟨rfl, m + n1, by first | rfl | simp⟩
      · have hke : k = xs.length := by omega
        have hr : sameAllB xs ys = true := by
          have h1 := HALL.out
          rw [List.take_of_length_le (by omega), List.take_of_length_le (by have := HL.out; omega)] at h1
          unfold sameAllB
          rw [h1, HL.out]
          simp
        have HR := Lib.hid hr
        clear hr
        go_wp2
        go_ret
        rw [HR.out]
        exact ⟨rfl, m, rfl⟩
  · have hne : (((xs.length : Nat) : Int) != ((ys.length : Nat) : Int)) = true := by rw [bne_iff_ne]; omega
    have HR : Hid (sameAllB xs ys = false) := by unfold Hid sameAllB; rw [decide_eq_false hl]; rfl
    clear hl
    go_enter Try.func76, Try.ntmps76
    go_wp2
    go_ret
    rw [HR.out]
    exact .mk0
set_option maxHeartbeats 400000 in
theorem sameNumbers_any (A B : Option Addr) (xs ys : List Nat) (c d : Nat) (w : World) (hx : xs.length ≤ 9223372036854775807) (hy : ys.length ≤ 9223372036854775807) (bx : ∀ x ∈ xs, x < 4294967296) (bY : ∀ x ∈ ys, x < 4294967296) (hA : Rd w w.heap.size A (fl xs)) (hB : Rd w w.heap.size B (fl ys)) :
    Calls Try.prog 57 #[.slice A xs.length c, .slice B ys.length d] w (Quiet (.bool (sameAllB xs ys)) w) := by
  have HE := Lib.hid fun w hA hB => EqualFunc_any A B xs ys c d w hx hy bx bY hA hB
  clear bx bY
  go_enter Try.func57, Try.ntmps57
  go_wp2_with (go_at_call 76; refine (HE.out _ hA hB).mono ?_; rintro e w1 ⟨rfl, n1, rfl⟩)
  go_ret
  exact ⟨rfl, n1, rfl⟩

def sameChainB (n m : Int) (xs ys : List Nat) : Bool := (n == m) && sameAllB xs ys
set_option maxHeartbeats 400000 in
theorem SameChain_any (n m : Int) (A B : Option Addr) (xs ys : List Nat) (c d : Nat) (w : World) (hx : xs.length ≤ 9223372036854775807) (hy : ys.length ≤ 9223372036854775807) (bx : ∀ x ∈ xs, x < 4294967296) (bY : ∀ x ∈ ys, x < 4294967296) (hA : Rd w w.heap.size A (fl xs)) (hB : Rd w w.heap.size B (fl ys)) :
    Calls Try.prog 21 #[.agg #[.int .i64 n, .slice A xs.length c], .agg #[.int .i64 m, .slice B ys.length d]] w (fun e w' => e = .returned (.bool (sameChainB n m xs ys)) ∧ Below w.heap.size w w') := by
  have HE := Lib.hid fun w hA hB => sameNumbers_any A B xs ys c d w hx hy bx bY hA hB
  clear bx bY
  cases hn : (n == m) with
  | true =>
    have HR : Hid (sameChainB n m xs ys = sameAllB xs ys) := by unfold Hid sameChainB; rw [hn, Bool.true_and]
    go_enter Try.func21, Try.ntmps21
    go_wp2_with (go_at_call 57; refine (HE.out _ (hA.at_ (by repeat (first | exact Below.refl _ _ | refine Below.alloc ?_ (by simp; try omega) _))) (hB.at_ (by repeat (first | exact Below.refl _ _ | refine Below.alloc ?_ (by simp; try omega) _)))).mono ?_; rintro e w1 ⟨rfl, n1, rfl⟩)
    go_ret
    rw [HR.out]
    exact ⟨rfl, below_drewN (by repeat (first | exact Below.refl _ _ | refine Below.alloc ?_ (by simp; try omega) _)) _⟩
  | false =>
    have HR : Hid (sameChainB n m xs ys = false) := by unfold Hid sameChainB; rw [hn, Bool.false_and]
    go_enter Try.func21, Try.ntmps21
    go_wp2
    go_ret
    rw [HR.out]
    exact ⟨rfl, (by repeat (first | exact Below.refl _ _ | refine Below.alloc ?_ (by simp; try omega) _))⟩
end Go.Proofs.Ytlhepgdheopgaaa

