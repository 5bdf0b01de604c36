/-
  Plain facts on single and double precision numbers, and how the walk runs their operations when the result is a NaN.
-/
import Derived.WalkKit
import Derived.WalkLawsBesides
import Derived.Lib.Hide
import Derived.Deep.Draws
namespace Go.Proofs.Ytfkjnaaplhcheaa
open Go Ieee

/-- a NaN -/
def isNan (f : Format) (x : Nat) : Bool := (f.read x).isNaN
/-- a finite number -/
def isFin (f : Format) (x : Nat) : Bool := match f.read x with | .number .. => true | _ => false

theorem order_refl {f : Format} {x : Nat} (h : isNan f x = false) : f.order x x = some .eq := by
  unfold isNan Datum.isNaN at h
  unfold Format.order Datum.order
  cases hd : f.read x with
  | number s m i => simp [compare, compareOfLessAndEq]
  | infinity s => simp [compare, compareOfLessAndEq]
  | nan s t => rw [hd] at h; simp at h
theorem order_nan_left {f : Format} {x : Nat} (y : Nat) (h : isNan f x = true) : f.order x y = none := by
  unfold isNan Datum.isNaN at h
  unfold Format.order Datum.order
  cases hd : f.read x with
  | number s m i => rw [hd] at h; simp at h
  | infinity s => rw [hd] at h; simp at h
  | nan s t => rfl
theorem order_nan_right {f : Format} {y : Nat} (x : Nat) (h : isNan f y = true) : f.order x y = none := by
  unfold isNan Datum.isNaN at h
  unfold Format.order Datum.order
  cases hd : f.read y with
  | number s m i => rw [hd] at h; simp at h
  | infinity s => rw [hd] at h; simp at h
  | nan s t => cases f.read x <;> rfl

/-- The bits of a NaN that the tape answers. -/
def nanDraw (_k : FloatKind) (q : Question) (w : World) : Nat := q.cut (w.tape w.drawn q)

theorem nan_f32 (t : Nat) : isNan single ((t % 2) * 2 ^ 31 + 0x7f800000 + 1 + (t / 2) % (2 ^ 23 - 1)) = true := by
  unfold isNan Format.read
  have h1 : single.signWeight = 2147483648 := rfl
  have h2 : single.binade = 8388608 := rfl
  have h3 : single.infRung = 2139095040 := rfl
  rw [h1, h2, h3]
  have hb : (t / 2) % (2 ^ 23 - 1) < 8388607 := Nat.mod_lt _ (by decide)
  generalize (t / 2) % (2 ^ 23 - 1) = u at *
  have hs : t % 2 < 2 := Nat.mod_lt _ (by decide)
  have hm : ((t % 2) * 2 ^ 31 + 0x7f800000 + 1 + u) % 2147483648 = 2139095041 + u := by omega
  simp only [hm]
  rw [if_neg (by omega), if_neg (by omega), if_neg (by omega)]
  rfl
theorem nan_f64 (t : Nat) : isNan double ((t % 2) * 2 ^ 63 + 0x7ff0000000000000 + 1 + (t / 2) % (2 ^ 52 - 1)) = true := by
  unfold isNan Format.read
  have h1 : double.signWeight = 9223372036854775808 := rfl
  have h2 : double.binade = 4503599627370496 := rfl
  have h3 : double.infRung = 9218868437227405312 := rfl
  rw [h1, h2, h3]
  have hb : (t / 2) % (2 ^ 52 - 1) < 4503599627370495 := Nat.mod_lt _ (by decide)
  generalize (t / 2) % (2 ^ 52 - 1) = u at *
  have hs : t % 2 < 2 := Nat.mod_lt _ (by decide)
  have hm : ((t % 2) * 2 ^ 63 + 0x7ff0000000000000 + 1 + u) % 9223372036854775808 = 9218868437227405313 + u := by omega
  simp only [hm]
  rw [if_neg (by omega), if_neg (by omega), if_neg (by omega)]
  rfl

theorem nanDraw_bits (k : FloatKind) (x y : Nat) (w : World) : isNan k.format (nanDraw k (.nanBits k x y) w) = true := by
  cases k
  · exact nan_f32 _
  · exact nan_f64 _
theorem nanDraw_conv (k : FloatKind) (b : Nat) (w : World) : isNan k.format (nanDraw k (.nanConv k b) w) = true := by
  cases k
  · exact nan_f32 _
  · exact nan_f64 _
theorem nanDraw_lt (k : FloatKind) (q : Question) (w : World) (hq : (∃ x y, q = .nanBits k x y) ∨ ∃ b, q = .nanConv k b) : nanDraw k q w < 2 ^ k.format.width := by
  have a1 : ∀ t : Nat, (t % 2) * 2 ^ 31 + 0x7f800000 + 1 + (t / 2) % (2 ^ 23 - 1) < 2 ^ 32 := fun t => by
    have hb : (t / 2) % (2 ^ 23 - 1) < 8388607 := Nat.mod_lt _ (by decide)
    have hs : t % 2 < 2 := Nat.mod_lt _ (by decide)
    omega
  have a2 : ∀ t : Nat, (t % 2) * 2 ^ 63 + 0x7ff0000000000000 + 1 + (t / 2) % (2 ^ 52 - 1) < 2 ^ 64 := fun t => by
    have hb : (t / 2) % (2 ^ 52 - 1) < 4503599627370495 := Nat.mod_lt _ (by decide)
    have hs : t % 2 < 2 := Nat.mod_lt _ (by decide)
    omega
  rcases hq with ⟨x, y, rfl⟩ | ⟨b, rfl⟩ <;> cases k
  · exact a1 _
  · exact a2 _
  · exact a1 _
  · exact a2 _

section
variable {P : Program} (w : World)
theorem run_choose_nan (k : FloatKind) (x y : Nat) : (choose (.nanBits k x y)).run P w = .ok (nanDraw k (.nanBits k x y) w) w.drew := by
  rw [Go.run_choose, if_neg (by simp [Question.forced])]
  rfl
theorem run_choose_conv (k : FloatKind) (b : Nat) : (choose (.nanConv k b)).run P w = .ok (nanDraw k (.nanConv k b) w) w.drew := by
  rw [Go.run_choose, if_neg (by simp [Question.forced])]
  rfl
/-- an operation that gives a NaN -/
theorem run_float_nan (op : BinOp) (hop : op = .add ∨ op = .sub ∨ op = .mul ∨ op = .quo) (t : TypeId) (k : FloatKind) (x y : Nat) (h : floatBits op k x y = none) :
    (binOp op t (.float k x) (.float k y)).run P w = .ok (.float k (nanDraw k (.nanBits k x y) w)) w.drew := by
  unfold floatBits at h
  rcases hop with rfl | rfl | rfl | rfl <;> simp only at h <;> simp [binOp, Op.floatArith, h, Question.forced, nanDraw]
/-- a NaN made wider or narrower -/
theorem run_convert_nan (src dst : TypeId) (s k : FloatKind) (b : Nat) (hs : (P.underlying src).isSome = true) (hd : P.underlying dst = some (.float k)) (hne : s ≠ k) (h : isNan s.format b = true) :
    (convert src dst (.float s b)).run P w = .ok (.float k (nanDraw k (.nanConv k b) w)) w.drew := by
  obtain ⟨u, hu⟩ := Option.isSome_iff_exists.1 hs
  unfold isNan at h
  have hc : (Conv.floatToFloat s b k).run P w = .ok (.float k (nanDraw k (.nanConv k b) w)) w.drew := by
    unfold Conv.floatToFloat
    rw [if_neg hne]
    unfold FloatKind.decode
    cases hr : s.format.read b with
    | number s' m i => rw [hr] at h; simp [Datum.isNaN] at h
    | infinity s' => rw [hr] at h; simp [Datum.isNaN] at h
    | nan s' t => simp [Question.forced, nanDraw]
  cases u <;> simp [convert, run_underlying hu, run_underlying hd, hc]
end

/-! ### x - x is zero just where x is finite -/
theorem sub_self_fin {f : Format} {x : Nat} (h : isFin f x = true) : f.sub x x = some 0 := by
  unfold isFin at h
  unfold Format.sub
  cases hd : f.read x with
  | number s m i =>
    simp only [Datum.opposite, Datum.sum, Int.min_self, Int.sub_self, Int.toNat_zero]
    have ht : signed s m 0 + signed (!s) m 0 = 0 := by
      unfold signed
      cases s <;> simp <;> omega
    rw [ht]
    simp [Format.write, Format.nearest, Format.word]
  | infinity s => rw [hd] at h; simp at h
  | nan s t => rw [hd] at h; simp at h
theorem sub_self_not {f : Format} {x : Nat} (h : isFin f x = false) : f.sub x x = none := by
  unfold isFin at h
  unfold Format.sub
  cases hd : f.read x with
  | number s m i => rw [hd] at h; simp at h
  | infinity s => cases s <;> simp [Datum.opposite, Datum.sum]
  | nan s t => simp [Datum.sum]
theorem fin_not_nan {f : Format} {x : Nat} (h : isFin f x = true) : isNan f x = false := by
  unfold isFin at h
  unfold isNan Datum.isNaN
  cases hd : f.read x with
  | number s m i => rfl
  | infinity s => rfl
  | nan s t => rw [hd] at h; simp at h
end Go.Proofs.Ytfkjnaaplhcheaa
