/-
  math.Floor, slices.IsSorted of singles, impl.BandOf of 20 numbers.
-/
import Derived.Test.YtfkjnaaplhcheaaCm
import Derived.Test.YtfkjnaaplhcheaaMe4
import Derived.Test.YtfkjnaaplhcheaaMe6
import Derived.Test.YtfkjnaaplhcheaaNt
namespace Go.Proofs.Ytfkjnaaplhcheaa
open Go Go.RowKit Ieee

def floorB (x : Nat) : Option Nat := match FloatKind.f64.decode x with | .nan _ _ => none | d => some (FloatKind.f64.encode (d.integral .down))
theorem toInt_is (n : String) (way : Toward) (x : Nat) : ∃ g : Bool → Nat → Sem Value, Extern.MathFloor.toIntegral n way #[.float .f64 x] = match FloatKind.f64.decode x with | .nan s t => g s t | d => pure (.float .f64 (FloatKind.f64.encode (d.integral way))) := ⟨_, rfl⟩
theorem arch_run {x r : Nat} (h : floorB x = some r) (w : World) : (callFunc 109 #[.float .f64 x]).run Try.prog w = .ok (.value (.float .f64 r)) w := by
  rw [run_callFunc_extern Try.func109 (by kernel_rfl) (by kernel_rfl) (by kernel_rfl) (e := Extern.MathFloor.toIntegral "math.archFloor" .down) (by kernel_rfl)]
  obtain ⟨g, hg⟩ := toInt_is "math.archFloor" .down x
  rw [hg]
  unfold floorB at h
  cases hd : FloatKind.f64.decode x with
  | nan s t => rw [hd] at h; cases h
  | infinity s =>
    rw [hd] at h
    cases h
    rfl
  | number s m e =>
    rw [hd] at h
    cases h
    rfl
theorem Floor_any {x r : Nat} (h : floorB x = some r) (w : World) : Calls Try.prog 75 #[.float .f64 x] w (fun e w' => e = .returned (.float .f64 r) ∧ w' = w) := by
  have hb := fun w => arch_run h w
  clear h
  go_enter Try.func75, Try.ntmps75
  go_wp2
  go_ret
  exact ⟨rfl, rfl⟩
set_option maxHeartbeats 800000 in
theorem Less_no (x y : Nat) (hx : isNan single x = false) (hy : isNan single y = false) (ho : ¬ FloatKind.f32.format.order x y = some .lt) (w : World) : Calls Try.prog 108 #[.float .f32 x, .float .f32 y] w (Quiet (.bool false) w) := by
  have HX := Lib.hid fun w => isNaN_not x hx w
  have HY := Lib.hid fun w => isNaN_not y hy w
  have hl : (FloatKind.f32.format.order x y == some .lt) = false := by
    cases e : (FloatKind.f32.format.order x y == some .lt) with
    | false => rfl
    | true => exact absurd (eq_of_beq e) ho
  clear hx hy ho
  go_enter Try.func108, Try.ntmps108
  go_wp2_with (first
    | ((with_reducible refine (HX.out _).mono ?_); rintro e w1 ⟨rfl, m, rfl⟩)
    | ((with_reducible refine (HY.out _).mono ?_); rintro e w1 ⟨rfl, m, rfl⟩))
  go_ret
  exact ⟨rfl, _, rfl⟩
set_option maxRecDepth 100000 in
set_option maxHeartbeats 1600000 in
theorem IsSorted_ok (A : Option Addr) (xs : List Nat) (c : Nat) (w : World) (h1 : 1 ≤ xs.length) (hx : xs.length ≤ 256) (hn : ∀ i, i < xs.length → isNan single (xs.getD i 0) = false)
    (hs : ∀ i, i + 1 < xs.length → ¬ FloatKind.f32.format.order (xs.getD (i + 1) 0) (xs.getD i 0) = some .lt) (h : Rd w w.heap.size A (fl xs)) :
    Calls Try.prog 74 #[.slice A xs.length c] w (Quiet (.bool true) w) := by
  have HC : Hid (∀ i, i + 1 < xs.length → ∀ w, Calls Try.prog 108 #[.float .f32 (xs.getD (i + 1) 0), .float .f32 (xs.getD i 0)] w (Quiet (.bool false) w)) := Lib.hid fun i hi w => Less_no _ _ (hn _ hi) (hn _ (by omega)) (hs i hi) w
  obtain ⟨b, off, rfl, hb, hc⟩ := rd_cells h h1
  have HV : Hid (∀ i, i < xs.length → w.cell? ⟨b, off + i, none⟩ = some (.float .f32 (xs.getD i 0))) := Lib.hid fun i hi => by
    rw [hc i hi, List.getD_eq_getElem?_getD, List.getElem?_eq_getElem hi]
    rfl
  clear hc h hn hs hb
  generalize hfx : (fun i => xs.getD i 0) = fx at *
  have hfx' : ∀ i, xs.getD i 0 = fx i := fun i => by rw [← hfx]
  simp only [hfx'] at HC HV
  clear hfx hfx'
  generalize xs.length = n at *
  obtain ⟨n, rfl⟩ : ∃ m, n = m + 1 := ⟨n - 1, by omega⟩
  have hn1 : wrap64 (((n + 1 : Nat) : Int) - 1) = (n : Nat) := by rw [show ((n + 1 : Nat) : Int) - 1 = (n : Nat) by omega]; unfold wrap64; omega
  go_enter Try.func74, Try.ntmps74
  go_wp2
  go_loopw [3] (fun i wr => ∃ k m : Nat, k ≤ n ∧ i = .int .i64 k ∧ wr = w.drewN m) (fun i _ => (intOf i).toNat)
  case atStart => exact ⟨n, 0, Nat.le_refl _, by first | rfl | go_num, rfl⟩
  case round =>
    obtain ⟨k, m, hk, rfl, rfl⟩ := hrel
    by_cases h0 : 0 < k
    · obtain ⟨k, rfl⟩ : ∃ q, k = q + 1 := ⟨k - 1, by omega⟩
      have c1 := HV.out (k + 1) (by omega)
      have c0 := HV.out k (by omega)
      have HL := Lib.hid (HC.out k (by omega))
      clear HV HC
      generalize fx (k + 1) = x at *
      generalize fx k = y at *
      have f1 : ((k + 1 : Nat) : Int) - 1 = (k : Nat) := by omega
      have f2 : ((k + 1 : Nat) : Int).toNat = k + 1 := by omega
      have f4 : (0 : Int) ≤ ((k + 1 : Nat) : Int) := by omega
      have f5 : ((k + 1 : Nat) : Int) < ((n + 1 : Nat) : Int) := by omega
      have f6 : ((k : Nat) : Int) < ((n + 1 : Nat) : Int) := by omega
      have hw : wrap64 (((k + 1 : Nat) : Int) - 1) = (k : Nat) := by rw [f1]; unfold wrap64; omega
      go_wp2
      go_quiet ((go_at_call 108; first | exact quiet_one (HL.out _) | exact quiet_add (HL.out _)))
      go_wp2
      go_roundw
      case rel => exact ⟨k, _, by omega, by first | go_num | (simp [hw]), by first | rfl | (rw [World.drewN_drewN])⟩
      case measure => first | (simp [intOf]; done) | (simp [intOf]; omega)
    · obtain rfl : k = 0 := by omega
      go_wp2
      go_ret
      exact ⟨rfl, m, rfl⟩
def bandS (j : Nat) : Nat := fdiv (floatOfInt .f32 (j : Int)) 1107296256
def bandP (j : Nat) : Nat := fmul (bandS j) (floatOfInt .f32 20)
def bandQ (j : Nat) : Nat := wd8 (bandP j)
def bandR (j : Nat) : Nat := (floorB (bandQ j)).getD 0
def bandK (j : Nat) : Nat := ((floatToIntVal .f64 (bandR j) .i64).getD 0).toNat
theorem band_few : ∀ j : Nat, j < 16 → 1 ≤ j → floatBits .quo .f32 (floatOfInt .f32 (j : Int)) 1107296256 = some (bandS j) ∧ floatBits .mul .f32 (bandS j) (floatOfInt .f32 20) = some (bandP j) ∧ floatToFloatBits .f32 (bandP j) .f64 = some (bandQ j)
    ∧ floorB (bandQ j) = some (bandR j) ∧ floatToIntVal .f64 (bandR j) .i64 = some (bandK j : Int) ∧ bandK j ≤ 9 ∧ FloatKind.f32.format.order (bandS j) 0 = some .gt ∧ FloatKind.f32.format.order (bandS j) 1056964608 = some .lt := by decide +kernel
set_option maxRecDepth 100000 in
set_option maxHeartbeats 1600000 in
theorem BandOf_ok (A : Option Addr) (zs : List Nat) (c j : Nat) (w : World) (h1 : 1 ≤ j) (hj : j < 16) (hl : zs.length = 20) (hf : zs.all (isFin single) = true)
    (hs : ∀ i, i + 1 < 20 → ¬ FloatKind.f32.format.order (zs.getD (i + 1) 0) (zs.getD i 0) = some .lt) (h : Rd w w.heap.size A (fl zs)) :
    Calls Try.prog 28 #[.slice A (20 : Nat) c, .float .f32 (bandS j)] w (fun e w' => e = .returned (.tuple #[.float .f32 (zs.getD (bandK j) 0), .float .f32 (zs.getD (19 - bandK j) 0), .bool true]) ∧ ∃ n, w' = w.drewN n) := by
  have hnn : ∀ i, i < zs.length → isNan single (zs.getD i 0) = false := fun i hi => by
    rw [List.getD_eq_getElem?_getD, List.getElem?_eq_getElem hi]
    exact fin_not_nan (List.all_eq_true.1 hf _ (List.getElem_mem hi))
  have HA : Hid (∀ W, Rd W W.heap.size A (fl zs) → Calls Try.prog 68 #[.slice A (20 : Nat) c] W (Quiet (.bool true) W)) := Lib.hid fun W hW => by
    have := areFinite_any A zs c W (by omega) hW
    rwa [hf, hl] at this
  have HI : Hid (∀ W, Rd W W.heap.size A (fl zs) → Calls Try.prog 74 #[.slice A (20 : Nat) c] W (Quiet (.bool true) W)) := Lib.hid fun W hW => by
    have := IsSorted_ok A zs c W (by omega) (by omega) hnn (fun i hi => hs i (by omega)) hW
    rwa [hl] at this
  obtain ⟨-, b2, b3, b4, b5, b6, b7, b8⟩ := band_few j hj h1
  have HFl := Lib.hid fun W => Floor_any b4 W
  obtain ⟨b, off, rfl, hb, hc⟩ := rd_cells h (by omega)
  have cL : w.cell? ⟨b, off + bandK j, none⟩ = some (.float .f32 (zs.getD (bandK j) 0)) := by
    rw [hc (bandK j) (by omega), List.getD_eq_getElem?_getD, List.getElem?_eq_getElem (by omega)]
    rfl
  have cH : w.cell? ⟨b, off + (19 - bandK j), none⟩ = some (.float .f32 (zs.getD (19 - bandK j) 0)) := by
    rw [hc (19 - bandK j) (by omega), List.getD_eq_getElem?_getD, List.getElem?_eq_getElem (by omega)]
    rfl
  have HR := Lib.hid h
  have r1 := fun w => run_float_arith (P := Try.prog) w .mul 50 .f32 _ _ _ b2
  have r2 := fun w => run_convert_float_float (P := Try.prog) w 50 51 .f32 .f64 _ _ (by rw [Try.underlying50]; rfl) Try.underlying51 b3
  have r3 := fun w => run_convert_float_int (P := Try.prog) w 51 3 .f64 .i64 _ _ (by rw [Try.underlying51]; rfl) Try.underlying3 b5
  clear h hc hf hs hnn b2 b3 b4 b5 hb
  generalize zs.getD (19 - bandK j) 0 = hi at *
  generalize zs.getD (bandK j) 0 = lo at *
  generalize bandS j = s at *
  generalize bandP j = p at *
  generalize bandQ j = q at *
  generalize bandR j = r at *
  generalize bandK j = k at *
  have k1 : ¬ (9 : Int) < (k : Int) := by omega
  have k0 : min (k : Int) 9 = (k : Int) := by omega
  have k2 : (19 : Int) - (k : Int) = ((19 - k : Nat) : Int) := by omega
  have k3 : wrap64 ((19 : Int) - (k : Int)) = ((19 - k : Nat) : Int) := by rw [k2]; unfold wrap64; omega
  have k4 : ((k : Nat) : Int) < 20 := by omega
  have k5 : ((19 - k : Nat) : Int) < 20 := by omega
  go_enter Try.func28, Try.ntmps28
  go_wp2_with (first
    | (go_at_call 68; refine (HA.out _ (HR.out.at_ (Below.refl _ _))).mono ?_; rintro e w1 ⟨rfl, m, rfl⟩)
    | (go_at_call 74; refine (HI.out _ (HR.out.at_ (below_drewN (Below.refl _ _) _))).mono ?_; rintro e w1 ⟨rfl, m2, rfl⟩)
    | (go_at_call 75; refine (HFl.out _).mono ?_; rintro e w1 ⟨rfl, rfl⟩))
  go_region
  go_wp2
  go_ret3
  exact ⟨rfl, _, rfl⟩
end Go.Proofs.Ytfkjnaaplhcheaa
