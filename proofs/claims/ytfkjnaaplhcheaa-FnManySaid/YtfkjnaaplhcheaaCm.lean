/-
  Contracts of the laws' helpers on chains.
  cmp.Compare of float32 and impl.byShare's comparison.
-/
import Derived.Test.YtfkjnaaplhcheaaTo
import Derived.Deep.RegionHeld3
import Derived.Test.YtfkjnaaplhcheaaIs
import Derived.Test.YtfkjnaaplhcheaaMono
namespace Go.Proofs.Ytfkjnaaplhcheaa
open Go Go.RowKit Ieee

/-- what is left of a number of places, -1 if nothing is -/
def leftOf (left n : Int) : Int := if left - n < 0 then -1 else left - n

/-- a list of single numbers of a call's own: a new slice, whose cells it owns -/
def OwnF (w : World) (base : Nat) (v : Value) (xs : List Nat) : Prop := ∃ A c, v = .slice A xs.length c ∧ w.ownsRow base 50 1 v xs.length (fl xs)
theorem OwnF.rd {w : World} {base : Nat} {A : Option Addr} {n c : Nat} {xs : List Nat} (h : OwnF w base (.slice A n c) xs) : n = xs.length ∧ Rd w w.heap.size A (fl xs) := by
  obtain ⟨A', c', he, ho⟩ := h
  injection he with e1 e2 e3
  subst e1 e2 e3
  exact ⟨rfl, Rd.of_own ho⟩

/-- the marks that a slice gets: k, k + 1 and so on as single numbers -/
def marks (k : Int) : Nat → List Nat
  | 0 => []
  | n + 1 => marks k n ++ [floatOfInt .f32 (k + n)]
theorem marks_len (k : Int) (n : Nat) : (marks k n).length = n := by
  induction n with
  | zero => rfl
  | succ n ih => simp [marks, ih]
theorem marks_get (k : Int) (n j : Nat) (h : j < n) (hj : j < (marks k n).length) : (marks k n)[j] = floatOfInt .f32 (k + j) := by
  induction n with
  | zero => omega
  | succ n ih =>
    simp only [marks]
    rcases Nat.lt_or_ge j n with h1 | h1
    · rw [List.getElem_append_left (by rw [marks_len]; exact h1)]
      exact ih h1 _
    · have : j = n := by omega
      subst this
      rw [List.getElem_append_right (by rw [marks_len]; omega)]
      simp [marks_len]

theorem marks_set (k : Int) (j : Nat) (ys : List Value) (h : j < ys.length) : (fl (marks k j) ++ ys.drop j).set j (.float .f32 (floatOfInt .f32 (k + j))) = fl (marks k (j + 1)) ++ ys.drop (j + 1) := by
  have hl : (fl (marks k j)).length = j := by rw [fl_len, marks_len]
  rw [List.set_append_right _ _ (by omega), hl, Nat.sub_self, List.drop_eq_getElem_cons h]
  simp only [List.set_cons_zero, marks]
  unfold fl
  rw [List.map_append, List.append_assoc]
  rfl
theorem own_none {w : World} {base n c : Nat} {e : TypeId} {vs : List Value} (h : w.ownsRow base e 1 (.slice none n c) n vs) : n = 0 := by
  rcases h.2 with ⟨_, h0⟩ | ⟨g, cap, cur, hv, _⟩
  · exact h0
  · injection hv with h1
    cases h1
theorem own_some {w : World} {base n c : Nat} {a : Addr} {e : TypeId} {vs : List Value} (h : w.ownsRow base e 1 (.slice (some a) n c) n vs) : ∃ g, a = ⟨g, 0, none⟩ ∧ base ≤ g := by
  rcases h.2 with ⟨h1, _⟩ | ⟨g, cap, cur, hv, hb, _⟩
  · cases h1
  · injection hv with h1
    injection h1 with h1
    exact ⟨g, h1, hb⟩

theorem grown_refl (w : World) (row : Option Nat) : w.grownBy w row := ⟨rfl, rfl, rfl, Nat.le_refl _, fun _ _ _ => rfl⟩
theorem grown_set {w w' : World} {g : Nat} (h : w.grownBy w' (some g)) (i : Nat) (v : Value) : w.grownBy (w'.setCell ⟨g, i, none⟩ v) (some g) :=
  ⟨h.os, h.tape, h.output, by simp only [World.setCell, Array.size_modify]; exact h.size, fun k hk hne => (Below.heap_setCell _ _ _ _ (fun e => hne (by rw [e]))).trans (h.block k hk hne)⟩

attribute [local go_sem] run_store_float
set_option maxHeartbeats 800000 in
theorem markFloat32S_any (A : Option Addr) (base n : Nat) (vs : List Value) (c : Nat) (k : Int) (w : World) (hx : n ≤ 1048576) (hk0 : 0 ≤ k) (hk : k ≤ 4194304) (ho : w.ownsRow base 50 1 (.slice A n c) n vs) :
    Calls Try.prog 42 #[.slice A n c, .int .i64 k] w (fun e w' => e = .returned (.int .i64 (k + n)) ∧ w'.ownsRow base 50 1 (.slice A n c) n (fl (marks k n)) ∧ w.grownBy w' (Value.slice A n c).ownBlock) := by
  have HO := Lib.hid ho
  clear ho
  go_enter Try.func42, Try.ntmps42
  go_wp2
  go_loopw [1, 5] (fun kk i wr => ∃ j : Nat, j ≤ n ∧ i = .int .i64 j ∧ kk = .int .i64 (k + j) ∧ w.grownBy wr (Value.slice A n c).ownBlock ∧ wr.ownsRow base 50 1 (.slice A n c) n (fl (marks k j) ++ vs.drop j)) (fun _ i _ => n - (intOf i).toNat)
  case atStart => exact ⟨0, Nat.zero_le _, rfl, by go_num, grown_refl _ _, by simpa [marks, fl] using HO.out⟩
  case round =>
    obtain ⟨j, hj, rfl, rfl, hb, hown⟩ := hrel
    have HB := Lib.hid hb
    clear hb
    by_cases hlt : j < n
    · cases A with
      | none => have := own_none hown; omega
      | some a =>
        obtain ⟨g, rfl, hg⟩ := own_some hown
        have hvl : vs.length = n := by have := HO.out.1; omega
        have hst := hown.stored j (.float .f32 (floatOfInt .f32 (k + j)))
        have hfz := hown.frozenAt j
        have hcl := hown.cellAt j (by omega)
        have hlen : j < (fl (marks k j) ++ vs.drop j).length := by rw [hown.1]; omega
        rw [List.getElem?_eq_getElem hlen] at hcl
        generalize (fl (marks k j) ++ vs.drop j)[j] = u at hcl
        rw [marks_set k j vs (by omega)] at hst
        have HST := Lib.hid hst
        have HV := Lib.hid hvl
        clear hst hown hlen hvl
        go_wp2
        go_roundw
        case rel => exact ⟨j + 1, by omega, by go_num, by go_num, grown_set HB.out _ _, HST.out.1⟩
        case measure => simp [intOf]; omega
    · have hke : j = n := by omega
      subst hke
      rw [List.drop_eq_nil_of_le (by have := HO.out.1; omega), List.append_nil] at hown
      have HOW := Lib.hid hown
      clear hown
      go_wp2
      go_ret
      exact ⟨rfl, HOW.out, HB.out⟩

theorem ofInt_notNan (m : Int) : isNan single (floatOfInt .f32 m) = false := notNan_write single (by decide) (.number (m < 0) m.natAbs 0) rfl

set_option maxHeartbeats 800000 in
theorem heldFloat32S_any (A : Option Addr) (n c : Nat) (k : Int) (w : World) (hx : n ≤ 1048576) (hk0 : 0 ≤ k) (hk : k ≤ 4194304) (hr : Rd w w.heap.size A (fl (marks k n))) :
    Calls Try.prog 43 #[.slice A n c, .int .i64 k] w (Quiet (.int .i64 (k + n)) w) := by
  go_enter Try.func43, Try.ntmps43
  go_wp2
  go_loop [1, 5] (fun kk i => ∃ j : Nat, j ≤ n ∧ i = .int .i64 j ∧ kk = .int .i64 (k + j)) (fun _ i => n - (intOf i).toNat)
  case atStart => exact ⟨0, Nat.zero_le _, rfl, by go_num⟩
  case round =>
    obtain ⟨j, hj, rfl, rfl⟩ := hrel
    by_cases hlt : j < n
    · obtain ⟨b, off, rfl, hb, hc⟩ := hr.flAt (k := j) (by rw [marks_len]; exact hlt)
      rw [marks_get k n j hlt] at hc
      have ho : FloatKind.f32.format.order (floatOfInt .f32 (k + j)) (floatOfInt .f32 (k + j)) = some .eq := order_refl (ofInt_notNan _)
      clear hr
      go_wp2
      go_round
      case rel => exact ⟨j + 1, by omega, by go_num, by go_num⟩
      case measure => simp [intOf]; omega
    · have hke : j = n := by omega
      subst hke
      go_wp2
      go_ret
      exact .mk0

end Go.Proofs.Ytfkjnaaplhcheaa
namespace Go.Proofs.Ytfkjnaaplhcheaa
open Go Go.RowKit Ieee

theorem isNaN_not (x : Nat) (h : isNan single x = false) (w : World) : Calls Try.prog 107 #[.float .f32 x] w (Quiet (.bool false) w) := by
  have ho : FloatKind.f32.format.order x x = some .eq := order_refl h
  go_enter Try.func107, Try.ntmps107
  go_wp2
  go_ret
  exact Quiet.mk0
/-- what cmp.Compare answers of two numbers -/
def cmpI (x y : Nat) : Int := if single.order x y = some .lt then -1 else if single.order x y = some .gt then 1 else 0
set_option maxHeartbeats 800000 in
theorem Compare_any (x y : Nat) (hx : isNan single x = false) (hy : isNan single y = false) (w : World) : Calls Try.prog 73 #[.float .f32 x, .float .f32 y] w (Quiet (.int .i64 (cmpI x y)) w) := by
  have HX := Lib.hid fun w => isNaN_not x hx w
  have HY := Lib.hid fun w => isNaN_not y hy w
  have HR : Hid (cmpI x y = if FloatKind.f32.format.order x y = some .lt then -1 else if FloatKind.f32.format.order x y = some .gt then 1 else 0) := Lib.hid rfl
  clear hx hy
  rcases ho : FloatKind.f32.format.order x y with _ | o
  · rw [ho] at HR
    go_enter Try.func73, Try.ntmps73
    go_wp2_with (first
      | ((with_reducible refine (HX.out _).mono ?_); rintro e w1 ⟨rfl, m, rfl⟩)
      | ((with_reducible refine (HY.out _).mono ?_); rintro e w1 ⟨rfl, m, rfl⟩))
    go_ret
    rw [HR.out]
    exact ⟨rfl, _, rfl⟩
  · cases o
    all_goals
      rw [ho] at HR
      go_enter Try.func73, Try.ntmps73
      go_wp2_with (first
        | ((with_reducible refine (HX.out _).mono ?_); rintro e w1 ⟨rfl, m, rfl⟩)
        | ((with_reducible refine (HY.out _).mono ?_); rintro e w1 ⟨rfl, m, rfl⟩))
      go_ret
      rw [HR.out]
      first
        | exact ⟨rfl, _, rfl⟩
        | exact ⟨rfl, _, by simp⟩
end Go.Proofs.Ytfkjnaaplhcheaa
