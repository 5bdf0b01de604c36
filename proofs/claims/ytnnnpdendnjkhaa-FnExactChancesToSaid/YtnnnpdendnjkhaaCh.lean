/-
  Contracts of the laws' helpers on chains.
-/
import Derived.Test.YtnnnpdendnjkhaaTo
import Derived.Deep.RegionHeld3
namespace Go.Proofs.Ytnnnpdendnjkhaa
open Go Go.RowKit Ieee

/-- what is left of a number of places, -1 if nothing is -/
def leftOf (left n : Int) : Int := if left - n < 0 then -1 else left - n

set_option maxHeartbeats 400000 in
theorem szFloat32S_any (A : Option Addr) (n c : Nat) (left : Int) (w : World) (hn : n ≤ 9223372036854775807) (hl0 : 0 ≤ left) (hl : left ≤ 1048576) :
    Calls Try.prog 30 #[.slice A n c, .int .i64 left] w (Quiet (.int .i64 (leftOf left n)) w) := by
  have hlo : leftOf left n = if left - n < 0 then -1 else left - n := rfl
  generalize leftOf left n = r at *
  by_cases h : left - n < 0
  · rw [if_pos h] at hlo
    have HL := Lib.hid hlo
    clear hlo
    go_enter Try.func30, Try.ntmps30
    go_wp2
    go_ret
    rw [HL.out]
    exact .mk0
  · rw [if_neg h] at hlo
    have HL := Lib.hid hlo
    clear hlo
    go_enter Try.func30, Try.ntmps30
    go_wp2
    go_ret
    rw [HL.out]
    exact .mk0

set_option maxHeartbeats 400000 in
theorem szChain_any (side : Int) (A : Option Addr) (n c : Nat) (left : Int) (w : World) (hn : n ≤ 9223372036854775807) (hl0 : 0 ≤ left) (hl : left ≤ 1048576) :
    Calls Try.prog 8 #[.agg #[.int .i64 side, .slice A n c], .int .i64 left] w (fun e w' => e = .returned (.int .i64 (leftOf left n)) ∧ Below w.heap.size w w') := by
  have hlo : leftOf left n = if left - n < 0 then -1 else left - n := rfl
  have HS := Lib.hid fun w => szFloat32S_any A n c left w hn hl0 hl
  by_cases h : left - n < 0
  · rw [if_pos h] at hlo
    have HL := Lib.hid hlo
    clear hlo
    go_enter Try.func8, Try.ntmps8
    go_wp2_with (go_at_call 30; refine (HS.out _).mono ?_; rw [HL.out]; rintro e w1 ⟨rfl, m, rfl⟩)
    go_ret
    rw [HL.out]
    exact ⟨rfl, below_drewN ((Below.refl _ _).alloc (Nat.le_refl _) _) _⟩
  · rw [if_neg h] at hlo
    have HL := Lib.hid hlo
    clear hlo
    go_enter Try.func8, Try.ntmps8
    go_wp2_with (go_at_call 30; refine (HS.out _).mono ?_; rw [HL.out]; rintro e w1 ⟨rfl, m, rfl⟩)
    go_ret
    rw [HL.out]
    exact ⟨rfl, below_drewN ((Below.refl _ _).alloc (Nat.le_refl _) _) _⟩

/-- a list of single numbers of a call's own: a new slice, whose cells it owns -/
def OwnF (w : World) (base : Nat) (v : Value) (xs : List Nat) : Prop := ∃ A c, v = .slice A xs.length c ∧ w.ownsRow base 42 1 v xs.length (fl xs)
theorem OwnF.rd {w : World} {base : Nat} {A : Option Addr} {n c : Nat} {xs : List Nat} (h : OwnF w base (.slice A n c) xs) : n = xs.length ∧ Rd w w.heap.size A (fl xs) := by
  obtain ⟨A', c', he, ho⟩ := h
  injection he with e1 e2 e3
  subst e1 e2 e3
  exact ⟨rfl, Rd.of_own ho⟩

set_option maxHeartbeats 400000 in
theorem toChain_any (side : Int) (A : Option Addr) (xs : List Nat) (c : Nat) (w : World) (hx : xs.length ≤ 1048576) (h : Rd w w.heap.size A (fl xs)) :
    Calls Try.prog 10 #[.agg #[.int .i64 side, .slice A xs.length c]] w (fun e w' => ∃ A', e = .returned (.agg #[.int .i64 side, .slice A' xs.length xs.length]) ∧ w'.ownsRow w.heap.size 42 1 (.slice A' xs.length xs.length) xs.length (fl xs) ∧ Below w.heap.size w w') := by
  have HT := Lib.hid fun w h => toFloat32S_any A xs c w hx h
  go_enter Try.func10, Try.ntmps10
  go_wp2_with (go_at_call 18; refine (HT.out _ (h.at_ (by repeat (first | exact Below.refl _ _ | refine Below.alloc ?_ (by simp; try omega) _)))).mono ?_; rintro e w1 ⟨A', rfl, hown, hb⟩; obtain ⟨hc, hf⟩ := bcell hb; have hz : w.heap.size + 2 < w1.heap.size := (by have := hb.size; simp at this; omega))
  refine bodyPost_ret (v := .agg #[.int .i64 side, .slice A' xs.length xs.length]) (by simp [results, Try.results10, go_sem, hc]) rfl ⟨A', rfl, ?_, ?_⟩
  · refine own_base (base := w.heap.size + 1 + 1 + 1) ?_ (by omega)
    have ho : w1.ownsRow (w.heap.size + 1 + 1 + 1) 42 1 (.slice A' xs.length xs.length) xs.length (fl xs) := by simpa using hown
    exact ownsRow_setCell_below (ownsRow_setCell_below (ownsRow_setCell_below ho (by simp) _) (by simp) _) (by simp) _
  · have hb0 : Below w.heap.size w w1 := Below.trans (by repeat (first | exact Below.refl _ _ | refine Below.alloc ?_ (by simp; try omega) _)) (hb.mono (by simp; omega))
    exact ((hb0.setCell (by simp; omega) _).setCell (by simp) _).setCell (by simp) _

set_option maxHeartbeats 800000 in
theorem eqChain_yes (side : Int) (A B : Option Addr) (xs ys : List Nat) (c d : Nat) (w : World) (hx : xs.length ≤ 9223372036854775807) (hs : sameL xs ys) (hA : Rd w w.heap.size A (fl xs)) (hB : Rd w w.heap.size B (fl ys)) :
    Calls Try.prog 13 #[.agg #[.int .i64 side, .slice A xs.length c], .agg #[.int .i64 side, .slice B ys.length d]] w (fun e w' => e = .returned (.bool true) ∧ Below w.heap.size w w') := by
  have HE := Lib.hid fun w hA hB => eqFloat32S_yes A B xs ys c d w hx hs hA hB
  clear hs
  go_enter Try.func13, Try.ntmps13
  go_wp2_with (go_at_call 20; refine (HE.out _ (hA.at_ (by repeat (first | exact Below.refl _ _ | refine Below.alloc ?_ (by simp; try omega) _))) (hB.at_ (by repeat (first | exact Below.refl _ _ | refine Below.alloc ?_ (by simp; try omega) _)))).mono ?_; rintro e w1 ⟨rfl, m, rfl⟩)
  go_ret
  exact ⟨rfl, below_drewN (by repeat (first | exact Below.refl _ _ | refine Below.alloc ?_ (by simp; try omega) _)) _⟩

/-- the marks that a slice gets: k, k + 1 and so on as single numbers -/
def marks (k : Int) : Nat → List Nat
  | 0 => []
  | n + 1 => marks k n ++ [floatOfInt .f32 (k + n)]
theorem marks_len (k : Int) (n : Nat) : (marks k n).length = n := by
  induction n with
  | zero => rfl
  | succ n ih => simp [marks, ih]
theorem marks_get (k : Int) (n j : Nat) (h : j < n) (hj : j < (marks k n).length) : (marks k n)[j] = floatOfInt .f32 (k + j) := by
  induction n with
  | zero => omega
  | succ n ih =>
    simp only [marks]
    rcases Nat.lt_or_ge j n with h1 | h1
    · rw [List.getElem_append_left (by rw [marks_len]; exact h1)]
      exact ih h1 _
    · have : j = n := by omega
      subst this
      rw [List.getElem_append_right (by rw [marks_len]; omega)]
      simp [marks_len]

theorem marks_set (k : Int) (j : Nat) (ys : List Value) (h : j < ys.length) : (fl (marks k j) ++ ys.drop j).set j (.float .f32 (floatOfInt .f32 (k + j))) = fl (marks k (j + 1)) ++ ys.drop (j + 1) := by
  have hl : (fl (marks k j)).length = j := by rw [fl_len, marks_len]
  rw [List.set_append_right _ _ (by omega), hl, Nat.sub_self, List.drop_eq_getElem_cons h]
  simp only [List.set_cons_zero, marks]
  unfold fl
  rw [List.map_append, List.append_assoc]
  rfl
theorem own_none {w : World} {base n c : Nat} {e : TypeId} {vs : List Value} (h : w.ownsRow base e 1 (.slice none n c) n vs) : n = 0 := by
  rcases h.2 with ⟨_, h0⟩ | ⟨g, cap, cur, hv, _⟩
  · exact h0
  · injection hv with h1
    cases h1
theorem own_some {w : World} {base n c : Nat} {a : Addr} {e : TypeId} {vs : List Value} (h : w.ownsRow base e 1 (.slice (some a) n c) n vs) : ∃ g, a = ⟨g, 0, none⟩ ∧ base ≤ g := by
  rcases h.2 with ⟨h1, _⟩ | ⟨g, cap, cur, hv, hb, _⟩
  · cases h1
  · injection hv with h1
    injection h1 with h1
    exact ⟨g, h1, hb⟩

theorem grown_refl (w : World) (row : Option Nat) : w.grownBy w row := ⟨rfl, rfl, rfl, Nat.le_refl _, fun _ _ _ => rfl⟩
theorem grown_set {w w' : World} {g : Nat} (h : w.grownBy w' (some g)) (i : Nat) (v : Value) : w.grownBy (w'.setCell ⟨g, i, none⟩ v) (some g) :=
  ⟨h.os, h.tape, h.output, by simp only [World.setCell, Array.size_modify]; exact h.size, fun k hk hne => (Below.heap_setCell _ _ _ _ (fun e => hne (by rw [e]))).trans (h.block k hk hne)⟩

attribute [local go_sem] run_store_float
set_option maxHeartbeats 800000 in
theorem markFloat32S_any (A : Option Addr) (base n : Nat) (vs : List Value) (c : Nat) (k : Int) (w : World) (hx : n ≤ 1048576) (hk0 : 0 ≤ k) (hk : k ≤ 4194304) (ho : w.ownsRow base 42 1 (.slice A n c) n vs) :
    Calls Try.prog 21 #[.slice A n c, .int .i64 k] w (fun e w' => e = .returned (.int .i64 (k + n)) ∧ w'.ownsRow base 42 1 (.slice A n c) n (fl (marks k n)) ∧ w.grownBy w' (Value.slice A n c).ownBlock) := by
  have HO := Lib.hid ho
  clear ho
  go_enter Try.func21, Try.ntmps21
  go_wp2
  go_loopw [1, 5] (fun kk i wr => ∃ j : Nat, j ≤ n ∧ i = .int .i64 j ∧ kk = .int .i64 (k + j) ∧ w.grownBy wr (Value.slice A n c).ownBlock ∧ wr.ownsRow base 42 1 (.slice A n c) n (fl (marks k j) ++ vs.drop j)) (fun _ i _ => n - (intOf i).toNat)
  case atStart => exact ⟨0, Nat.zero_le _, rfl, by go_num, grown_refl _ _, by simpa [marks, fl] using HO.out⟩
  case round =>
    obtain ⟨j, hj, rfl, rfl, hb, hown⟩ := hrel
    have HB := Lib.hid hb
    clear hb
    by_cases hlt : j < n
    · cases A with
      | none => have := own_none hown; omega
      | some a =>
        obtain ⟨g, rfl, hg⟩ := own_some hown
        have hvl : vs.length = n := by have := HO.out.1; omega
        have hst := hown.stored j (.float .f32 (floatOfInt .f32 (k + j)))
        have hfz := hown.frozenAt j
        have hcl := hown.cellAt j (by omega)
        have hlen : j < (fl (marks k j) ++ vs.drop j).length := by rw [hown.1]; omega
        rw [List.getElem?_eq_getElem hlen] at hcl
        generalize (fl (marks k j) ++ vs.drop j)[j] = u at hcl
        rw [marks_set k j vs (by omega)] at hst
        have HST := Lib.hid hst
        have HV := Lib.hid hvl
        clear hst hown hlen hvl
        go_wp2
        go_roundw
        case rel => exact ⟨j + 1, by omega, by go_num, by go_num, grown_set HB.out _ _, HST.out.1⟩
        case measure => simp [intOf]; omega
    · have hke : j = n := by omega
      subst hke
      rw [List.drop_eq_nil_of_le (by have := HO.out.1; omega), List.append_nil] at hown
      have HOW := Lib.hid hown
      clear hown
      go_wp2
      go_ret
      exact ⟨rfl, HOW.out, HB.out⟩

theorem ofInt_notNan (m : Int) : isNan single (floatOfInt .f32 m) = false := notNan_write single (by decide) (.number (m < 0) m.natAbs 0) rfl

set_option maxHeartbeats 800000 in
theorem heldFloat32S_any (A : Option Addr) (n c : Nat) (k : Int) (w : World) (hx : n ≤ 1048576) (hk0 : 0 ≤ k) (hk : k ≤ 4194304) (hr : Rd w w.heap.size A (fl (marks k n))) :
    Calls Try.prog 25 #[.slice A n c, .int .i64 k] w (Quiet (.int .i64 (k + n)) w) := by
  go_enter Try.func25, Try.ntmps25
  go_wp2
  go_loop [1, 5] (fun kk i => ∃ j : Nat, j ≤ n ∧ i = .int .i64 j ∧ kk = .int .i64 (k + j)) (fun _ i => n - (intOf i).toNat)
  case atStart => exact ⟨0, Nat.zero_le _, rfl, by go_num⟩
  case round =>
    obtain ⟨j, hj, rfl, rfl⟩ := hrel
    by_cases hlt : j < n
    · obtain ⟨b, off, rfl, hb, hc⟩ := hr.flAt (k := j) (by rw [marks_len]; exact hlt)
      rw [marks_get k n j hlt] at hc
      have ho : FloatKind.f32.format.order (floatOfInt .f32 (k + j)) (floatOfInt .f32 (k + j)) = some .eq := order_refl (ofInt_notNan _)
      clear hr
      go_wp2
      go_round
      case rel => exact ⟨j + 1, by omega, by go_num, by go_num⟩
      case measure => simp [intOf]; omega
    · have hke : j = n := by omega
      subst hke
      go_wp2
      go_ret
      exact .mk0

set_option maxHeartbeats 400000 in
theorem markChain_any (side : Int) (A : Option Addr) (base n : Nat) (vs : List Value) (c : Nat) (k : Int) (w : World) (hx : n ≤ 1048576) (hk0 : 0 ≤ k) (hk : k ≤ 4194304) (_hbase : base ≤ w.heap.size) (ho : w.ownsRow base 42 1 (.slice A n c) n vs) :
    Calls Try.prog 14 #[.agg #[.int .i64 side, .slice A n c], .int .i64 k] w (fun e w' => e = .returned (.int .i64 (k + n)) ∧ w'.ownsRow base 42 1 (.slice A n c) n (fl (marks k n)) ∧ w.grownBy w' (Value.slice A n c).ownBlock) := by
  have HM := Lib.hid fun w ho => markFloat32S_any A base n vs c k w hx hk0 hk ho
  go_enter Try.func14, Try.ntmps14
  go_wp2_with (go_at_call 21; refine (HM.out _ (ho.alloc _)).mono ?_; rintro e w1 ⟨rfl, hown, hb⟩)
  go_ret
  exact ⟨rfl, hown, World.grownBy.trans (World.grownBy_alloc _ _ _) hb⟩

set_option maxHeartbeats 400000 in
theorem heldChain_any (side : Int) (A : Option Addr) (n c : Nat) (k : Int) (w : World) (hx : n ≤ 1048576) (hk0 : 0 ≤ k) (hk : k ≤ 4194304) (hr : Rd w w.heap.size A (fl (marks k n))) :
    Calls Try.prog 22 #[.agg #[.int .i64 side, .slice A n c], .int .i64 k] w (fun e w' => e = .returned (.int .i64 (k + n)) ∧ Below w.heap.size w w') := by
  have HM := Lib.hid fun w ho => heldFloat32S_any A n c k w hx hk0 hk ho
  go_enter Try.func22, Try.ntmps22
  go_wp2_with (go_at_call 25; refine (HM.out _ (hr.at_ ((Below.refl _ _).alloc (Nat.le_refl _) _))).mono ?_; rintro e w1 ⟨rfl, m, rfl⟩)
  go_ret
  exact ⟨rfl, below_drewN ((Below.refl _ _).alloc (Nat.le_refl _) _) _⟩
end Go.Proofs.Ytnnnpdendnjkhaa

