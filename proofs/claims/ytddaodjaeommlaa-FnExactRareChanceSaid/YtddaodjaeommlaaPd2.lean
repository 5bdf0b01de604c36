/-
  slices.Reverse on single numbers.
-/
import Derived.Test.YtddaodjaeommlaaPd1
import Derived.RegionTactic
import Derived.BigRegion
namespace Go.Proofs.Ytddaodjaeommlaa
open Go Go.RowKit Ieee
attribute [local go_sem] run_store_float

/-- a list of which the outer numbers have been turned -/
def revTo (ys : List Nat) (s : Nat) : List Nat := (List.range ys.length).map fun q => if q < s ∨ ys.length - s ≤ q then ys.getD (ys.length - 1 - q) 0 else ys.getD q 0
theorem revTo_len (ys : List Nat) (s : Nat) : (revTo ys s).length = ys.length := by simp [revTo]
theorem revTo_get {ys : List Nat} {s q : Nat} (hq : q < (revTo ys s).length) : (revTo ys s)[q] = if q < s ∨ ys.length - s ≤ q then ys.getD (ys.length - 1 - q) 0 else ys.getD q 0 := by simp [revTo]
theorem getD_get {ys : List Nat} {q : Nat} (h : q < ys.length) : ys.getD q 0 = ys[q] := by rw [List.getD_eq_getElem?_getD, List.getElem?_eq_getElem h]; rfl
theorem revTo_zero (ys : List Nat) : revTo ys 0 = ys := by
  refine List.ext_getElem (revTo_len _ _) fun q h1 h2 => ?_
  rw [revTo_get h1, if_neg (by omega), getD_get h2]
theorem revTo_all {ys : List Nat} {s : Nat} (h : ys.length ≤ 2 * s + 1) : revTo ys s = ys.reverse := by
  refine List.ext_getElem (by rw [revTo_len, List.length_reverse]) fun q h1 h2 => ?_
  have hq : q < ys.length := by rw [← revTo_len ys s]; exact h1
  rw [revTo_get h1, List.getElem_reverse]
  by_cases hc : q < s ∨ ys.length - s ≤ q
  · rw [if_pos hc, getD_get (by omega)]
  · rw [if_neg hc, getD_get hq]
    congr 1
    omega
theorem revTo_step {ys : List Nat} {s : Nat} (h : s < ys.length - 1 - s) : ((revTo ys s).set s (ys.getD (ys.length - 1 - s) 0)).set (ys.length - 1 - s) (ys.getD s 0) = revTo ys (s + 1) := by
  refine List.ext_getElem (by simp [revTo_len]) fun q h1 h2 => ?_
  have hq : q < ys.length := by rw [← revTo_len ys (s + 1)]; exact h2
  rw [revTo_get h2, List.getElem_set, List.getElem_set]
  by_cases c1 : ys.length - 1 - s = q
  · rw [if_pos c1, if_pos (by omega)]
    congr 1
    omega
  · rw [if_neg c1]
    by_cases c2 : s = q
    · rw [if_pos c2, if_pos (by omega), c2]
    · rw [if_neg c2, revTo_get (by rw [revTo_len]; exact hq)]
      by_cases c3 : q < s ∨ ys.length - s ≤ q
      · rw [if_pos c3, if_pos (by omega)]
      · rw [if_neg c3, if_neg (by omega)]
theorem revTo_mid {ys : List Nat} {s : Nat} (h : s < ys.length - 1 - s) : (revTo ys s).getD s 0 = ys.getD s 0 ∧ (revTo ys s).getD (ys.length - 1 - s) 0 = ys.getD (ys.length - 1 - s) 0 := by
  constructor
  · rw [getD_get (by rw [revTo_len]; omega), revTo_get, if_neg (by omega)]
  · rw [getD_get (by rw [revTo_len]; omega), revTo_get, if_neg (by omega)]
theorem fl_set (ys : List Nat) (q x : Nat) : (fl ys).set q (.float .f32 x) = fl (ys.set q x) := by
  unfold fl
  rw [List.map_set]
theorem fl_at {ys : List Nat} {q : Nat} (h : q < ys.length) : (fl ys)[q]? = some (.float .f32 (ys.getD q 0)) := by
  rw [List.getElem?_eq_getElem (by rw [fl_len]; exact h), getD_get h]
  simp [fl]

set_option maxRecDepth 100000 in
set_option maxHeartbeats 3200000 in
theorem reverse_any (g base : Nat) (ys : List Nat) (c : Nat) (w : World) (hy : ys.length ≤ 1048576) (h1 : 1 ≤ ys.length) (ho : w.ownsRow base 33 1 (.slice (some ⟨g, 0, none⟩) ys.length c) ys.length (fl ys)) :
    Calls Try.prog 132 #[.slice (some ⟨g, 0, none⟩) ys.length c] w (fun e w' => e = .returned (.tuple #[]) ∧ w'.ownsRow base 33 1 (.slice (some ⟨g, 0, none⟩) ys.length c) ys.length (fl ys.reverse) ∧ w.grownBy w' (some g)) := by
  have hcm := own_cap ho
  have HO : Hid (w.ownsRow base 33 1 (.slice (some ⟨g, 0, none⟩) ys.length c) ys.length (fl (revTo ys 0))) := Lib.hid (by rw [revTo_zero]; exact ho)
  have HST : Hid (∀ s, s < ys.length - 1 - s → ((revTo ys s).set s (ys.getD (ys.length - 1 - s) 0)).set (ys.length - 1 - s) (ys.getD s 0) = revTo ys (s + 1)) := Lib.hid fun s hs => revTo_step hs
  have HMI : Hid (∀ s, s < ys.length - 1 - s → (fl (revTo ys s))[s]? = some (.float .f32 (ys.getD s 0)) ∧ (fl (revTo ys s))[ys.length - 1 - s]? = some (.float .f32 (ys.getD (ys.length - 1 - s) 0))) := Lib.hid fun s hs => by
    obtain ⟨m1, m2⟩ := revTo_mid hs
    rw [fl_at (by rw [revTo_len]; omega), fl_at (by rw [revTo_len]; omega), m1, m2]
    exact ⟨rfl, rfl⟩
  have HAL : Hid (∀ s, ys.length ≤ 2 * s + 1 → revTo ys s = ys.reverse) := Lib.hid fun s hs => revTo_all hs
  clear ho
  generalize hm : ys.length = m at *
  clear hm
  go_enter Try.func132, Try.ntmps132
  go_wp2_with fail
  go_loopw [2, 3] (fun i j wr => ∃ s : Nat, 2 * s ≤ m ∧ i = .int .i64 s ∧ j = .int .i64 ((m : Int) - 1 - s) ∧ wr.ownsRow base 33 1 (.slice (some ⟨g, 0, none⟩) m c) m (fl (revTo ys s)) ∧ w.grownBy wr (some g)) (fun i _ _ => m - (intOf i).toNat)
  case atStart => exact ⟨0, by omega, rfl, by simp, HO.out, grown_refl _ _⟩
  case round =>
    obtain ⟨s, hs, rfl, rfl, hown, hgr⟩ := hrel
    rename_i wr
    by_cases hlt : s < m - 1 - s
    · obtain ⟨k1, k2⟩ := HMI.out s hlt
      have hjj : ((m : Int) - 1 - s) = ((m - 1 - s : Nat) : Int) := by omega
      have hst := HST.out s hlt
      rw [hjj]
      generalize hj : m - 1 - s = j at *
      generalize ys.getD j 0 = yj at *
      generalize ys.getD s 0 = yi at *
      have e1 := hown.cellAt s (by omega)
      have e2 := hown.cellAt j (by omega)
      rw [k1] at e1
      rw [k2] at e2
      have e3 := hown.frozenAt s
      have e4 := hown.frozenAt j
      have hs1 := hown.stored s (.float .f32 yj)
      have hs2 := hs1.1.stored j (.float .f32 yi)
      rw [fl_set, fl_set, hst] at hs2
      have HS2 := Lib.hid hs2.1
      have HG2 := Lib.hid ((hgr.trans hs1.2).trans hs2.2)
      have hjl : s < j := hlt
      have HJ : Hid (j = m - 1 - s) := Lib.hid hj.symm
      clear hs1 hs2 hst k1 k2 hown hgr hjj hlt hj
      have hjm : j < m := by have := HJ.out; omega
      go_wp2_with fail
      go_region
      all_goals
        go_wp2_with fail
        go_roundw
        case rel => exact ⟨s + 1, by have := HJ.out; omega, by go_num, by have := HJ.out; first | (congr 1; omega) | (congr 1; push_cast; omega), HS2.out, grown_dr HG2.out⟩
        case measure => simp [intOf]; omega
    · go_wp2_with fail
      rw [HAL.out s (by omega)] at hown
      go_end0
      exact ⟨rfl, hown, hgr⟩
end Go.Proofs.Ytddaodjaeommlaa
