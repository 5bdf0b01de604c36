/-
  Contracts of the laws' helpers on slices of strings: size, copy, compare.
-/
import Derived.Test.YthfkibecbbkhlaaDoorProg
import Derived.Test.YthfkibecbbkhlaaDoorMem
import Derived.Test.YthfkibecbbkhlaaDoorOut
import Derived.Test.YthfkibecbbkhlaaDoorJr1
import Derived.WalkLawsBesides
import Derived.Deep.QuietTactic
import Derived.BigQuiet
namespace Go.Proofs.YthfkibecbbkhlaaDoor
open Go Go.RowKit

theorem info_str : (Tryd.prog.info? 9).map (fun i => (i.zero, i.size, i.bytes)) = some (some (.string ByteArray.empty), 1, 16) := by kernel_rfl
/-- a function that only computes, but may draw -/
def Quiet (v : Value) (w : World) (e : Ending) (w' : World) : Prop := e = .returned v ∧ ∃ n, w' = w.drewN n
theorem Quiet.mk0 {v : Value} {w : World} : Quiet v w (.returned v) w := ⟨rfl, 0, rfl⟩
theorem Quiet.mk {v : Value} {w : World} (n : Nat) : Quiet v w (.returned v) (w.drewN n) := ⟨rfl, n, rfl⟩
theorem Quiet.below {v : Value} {w : World} {e : Ending} {w' : World} (h : Quiet v w e w') : e = .returned v ∧ Below w.heap.size w w' := by
  obtain ⟨he, n, rfl⟩ := h
  exact ⟨he, below_drewN (Below.refl _ _) n⟩
theorem own_none {w : World} {base n c : Nat} {e : TypeId} {vs : List Value} (h : w.ownsRow base e 1 (.slice none n c) n vs) : n = 0 := by
  rcases h.2 with ⟨_, h0⟩ | ⟨g, cap, cur, hv, _⟩
  · exact h0
  · injection hv with h1
    cases h1
theorem own_some {w : World} {base n c : Nat} {a : Addr} {e : TypeId} {vs : List Value} (h : w.ownsRow base e 1 (.slice (some a) n c) n vs) : ∃ g, a = ⟨g, 0, none⟩ ∧ base ≤ g := by
  rcases h.2 with ⟨h1, _⟩ | ⟨g, cap, cur, hv, hb, _⟩
  · cases h1
  · injection hv with h1
    injection h1 with h1
    exact ⟨g, h1, hb⟩

theorem grown_refl (w : World) (row : Option Nat) : w.grownBy w row := ⟨rfl, rfl, rfl, Nat.le_refl _, fun _ _ _ => rfl⟩
theorem grown_set {w w' : World} {g : Nat} (h : w.grownBy w' (some g)) (i : Nat) (v : Value) : w.grownBy (w'.setCell ⟨g, i, none⟩ v) (some g) :=
  ⟨h.os, h.tape, h.output, by simp only [World.setCell, Array.size_modify]; exact h.size, fun k hk hne => (Below.heap_setCell _ _ _ _ (fun e => hne (by rw [e]))).trans (h.block k hk hne)⟩


theorem Rd.slAt2 {w : World} {B : Nat} {A : Option Addr} {xs : List ByteArray} (h : Rd w B A (sl xs)) {k : Nat} (hk : k < xs.length) : ∃ b off, A = some ⟨b, off, none⟩ ∧ b < B ∧ w.cell? ⟨b, off + k, none⟩ = some (.string xs[k]) := by
  obtain ⟨b, off, e, hb, hc⟩ := h.slAt hk
  refine ⟨b, off, e, hb, ?_⟩
  rw [hc, List.getD_eq_getElem?_getD, List.getElem?_eq_getElem hk]
  rfl
theorem sl_take_succ {xs : List ByteArray} {k : Nat} (h : k < xs.length) (rest : List Value) (hr : 0 < rest.length) :
    (sl (xs.take k) ++ rest).set k (.string xs[k]) = sl (xs.take (k + 1)) ++ rest.tail := by
  have hl : (sl (xs.take k)).length = k := by rw [sl_len, List.length_take]; omega
  rw [List.set_append_right _ _ (by omega), hl, Nat.sub_self]
  cases rest with
  | nil => simp at hr
  | cons r rs =>
    simp only [List.set_cons_zero, List.tail_cons]
    rw [List.take_succ_eq_append_getElem h]
    unfold sl
    rw [List.map_append, List.append_assoc]
    rfl

set_option maxHeartbeats 800000 in
theorem toStringS_any (A : Option Addr) (xs : List ByteArray) (c : Nat) (w : World) (hx : xs.length ≤ 1048576) (h : Rd w w.heap.size A (sl xs)) :
    Calls Tryd.prog 7 #[.slice A xs.length c] w (fun e w' => ∃ A', e = .returned (.slice A' xs.length xs.length) ∧
      w'.ownsRow w.heap.size 9 1 (.slice A' xs.length xs.length) xs.length (sl xs) ∧ Below w.heap.size w w') := by
  obtain ⟨i0, hi, hz0, hz1, hz2⟩ := info_parts info_str
  go_enter Tryd.func7, Tryd.ntmps7
  go_wp2_with (refine wpList_make_full _ rfl (.tmp 6) (.tmp 6) 22 rfl w.heap.size 9 i0 (.string ByteArray.empty) 1 Tryd.underlying22 hi hz0 hz1 .i64 .i64 xs.length xs.length xs.length rfl rfl rfl rfl (by rw [hz2]; omega) (by unfold maxLen; omega) (Nat.le_refl _) ?_; intro w1 hown1 hg1)
  have hb1 : Below w.heap.size w w1 := (Below.refl _ _).grown hg1 (Nat.le_refl _) (by simp)
  have hl1 : (sl (xs.take 0) ++ List.replicate xs.length (Value.string ByteArray.empty)) = (madeCells (Value.string ByteArray.empty).cells (xs.length * 1)).toList := by
    rw [Nat.mul_one]
    exact (toList_madeCells_one _ _).symm
  rw [← hl1] at hown1
  have HO := Lib.hid hown1
  have HB := Lib.hid hb1
  clear hown1 hb1 hg1 hl1
  go_loopw [4] (fun i wr => ∃ k : Nat, k ≤ xs.length ∧ i = .int .i64 k ∧ Below w.heap.size w wr ∧
      wr.ownsRow w.heap.size 9 1 (.slice (some ⟨w.heap.size, 0, none⟩) xs.length xs.length) xs.length (sl (xs.take k) ++ List.replicate (xs.length - k) (.string ByteArray.empty)))
    (fun i _ => xs.length - (intOf i).toNat)
  case atStart => exact ⟨0, Nat.zero_le _, rfl, HB.out, HO.out⟩
  case round =>
    obtain ⟨k, hk, rfl, hb, hown⟩ := hrel
    by_cases hlt : k < xs.length
    · obtain ⟨b, off, rfl, hbb, hc⟩ := (h.below hb).slAt2 hlt
      have hst := hown.stored k (.string xs[k])
      have hfz := hown.frozenAt k
      have hcl := hown.cellAt k (by omega)
      have hlen : k < (sl (xs.take k) ++ List.replicate (xs.length - k) (Value.string ByteArray.empty)).length := by rw [hown.1]; omega
      rw [List.getElem?_eq_getElem hlen] at hcl
      generalize (sl (xs.take k) ++ List.replicate (xs.length - k) (Value.string ByteArray.empty))[k] = u at hcl
      rw [sl_take_succ hlt _ (by simp; omega)] at hst
      have hrep : (List.replicate (xs.length - k) (Value.string ByteArray.empty)).tail = List.replicate (xs.length - (k + 1)) (Value.string ByteArray.empty) := by
        rw [List.tail_replicate]
        congr 1
      rw [hrep] at hst
      have HST := Lib.hid hst
      have HBB := Lib.hid hb
      clear hst hown hb h hrep hlen HO HB
      go_wp2
      go_roundw
      case rel => exact ⟨k + 1, by omega, by go_num, HBB.out.grown HST.out.2 HBB.out.size (by simp), HST.out.1⟩
      case measure => simp [intOf]; omega
    · have hke : k = xs.length := by omega
      subst hke
      rw [List.take_length, Nat.sub_self, List.replicate_zero, List.append_nil] at hown
      have HOW := Lib.hid hown
      clear hown
      go_wp2
      go_ret
      exact ⟨_, rfl, HOW.out, hb⟩

set_option maxHeartbeats 800000 in
theorem eqStringS_yes (A B : Option Addr) (xs : List ByteArray) (c d : Nat) (w : World) (hx : xs.length ≤ 9223372036854775807) (hA : Rd w w.heap.size A (sl xs)) (hB : Rd w w.heap.size B (sl xs)) :
    Calls Tryd.prog 9 #[.slice A xs.length c, .slice B xs.length d] w (Quiet (.bool true) w) := by
  go_enter Tryd.func9, Tryd.ntmps9
  go_wp2
  go_loopw [5] (fun i wr => ∃ k m : Nat, k ≤ xs.length ∧ i = .int .i64 k ∧ wr = w.drewN m) (fun i _ => xs.length - (intOf i).toNat)
  case atStart => exact ⟨0, 0, Nat.zero_le _, rfl, rfl⟩
  case round =>
    obtain ⟨k, m, hk, rfl, rfl⟩ := hrel
    by_cases hlt : k < xs.length
    · obtain ⟨b, off, rfl, hb, hc⟩ := hA.slAt2 hlt
      obtain ⟨b', off', rfl, hb', hc'⟩ := hB.slAt2 hlt
      clear hA hB
      generalize xs[k] = x at *
      go_wp2
      go_quiet (fail)
      go_wp2
      go_roundw
      case rel => exact ⟨k + 1, _, by omega, by go_num, rfl⟩
      case measure => simp [intOf]; omega
    · go_wp2
      go_ret
      exact ⟨rfl, m, rfl⟩


def SzOut (ps : List ByteArray) (w : World) (e : Ending) (w' : World) : Prop := ∃ r : Int, e = .returned (.int .i64 r) ∧ (0 ≤ r → ps.length ≤ 1048576 ∧ ∀ k, (ps.getD k ByteArray.empty).size ≤ 1048576) ∧ w = w'
set_option maxHeartbeats 800000 in
theorem szStringS_any (A : Option Addr) (ps : List ByteArray) (c : Nat) (w : World) (hn : ps.length ≤ 9223372036854775807) (hb : ∀ k, (ps.getD k ByteArray.empty).size ≤ 9223372036854775807) (h : Rd w w.heap.size A (sl ps)) :
    Calls Tryd.prog 5 #[.slice A ps.length c, .int .i64 1048576] w (SzOut ps w) := by
  have HB := Lib.hid hb
  have HOUT : Hid (∀ k, ps.length ≤ k → (ps.getD k ByteArray.empty).size ≤ 1048576) := Lib.hid fun k hk => by
    rw [List.getD_eq_getElem?_getD, List.getElem?_eq_none hk]
    decide
  unfold SzOut
  clear hb
  by_cases h0 : (1048576 : Int) - (ps.length : Int) < 0
  · go_enter Tryd.func5, Tryd.ntmps5
    go_wp2_with fail
    go_ret
    exact ⟨-1, rfl, fun h => absurd h (by decide), rfl⟩
  · go_enter Tryd.func5, Tryd.ntmps5
    go_wp2_with fail
    go_loop [1, 5] (fun rv iv => ∃ (k : Nat) (r : Int), k ≤ ps.length ∧ iv = .int .i64 k ∧ rv = .int .i64 r ∧ 0 ≤ r ∧ r ≤ 1048576 ∧ ∀ j, j < k → (ps.getD j ByteArray.empty).size ≤ 1048576) (fun _ iv => ps.length - (intOf iv).toNat)
    case atStart => exact ⟨0, _, Nat.zero_le _, rfl, rfl, by omega, by omega, fun j hj => by omega⟩
    case round =>
      obtain ⟨k, r, hk, rfl, rfl, r0, r1, hall⟩ := hrel
      have HA := Lib.hid hall
      clear hall
      by_cases hlt : k < ps.length
      · obtain ⟨b, off, rfl, hbb, hc⟩ := h.slAt hlt
        have hbk := HB.out k
        have HP : Hid (∀ j, j < k + 1 → j ≠ k → (ps.getD j ByteArray.empty).size ≤ 1048576) := Lib.hid fun j hj hne => HA.out j (by omega)
        clear h
        generalize hp : ps.getD k ByteArray.empty = p at *
        have HPE := Lib.hid hp
        clear hp
        by_cases hneg : r - (p.size : Int) < 0
        · go_wp2_with fail
          go_ret
          exact ⟨-1, rfl, fun h => absurd h (by decide), rfl⟩
        · go_wp2_with fail
          go_round
          case rel => exact ⟨k + 1, _, by omega, by go_num, rfl, by omega, by omega, fun j hj => (by rcases Nat.lt_or_ge j k with h1 | h1; exact HA.out j h1; obtain rfl : j = k := (by omega); rw [HPE.out]; omega)⟩
          case measure => simp [intOf]; omega
      · obtain rfl : k = ps.length := by omega
        go_wp2_with fail
        go_ret
        exact ⟨r, rfl, fun _ => ⟨by omega, fun j => (by rcases Nat.lt_or_ge j ps.length with h1 | h1; exact HA.out j h1; exact HOUT.out j h1)⟩, rfl⟩
end Go.Proofs.YthfkibecbbkhlaaDoor
