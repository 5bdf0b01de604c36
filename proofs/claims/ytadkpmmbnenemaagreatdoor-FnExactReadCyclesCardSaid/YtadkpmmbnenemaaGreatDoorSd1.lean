/-
  Equal lists of integers: slices.Equal.
-/
import Derived.Test.YtadkpmmbnenemaaGreatDoorCk
import Derived.Test.YtadkpmmbnenemaaGreatDoorTi
import Derived.Test.YtadkpmmbnenemaaGreatDoorOut
namespace Go.Proofs.YtadkpmmbnenemaaGreatDoor
open Go Go.RowKit

def sameI (xs ys : List Int) : Bool := decide (xs = ys)
theorem sameI_len {xs ys : List Int} (h : xs.length ≠ ys.length) : sameI xs ys = false := decide_eq_false fun e => h (by rw [e])
theorem sameI_no {xs ys : List Int} {k : Nat} (h1 : k < xs.length) (h2 : k < ys.length) (h : xs[k] ≠ ys[k]) : sameI xs ys = false := decide_eq_false fun e => h (by subst e; rfl)
theorem sameI_yes {xs ys : List Int} (h : xs.take xs.length = ys.take xs.length) (hl : xs.length = ys.length) : sameI xs ys = true := by
  rw [List.take_length, List.take_of_length_le (by omega)] at h
  exact decide_eq_true h
theorem take_two {xs ys : List Int} {k : Nat} (h1 : k < xs.length) (h2 : k < ys.length) (h : xs.take k = ys.take k) (he : xs[k] = ys[k]) : xs.take (k + 1) = ys.take (k + 1) := by
  rw [List.take_succ_eq_append_getElem h1, List.take_succ_eq_append_getElem h2, h, he]
set_option maxRecDepth 100000 in
set_option maxHeartbeats 1600000 in
theorem Equal_any (A B : Option Addr) (xs ys : List Int) (c d : Nat) (w : World) (hx : xs.length ≤ 9223372036854775807) (hy : ys.length ≤ 9223372036854775807) (hA : Rd w w.heap.size A (il xs)) (hB : Rd w w.heap.size B (il ys)) :
    Calls Tryz.prog 43 #[.slice A xs.length c, .slice B ys.length d] w (Quiet (.bool (sameI xs ys)) w) := by
  have HNL : Hid (xs.length ≠ ys.length → sameI xs ys = false) := Lib.hid sameI_len
  have HNO : Hid (∀ k (h1 : k < xs.length) (h2 : k < ys.length), xs[k] ≠ ys[k] → sameI xs ys = false) := Lib.hid fun k h1 h2 h => sameI_no h1 h2 h
  have HY : Hid (xs.take xs.length = ys.take xs.length → xs.length = ys.length → sameI xs ys = true) := Lib.hid sameI_yes
  have HT : Hid (∀ k (h1 : k < xs.length) (h2 : k < ys.length), xs.take k = ys.take k → xs[k] = ys[k] → xs.take (k + 1) = ys.take (k + 1)) := Lib.hid fun k h1 h2 h he => take_two h1 h2 h he
  have HA := Lib.hid hA
  have HB := Lib.hid hB
  clear hA hB
  generalize sameI xs ys = R at *
  by_cases hl : xs.length = ys.length
  · have HL := Lib.hid hl
    rw [← hl]
    clear hl hy
    go_enter Tryz.func43, Tryz.ntmps43
    go_wp2
    go_loopw [13] (fun i wr => ∃ k m : Nat, k ≤ xs.length ∧ i = .int .i64 k ∧ xs.take k = ys.take k ∧ wr = w.drewN m) (fun i _ => xs.length - (intOf i).toNat)
    case atStart => exact ⟨0, 0, Nat.zero_le _, rfl, by simp, rfl⟩
    case round =>
      obtain ⟨k, m, hk, rfl, hall, rfl⟩ := hrel
      have HALL := Lib.hid hall
      clear hall
      by_cases hlt : k < xs.length
      · have hlt' : k < ys.length := by have := HL.out; omega
        obtain ⟨b, off, rfl, hb, hc⟩ := HA.out.ilAt hlt
        obtain ⟨b', off', rfl, hb', hc'⟩ := HB.out.ilAt hlt'
        have HNOk := Lib.hid (HNO.out k hlt hlt')
        have HTk := Lib.hid (HT.out k hlt hlt' HALL.out)
        clear HNO HT HALL
        generalize xs[k] = x at *
        generalize ys[k] = y at *
        by_cases he : x = y
        · have HE := Lib.hid he
          have hne : (x != y) = false := by rw [he]; simp
          clear he
          go_wp2
          go_quiet (fail)
          go_wp2
          go_roundw
          case rel => exact ⟨k + 1, _, by omega, by go_num, HTk.out HE.out, rfl⟩
          case measure => simp [intOf]; omega
        · have HF := Lib.hid (HNOk.out he)
          have hne : (x != y) = true := bne_iff_ne.2 he
          clear he
          go_wp2
          go_quiet (fail)
          go_wp2
          go_ret
          rw [HF.out]
          exact ⟨rfl, m + nq, by first | rfl | rw [World.drewN_drewN]⟩
      · obtain rfl : k = xs.length := by omega
        have HR := Lib.hid (HY.out HALL.out HL.out)
        go_wp2
        go_ret
        rw [HR.out]
        exact ⟨rfl, m, rfl⟩
  · have hne : (((xs.length : Nat) : Int) != ((ys.length : Nat) : Int)) = true := by rw [bne_iff_ne]; omega
    have HR := Lib.hid (HNL.out hl)
    clear hl
    go_enter Tryz.func43, Tryz.ntmps43
    go_wp2
    go_ret
    rw [HR.out]
    exact .mk0
end Go.Proofs.YtadkpmmbnenemaaGreatDoor
