/-
  Equal tables: spec.l06Same, impl.SameTable.
-/
import Derived.Test.YtklkgacgmcnlnabSd1
namespace Go.Proofs.Ytklkgacgmcnlnab
open Go Go.RowKit

set_option maxRecDepth 100000 in
set_option maxHeartbeats 3200000 in
theorem l06Same_any (p q : Nat) (r l r2 l2 : Int) (A B : Option Addr) (xs ys : List Int) (c d : Nat) (w : World) (hx : xs.length ≤ 9223372036854775807) (hy : ys.length ≤ 9223372036854775807) (hp : w.cell? ⟨p, 3, none⟩ = some (.int .i64 r) ∧ w.cell? ⟨p, 4, none⟩ = some (.int .i64 l) ∧ w.cell? ⟨p, 5, none⟩ = some (.slice A xs.length c)) (hq : w.cell? ⟨q, 3, none⟩ = some (.int .i64 r2) ∧ w.cell? ⟨q, 4, none⟩ = some (.int .i64 l2) ∧ w.cell? ⟨q, 5, none⟩ = some (.slice B ys.length d)) (hA : Rd w w.heap.size A (il xs)) (hB : Rd w w.heap.size B (il ys)) :
    Calls Try.prog 12 #[.pointer (some ⟨p, 3, none⟩), .pointer (some ⟨q, 3, none⟩)] w (Quiet (.bool (sameT r l xs r2 l2 ys)) w) := by
  have HNL : Hid (xs.length ≠ ys.length → sameI xs ys = false) := Lib.hid sameI_len
  have HNO : Hid (∀ k (h1 : k < xs.length) (h2 : k < ys.length), xs[k] ≠ ys[k] → sameI xs ys = false) := Lib.hid fun k h1 h2 h => sameI_no h1 h2 h
  have HY : Hid (xs.take xs.length = ys.take xs.length → xs.length = ys.length → sameI xs ys = true) := Lib.hid sameI_yes
  have HT : Hid (∀ k (h1 : k < xs.length) (h2 : k < ys.length), xs.take k = ys.take k → xs[k] = ys[k] → xs.take (k + 1) = ys.take (k + 1)) := Lib.hid fun k h1 h2 h he => take_two h1 h2 h he
  have HA := Lib.hid hA
  have HB := Lib.hid hB
  clear hA hB
  obtain ⟨p0, p1, p2⟩ := hp
  obtain ⟨q0, q1, q2⟩ := hq
  have HR0 : Hid (sameT r l xs r2 l2 ys = (decide (r = r2) && decide (l = l2) && sameI xs ys)) := Lib.hid rfl
  rw [HR0.out]
  clear HR0
  generalize sameI xs ys = R at *
  by_cases hr : r = r2
  · by_cases hl0 : l = l2
    · by_cases hl : xs.length = ys.length
      · have HL := Lib.hid hl
        rw [decide_eq_true hr, decide_eq_true hl0, Bool.true_and, Bool.true_and]
        rw [← hl] at q2
        have n1 : (r != r2) = false := by rw [hr]; simp
        have n2 : (l != l2) = false := by rw [hl0]; simp
        have n3 : (((xs.length : Nat) : Int) != ((xs.length : Nat) : Int)) = false := by simp
        clear hl hy hr hl0
        go_enter Try.func12, Try.ntmps12
        go_wp2
        go_quiet (fail)
        go_wp2
        go_loopw [5] (fun i wr => ∃ k m : Nat, k ≤ xs.length ∧ i = .int .i64 k ∧ xs.take k = ys.take k ∧ wr = w.drewN m) (fun i _ => xs.length - (intOf i).toNat)
        case atStart => exact ⟨0, nq, Nat.zero_le _, rfl, by simp, rfl⟩
        case round =>
          obtain ⟨k, m, hk, rfl, hall, rfl⟩ := hrel
          have HALL := Lib.hid hall
          clear hall
          by_cases hlt : k < xs.length
          · have hlt' : k < ys.length := by have := HL.out; omega
            obtain ⟨b, off, rfl, hb, hc⟩ := HA.out.ilAt hlt
            obtain ⟨b', off', rfl, hb', hc'⟩ := HB.out.ilAt hlt'
            have HNOk := Lib.hid (HNO.out k hlt hlt')
            have HTk := Lib.hid (HT.out k hlt hlt' HALL.out)
            clear HNO HT HALL
            generalize xs[k] = x at *
            generalize ys[k] = y at *
            by_cases he : x = y
            · have HE := Lib.hid he
              have hne : (x != y) = false := by rw [he]; simp
              clear he
              go_wp2
              go_quiet (fail)
              go_wp2
              go_roundw
              case rel => exact ⟨k + 1, _, by omega, by go_num, HTk.out HE.out, rfl⟩
              case measure => simp [intOf]; omega
            · have HF := Lib.hid (HNOk.out he)
              have hne : (x != y) = true := bne_iff_ne.2 he
              clear he
              go_wp2
              go_quiet (fail)
              go_wp2
              go_ret
              rw [HF.out]
              exact ⟨rfl, m + nq, by first | rfl | rw [World.drewN_drewN]⟩
          · obtain rfl : k = xs.length := by omega
            have HR := Lib.hid (HY.out HALL.out HL.out)
            go_wp2
            go_ret
            rw [HR.out]
            exact ⟨rfl, m, rfl⟩
      · have HF := Lib.hid (HNL.out hl)
        rw [decide_eq_true hr, decide_eq_true hl0, Bool.true_and, Bool.true_and]
        have n1 : (r != r2) = false := by rw [hr]; simp
        have n2 : (l != l2) = false := by rw [hl0]; simp
        have n3 : (((xs.length : Nat) : Int) != ((ys.length : Nat) : Int)) = true := by rw [bne_iff_ne]; omega
        clear hl hr hl0
        go_enter Try.func12, Try.ntmps12
        go_wp2
        go_quiet (fail)
        go_wp2
        go_ret
        rw [HF.out]
        exact ⟨rfl, nq, rfl⟩
    · have n1 : (r != r2) = false := by rw [hr]; simp
      have n2 : (l != l2) = true := bne_iff_ne.2 hl0
      rw [decide_eq_false hl0]
      clear hr hl0
      go_enter Try.func12, Try.ntmps12
      go_wp2
      go_quiet (fail)
      go_wp2
      go_ret
      exact ⟨by simp, nq, rfl⟩
  · have n1 : (r != r2) = true := bne_iff_ne.2 hr
    rw [decide_eq_false hr]
    clear hr
    go_enter Try.func12, Try.ntmps12
    go_wp2
    go_quiet (fail)
    go_wp2
    go_ret
    exact ⟨by simp, nq, rfl⟩
set_option maxRecDepth 100000 in
set_option maxHeartbeats 1600000 in
theorem SameTable_any (r l r2 l2 : Int) (A B : Option Addr) (xs ys : List Int) (c d : Nat) (w : World) (hx : xs.length ≤ 9223372036854775807) (hy : ys.length ≤ 9223372036854775807) (hA : Rd w w.heap.size A (il xs)) (hB : Rd w w.heap.size B (il ys)) :
    Calls Try.prog 20 #[.agg #[.int .i64 r, .int .i64 l, .slice A xs.length c], .agg #[.int .i64 r2, .int .i64 l2, .slice B ys.length d]] w (fun e w' => e = .returned (.bool (sameT r l xs r2 l2 ys)) ∧ Below w.heap.size w w') := by
  have HE := Lib.hid fun w hA hB => Equal_any A B xs ys c d w hx hy hA hB
  have HA := Lib.hid hA
  have HB := Lib.hid hB
  unfold Quiet at HE
  clear hA hB
  have HR0 : Hid (sameT r l xs r2 l2 ys = (decide (r = r2) && decide (l = l2) && sameI xs ys)) := Lib.hid rfl
  rw [HR0.out]
  clear HR0
  generalize sameI xs ys = R at *
  by_cases hr : r = r2
  · by_cases hl0 : l = l2
    · rw [decide_eq_true hr, decide_eq_true hl0, Bool.true_and, Bool.true_and]
      have n1 : (r == r2) = true := by rw [hr]; simp
      have n2 : (l == l2) = true := by rw [hl0]; simp
      clear hr hl0
      go_enter Try.func20, Try.ntmps20
      go_wp2_with (go_at_call 21; refine (HE.out _ (HA.out.at_ (below_al (below_al (Below.refl _ _) _) _)) (HB.out.at_ (below_al (below_al (Below.refl _ _) _) _))).mono ?_; rintro e w1 ⟨rfl, m, rfl⟩)
      go_ret
      exact ⟨rfl, below_drewN (below_al (below_al (Below.refl _ _) _) _) _⟩
    · have n1 : (r == r2) = true := by rw [hr]; simp
      have n2 : (l == l2) = false := beq_eq_false_iff_ne.2 hl0
      rw [decide_eq_false hl0]
      clear hr hl0
      go_enter Try.func20, Try.ntmps20
      go_wp2_with fail
      go_ret
      exact ⟨by simp, below_al (below_al (Below.refl _ _) _) _⟩
  · have n1 : (r == r2) = false := beq_eq_false_iff_ne.2 hr
    rw [decide_eq_false hr]
    clear hr
    go_enter Try.func20, Try.ntmps20
    go_wp2_with fail
    go_ret
    exact ⟨by simp, below_al (below_al (Below.refl _ _) _) _⟩
end Go.Proofs.Ytklkgacgmcnlnab
