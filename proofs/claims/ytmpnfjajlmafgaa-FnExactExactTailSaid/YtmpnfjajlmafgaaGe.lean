/-
  spec.l06Walk (printed by walkgen.py).
-/
import Derived.Test.YtmpnfjajlmafgaaGd
namespace Go.Proofs.Ytmpnfjajlmafgaa
open Go Go.RowKit

def addP (a b : Int × Int) : Int × Int := (IntKind.i64.wrap (a.1 + b.1), IntKind.i64.wrap (a.2 + b.2))
def walkOut (y : Int × Int) (w : World) : Ending → World → Prop := fun e w' => e = .returned (.tuple #[.int .i64 y.1, .int .i64 y.2]) ∧ Below w.heap.size w w'
/-- the sums over tables by columns, two rows -/
def wlk2 (own : Int) : List Nat → Nat → Nat → Int → Int × Int
  | [], r0, r1, wt => if r0 = 0 ∧ r1 = 0 then (if wt ≤ own then wt else 0, wt) else (0, 0)
  | c :: cs, r0, r1, wt => foldN (fun x acc => foldN (fun y acc => if c - x - y = 0 then addP acc (wlk2 own cs (r0 - x) (r1 - y) (IntKind.i64.wrap (wt * wyTo [x, y] 2))) else acc) (min r1 (c - x) + 1) acc) (min r0 c + 1) (0, 0)
/-- three rows -/
def wlk3 (own : Int) : List Nat → Nat → Nat → Nat → Int → Int × Int
  | [], r0, r1, r2, wt => if r0 = 0 ∧ r1 = 0 ∧ r2 = 0 then (if wt ≤ own then wt else 0, wt) else (0, 0)
  | c :: cs, r0, r1, r2, wt => foldN (fun x acc => foldN (fun y acc => if c - x - y ≤ r2 then addP acc (wlk3 own cs (r0 - x) (r1 - y) (r2 - (c - x - y)) (IntKind.i64.wrap (wt * wyTo [x, y, c - x - y] 3))) else acc) (min r1 (c - x) + 1) acc) (min r0 c + 1) (0, 0)
theorem walk2_no {own wt : Int} {r0 r1 : Nat} (h : ¬ (r0 = 0 ∧ r1 = 0)) : wlk2 own [] r0 r1 wt = (0, 0) := by
  unfold wlk2
  rw [if_neg h]
theorem walk2_yes {own wt : Int} : wlk2 own [] 0 0 wt = (if wt ≤ own then wt else 0, wt) := by
  unfold wlk2
  rw [if_pos (by simp)]
set_option maxRecDepth 100000 in
set_option maxHeartbeats 1600000 in
theorem walk2_base (own wt : Int) (C gr cr gc cc : Nat) (r0 r1 : Nat) (w : World) (q0 : w.cell? ⟨gr, 0, none⟩ = some (.int .i64 (r0 : Nat))) (q1 : w.cell? ⟨gr, 1, none⟩ = some (.int .i64 (r1 : Nat))) :
    Calls Try.prog 40 #[.slice (some ⟨gr, 0, none⟩) 2 cr, .slice (some ⟨gc, 0, none⟩) C cc, .int .i64 C, .int .i64 wt, .int .i64 own] w (walkOut (wlk2 own [] r0 r1 wt) w) := by
  have HN : Hid (¬ (r0 = 0 ∧ r1 = 0) → wlk2 own [] r0 r1 wt = (0, 0)) := Lib.hid walk2_no
  have HY : Hid (r0 = 0 ∧ r1 = 0 → wlk2 own [] r0 r1 wt = (if wt ≤ own then wt else 0, wt)) := Lib.hid fun h => by
    obtain ⟨rfl, rfl⟩ := h
    exact walk2_yes
  unfold walkOut
  generalize wlk2 own [] r0 r1 wt = y at *
  go_enter Try.func40, Try.ntmps40
  go_wp2
  go_loop [12] (fun iv => ∃ i : Nat, i ≤ 2 ∧ iv = .int .i64 i ∧ (1 ≤ i → r0 = 0) ∧ (2 ≤ i → r1 = 0)) (fun iv => 2 - (intOf iv).toNat)
  case atStart => exact ⟨0, Nat.zero_le _, rfl, fun h => by omega, fun h => by omega⟩
  case round =>
    obtain ⟨i, hi, rfl, h0, h1⟩ := hrel
    rcases (show i = 0 ∨ i = 1 ∨ i = 2 by omega) with rfl | rfl | rfl
    · by_cases hz : r0 = 0
      · have hzI : ((r0 : Nat) : Int) = 0 := by omega
        go_wp2
        go_round
        case rel => exact ⟨1, by omega, by first | rfl | go_num, fun _ => hz, fun h => by omega⟩
        case measure => simp [intOf]
      · have hzI : ¬ ((r0 : Nat) : Int) = 0 := by omega
        have HE := Lib.hid (HN.out (by omega))
        go_wp2
        go_ret2
        rw [HE.out]
        exact ⟨rfl, Below.refl _ _⟩
    · by_cases hz : r1 = 0
      · have hzI : ((r1 : Nat) : Int) = 0 := by omega
        go_wp2
        go_round
        case rel => exact ⟨2, by omega, by first | rfl | go_num, fun _ => by first | exact h0 (by omega) | omega, fun _ => hz⟩
        case measure => simp [intOf]
      · have hzI : ¬ ((r1 : Nat) : Int) = 0 := by omega
        have HE := Lib.hid (HN.out (by omega))
        go_wp2
        go_ret2
        rw [HE.out]
        exact ⟨rfl, Below.refl _ _⟩
    · have HE := Lib.hid (HY.out ⟨h0 (by omega), h1 (by omega)⟩)
      by_cases ho : wt ≤ own
      all_goals
        go_wp2
        go_ret2
        rw [HE.out]
        exact ⟨by first | (simp [ho]; done) | (simp; omega) | (simp; intro h; omega), Below.refl _ _⟩
theorem walk3_no {own wt : Int} {r0 r1 r2 : Nat} (h : ¬ (r0 = 0 ∧ r1 = 0 ∧ r2 = 0)) : wlk3 own [] r0 r1 r2 wt = (0, 0) := by
  unfold wlk3
  rw [if_neg h]
theorem walk3_yes {own wt : Int} : wlk3 own [] 0 0 0 wt = (if wt ≤ own then wt else 0, wt) := by
  unfold wlk3
  rw [if_pos (by simp)]
set_option maxRecDepth 100000 in
set_option maxHeartbeats 1600000 in
theorem walk3_base (own wt : Int) (C gr cr gc cc : Nat) (r0 r1 r2 : Nat) (w : World) (q0 : w.cell? ⟨gr, 0, none⟩ = some (.int .i64 (r0 : Nat))) (q1 : w.cell? ⟨gr, 1, none⟩ = some (.int .i64 (r1 : Nat))) (q2 : w.cell? ⟨gr, 2, none⟩ = some (.int .i64 (r2 : Nat))) :
    Calls Try.prog 40 #[.slice (some ⟨gr, 0, none⟩) 3 cr, .slice (some ⟨gc, 0, none⟩) C cc, .int .i64 C, .int .i64 wt, .int .i64 own] w (walkOut (wlk3 own [] r0 r1 r2 wt) w) := by
  have HN : Hid (¬ (r0 = 0 ∧ r1 = 0 ∧ r2 = 0) → wlk3 own [] r0 r1 r2 wt = (0, 0)) := Lib.hid walk3_no
  have HY : Hid (r0 = 0 ∧ r1 = 0 ∧ r2 = 0 → wlk3 own [] r0 r1 r2 wt = (if wt ≤ own then wt else 0, wt)) := Lib.hid fun h => by
    obtain ⟨rfl, rfl, rfl⟩ := h
    exact walk3_yes
  unfold walkOut
  generalize wlk3 own [] r0 r1 r2 wt = y at *
  go_enter Try.func40, Try.ntmps40
  go_wp2
  go_loop [12] (fun iv => ∃ i : Nat, i ≤ 3 ∧ iv = .int .i64 i ∧ (1 ≤ i → r0 = 0) ∧ (2 ≤ i → r1 = 0) ∧ (3 ≤ i → r2 = 0)) (fun iv => 3 - (intOf iv).toNat)
  case atStart => exact ⟨0, Nat.zero_le _, rfl, fun h => by omega, fun h => by omega, fun h => by omega⟩
  case round =>
    obtain ⟨i, hi, rfl, h0, h1, h2⟩ := hrel
    rcases (show i = 0 ∨ i = 1 ∨ i = 2 ∨ i = 3 by omega) with rfl | rfl | rfl | rfl
    · by_cases hz : r0 = 0
      · have hzI : ((r0 : Nat) : Int) = 0 := by omega
        go_wp2
        go_round
        case rel => exact ⟨1, by omega, by first | rfl | go_num, fun _ => hz, fun h => by omega, fun h => by omega⟩
        case measure => simp [intOf]
      · have hzI : ¬ ((r0 : Nat) : Int) = 0 := by omega
        have HE := Lib.hid (HN.out (by omega))
        go_wp2
        go_ret2
        rw [HE.out]
        exact ⟨rfl, Below.refl _ _⟩
    · by_cases hz : r1 = 0
      · have hzI : ((r1 : Nat) : Int) = 0 := by omega
        go_wp2
        go_round
        case rel => exact ⟨2, by omega, by first | rfl | go_num, fun _ => by first | exact h0 (by omega) | omega, fun _ => hz, fun h => by omega⟩
        case measure => simp [intOf]
      · have hzI : ¬ ((r1 : Nat) : Int) = 0 := by omega
        have HE := Lib.hid (HN.out (by omega))
        go_wp2
        go_ret2
        rw [HE.out]
        exact ⟨rfl, Below.refl _ _⟩
    · by_cases hz : r2 = 0
      · have hzI : ((r2 : Nat) : Int) = 0 := by omega
        go_wp2
        go_round
        case rel => exact ⟨3, by omega, by first | rfl | go_num, fun _ => by first | exact h0 (by omega) | omega, fun _ => by first | exact h1 (by omega) | omega, fun _ => hz⟩
        case measure => simp [intOf]
      · have hzI : ¬ ((r2 : Nat) : Int) = 0 := by omega
        have HE := Lib.hid (HN.out (by omega))
        go_wp2
        go_ret2
        rw [HE.out]
        exact ⟨rfl, Below.refl _ _⟩
    · have HE := Lib.hid (HY.out ⟨h0 (by omega), h1 (by omega), h2 (by omega)⟩)
      by_cases ho : wt ≤ own
      all_goals
        go_wp2
        go_ret2
        rw [HE.out]
        exact ⟨by first | (simp [ho]; done) | (simp; omega) | (simp; intro h; omega), Below.refl _ _⟩
end Go.Proofs.Ytmpnfjajlmafgaa
