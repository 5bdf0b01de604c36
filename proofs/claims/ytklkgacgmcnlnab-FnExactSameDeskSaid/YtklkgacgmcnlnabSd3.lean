/-
  Equal desks: spec.SameDesk, impl.SameDesk.
-/
import Derived.Test.YtklkgacgmcnlnabSd2
import Derived.Test.YtklkgacgmcnlnabSame
import Derived.Test.YtklkgacgmcnlnabDk1
namespace Go.Proofs.Ytklkgacgmcnlnab
open Go Go.RowKit

def sameD (k a b r l : Int) (xs ys : List Int) (zs : List Nat) (k2 a2 b2 r2 l2 : Int) (xs2 ys2 : List Int) (zs2 : List Nat) : Bool := sdB k a b k2 a2 b2 && sameT r l xs r2 l2 xs2 && sameI ys ys2 && sameAllB zs zs2
set_option maxRecDepth 100000 in
set_option maxHeartbeats 6400000 in
theorem specSameDesk_any (k a b r l : Int) (A B C : Option Addr) (xs ys : List Int) (zs : List Nat) (c1 c2 c3 : Nat) (k2 a2 b2 r2 l2 : Int) (A2 B2 C2 : Option Addr) (xs2 ys2 : List Int) (zs2 : List Nat) (d1 d2 d3 : Nat)
    (w : World) (hx : xs.length ≤ 9223372036854775807) (hy : ys.length ≤ 9223372036854775807) (hz : zs.length ≤ 9223372036854775807) (hx2 : xs2.length ≤ 9223372036854775807) (hy2 : ys2.length ≤ 9223372036854775807) (hz2 : zs2.length ≤ 9223372036854775807) (bz : ∀ x ∈ zs, x < 4294967296) (bz2 : ∀ x ∈ zs2, x < 4294967296)
    (hA : Rd w w.heap.size A (il xs)) (hB : Rd w w.heap.size B (il ys)) (hC : Rd w w.heap.size C (fl zs)) (hA2 : Rd w w.heap.size A2 (il xs2)) (hB2 : Rd w w.heap.size B2 (il ys2)) (hC2 : Rd w w.heap.size C2 (fl zs2)) :
    Calls Try.prog 5 #[dkA A B C xs.length ys.length zs.length c1 c2 c3 k a b r l, dkA A2 B2 C2 xs2.length ys2.length zs2.length d1 d2 d3 k2 a2 b2 r2 l2] w (fun e w' => e = .returned (.bool (sameD k a b r l xs ys zs k2 a2 b2 r2 l2 xs2 ys2 zs2)) ∧ Below w.heap.size w w') := by
  have hse := seed_eql k a b k2 a2 b2
  have HT := Lib.hid fun p q w hp hq hA hB => l06Same_any p q r l r2 l2 A A2 xs xs2 c1 d1 w hx hx2 hp hq hA hB
  have HO := Lib.hid fun w hA hB => l08SameOrder_any B B2 ys ys2 c2 d2 w hy hy2 hA hB
  have HF := Lib.hid fun w hA hB => l01SameAll_any C C2 zs zs2 c3 d3 w hz hz2 bz bz2 hA hB
  unfold Quiet at HT HO HF
  have HR : Hid (sameD k a b r l xs ys zs k2 a2 b2 r2 l2 xs2 ys2 zs2 = (sdB k a b k2 a2 b2 && sameT r l xs r2 l2 xs2 && sameI ys ys2 && sameAllB zs zs2)) := Lib.hid rfl
  have HA := Lib.hid hA
  have HB := Lib.hid hB
  have HC := Lib.hid hC
  have HA2 := Lib.hid hA2
  have HB2 := Lib.hid hB2
  have HC2 := Lib.hid hC2
  unfold dkA
  rw [HR.out]
  clear HR hA hB hC hA2 hB2 hC2 bz bz2
  generalize sdB k a b k2 a2 b2 = s1 at *
  generalize sameT r l xs r2 l2 xs2 = s2 at *
  generalize sameI ys ys2 = s3 at *
  generalize sameAllB zs zs2 = s4 at *
  cases s1 with
  | false =>
    go_enter Try.func5, Try.ntmps5
    go_wp2_with fail
    go_ret
    exact ⟨rfl, below_al (below_al (Below.refl _ _) _) _⟩
  | true =>
    cases s2 <;> cases s3 <;> cases s4
    all_goals
    go_enter Try.func5, Try.ntmps5
    go_wp2_with fail
    generalize hW1 : World.alloc (World.alloc w _) _ = W1
    have p3 : W1.cell? ⟨w.heap.size, 3, none⟩ = some (.int .i64 r) := by rw [← hW1]; simp [go_sem]
    have p4 : W1.cell? ⟨w.heap.size, 4, none⟩ = some (.int .i64 l) := by rw [← hW1]; simp [go_sem]
    have p5 : W1.cell? ⟨w.heap.size, 5, none⟩ = some (.slice A xs.length c1) := by rw [← hW1]; simp [go_sem]
    have p6 : W1.cell? ⟨w.heap.size, 6, none⟩ = some (.slice B ys.length c2) := by rw [← hW1]; simp [go_sem]
    have p7 : W1.cell? ⟨w.heap.size, 7, none⟩ = some (.slice C zs.length c3) := by rw [← hW1]; simp [go_sem]
    have q3 : W1.cell? ⟨w.heap.size + 1, 3, none⟩ = some (.int .i64 r2) := by rw [← hW1]; simp [go_sem]
    have q4 : W1.cell? ⟨w.heap.size + 1, 4, none⟩ = some (.int .i64 l2) := by rw [← hW1]; simp [go_sem]
    have q5 : W1.cell? ⟨w.heap.size + 1, 5, none⟩ = some (.slice A2 xs2.length d1) := by rw [← hW1]; simp [go_sem]
    have q6 : W1.cell? ⟨w.heap.size + 1, 6, none⟩ = some (.slice B2 ys2.length d2) := by rw [← hW1]; simp [go_sem]
    have q7 : W1.cell? ⟨w.heap.size + 1, 7, none⟩ = some (.slice C2 zs2.length d3) := by rw [← hW1]; simp [go_sem]
    have b1 : Below w.heap.size w W1 := by rw [← hW1]; exact below_al (below_al (Below.refl _ _) _) _
    have B1 := Lib.hid b1
    clear hW1 b1
    refine (HT.out _ _ _ ⟨p3, p4, p5⟩ ⟨q3, q4, q5⟩ (HA.out.at_ B1.out) (HA2.out.at_ B1.out)).mono ?_
    rintro e w2 ⟨rfl, m1, rfl⟩
    go_wp2_with (first
      | (go_at_call 13; refine (HO.out _ ((HB.out.at_ B1.out).drewN m1) ((HB2.out.at_ B1.out).drewN m1)).mono ?_; rintro e w3 ⟨rfl, m2, rfl⟩)
      | (go_at_call 14; refine (HF.out _ (HC.out.at_ (by repeat (first | exact B1.out | refine below_drewN ?_ _))) (HC2.out.at_ (by repeat (first | exact B1.out | refine below_drewN ?_ _)))).mono ?_; rintro e w4 ⟨rfl, m3, rfl⟩))
    go_ret
    exact ⟨rfl, by repeat (first | exact B1.out | refine below_drewN ?_ _)⟩
set_option maxRecDepth 100000 in
set_option maxHeartbeats 6400000 in
theorem SameDesk_any (k a b r l : Int) (A B C : Option Addr) (xs ys : List Int) (zs : List Nat) (c1 c2 c3 : Nat) (k2 a2 b2 r2 l2 : Int) (A2 B2 C2 : Option Addr) (xs2 ys2 : List Int) (zs2 : List Nat) (d1 d2 d3 : Nat)
    (w : World) (hx : xs.length ≤ 9223372036854775807) (hy : ys.length ≤ 9223372036854775807) (hz : zs.length ≤ 9223372036854775807) (hx2 : xs2.length ≤ 9223372036854775807) (hy2 : ys2.length ≤ 9223372036854775807) (hz2 : zs2.length ≤ 9223372036854775807) (bz : ∀ x ∈ zs, x < 4294967296) (bz2 : ∀ x ∈ zs2, x < 4294967296)
    (hA : Rd w w.heap.size A (il xs)) (hB : Rd w w.heap.size B (il ys)) (hC : Rd w w.heap.size C (fl zs)) (hA2 : Rd w w.heap.size A2 (il xs2)) (hB2 : Rd w w.heap.size B2 (il ys2)) (hC2 : Rd w w.heap.size C2 (fl zs2)) :
    Calls Try.prog 7 #[dkA A B C xs.length ys.length zs.length c1 c2 c3 k a b r l, dkA A2 B2 C2 xs2.length ys2.length zs2.length d1 d2 d3 k2 a2 b2 r2 l2] w (fun e w' => e = .returned (.bool (sameD k a b r l xs ys zs k2 a2 b2 r2 l2 xs2 ys2 zs2)) ∧ Below w.heap.size w w') := by
  have HS := Lib.hid fun w => SameSeed_any k a b k2 a2 b2 w
  have HT := Lib.hid fun w hA hB => SameTable_any r l r2 l2 A A2 xs xs2 c1 d1 w hx hx2 hA hB
  have HO := Lib.hid fun w hA hB => Equal_any B B2 ys ys2 c2 d2 w hy hy2 hA hB
  have HF := Lib.hid fun w hA hB => sameNumbers_any C C2 zs zs2 c3 d3 w hz hz2 bz bz2 hA hB
  unfold Quiet at HO HF
  have HR : Hid (sameD k a b r l xs ys zs k2 a2 b2 r2 l2 xs2 ys2 zs2 = (sdB k a b k2 a2 b2 && sameT r l xs r2 l2 xs2 && sameI ys ys2 && sameAllB zs zs2)) := Lib.hid rfl
  have HA := Lib.hid hA
  have HB := Lib.hid hB
  have HC := Lib.hid hC
  have HA2 := Lib.hid hA2
  have HB2 := Lib.hid hB2
  have HC2 := Lib.hid hC2
  unfold dkA
  rw [HR.out]
  clear HR hA hB hC hA2 hB2 hC2 bz bz2
  generalize sdB k a b k2 a2 b2 = s1 at *
  generalize sameT r l xs r2 l2 xs2 = s2 at *
  generalize sameI ys ys2 = s3 at *
  generalize sameAllB zs zs2 = s4 at *
  cases s1 with
  | false =>
    go_enter Try.func7, Try.ntmps7
    go_wp2_with (go_at_call 19; refine (HS.out _).mono ?_; rintro e w2 ⟨rfl, hb2⟩; have B2 := Lib.hid (below_next (below_al (below_al (Below.refl _ _) _) _) hb2); clear hb2)
    go_ret
    exact ⟨rfl, B2.out⟩
  | true =>
    cases s2 <;> cases s3 <;> cases s4
    all_goals
    go_enter Try.func7, Try.ntmps7
    go_wp2_with fail
    generalize hW1 : World.alloc (World.alloc w _) _ = W1
    have p3 : W1.cell? ⟨w.heap.size, 3, none⟩ = some (.int .i64 r) := by rw [← hW1]; simp [go_sem]
    have p4 : W1.cell? ⟨w.heap.size, 4, none⟩ = some (.int .i64 l) := by rw [← hW1]; simp [go_sem]
    have p5 : W1.cell? ⟨w.heap.size, 5, none⟩ = some (.slice A xs.length c1) := by rw [← hW1]; simp [go_sem]
    have p6 : W1.cell? ⟨w.heap.size, 6, none⟩ = some (.slice B ys.length c2) := by rw [← hW1]; simp [go_sem]
    have p7 : W1.cell? ⟨w.heap.size, 7, none⟩ = some (.slice C zs.length c3) := by rw [← hW1]; simp [go_sem]
    have q3 : W1.cell? ⟨w.heap.size + 1, 3, none⟩ = some (.int .i64 r2) := by rw [← hW1]; simp [go_sem]
    have q4 : W1.cell? ⟨w.heap.size + 1, 4, none⟩ = some (.int .i64 l2) := by rw [← hW1]; simp [go_sem]
    have q5 : W1.cell? ⟨w.heap.size + 1, 5, none⟩ = some (.slice A2 xs2.length d1) := by rw [← hW1]; simp [go_sem]
    have q6 : W1.cell? ⟨w.heap.size + 1, 6, none⟩ = some (.slice B2 ys2.length d2) := by rw [← hW1]; simp [go_sem]
    have q7 : W1.cell? ⟨w.heap.size + 1, 7, none⟩ = some (.slice C2 zs2.length d3) := by rw [← hW1]; simp [go_sem]
    have b1 : Below w.heap.size w W1 := by rw [← hW1]; exact below_al (below_al (Below.refl _ _) _) _
    have B1 := Lib.hid b1
    clear hW1 b1
    refine (HS.out _).mono ?_
    rintro e w2 ⟨rfl, hb2⟩
    have xp3 := keepC hb2 p3
    have xp4 := keepC hb2 p4
    have xp5 := keepC hb2 p5
    have xp6 := keepC hb2 p6
    have xp7 := keepC hb2 p7
    have xq3 := keepC hb2 q3
    have xq4 := keepC hb2 q4
    have xq5 := keepC hb2 q5
    have xq6 := keepC hb2 q6
    have xq7 := keepC hb2 q7
    have B2 := Lib.hid (below_next B1.out hb2)
    clear hb2 p3 p4 p5 p6 p7 q3 q4 q5 q6 q7
    go_wp2_with fail
    refine (HT.out _ (HA.out.at_ B2.out) (HA2.out.at_ B2.out)).mono ?_
    rintro e w3 ⟨rfl, hb3⟩
    have yp6 := keepC hb3 xp6
    have yp7 := keepC hb3 xp7
    have yq6 := keepC hb3 xq6
    have yq7 := keepC hb3 xq7
    have B3 := Lib.hid (below_next B2.out hb3)
    clear hb3 xp3 xp4 xp5 xp6 xp7 xq3 xq4 xq5 xq6 xq7
    go_wp2_with (first
      | (go_at_call 21; refine (HO.out _ (HB.out.at_ B3.out) (HB2.out.at_ B3.out)).mono ?_; rintro e w4 ⟨rfl, m2, rfl⟩)
      | (go_at_call 22; refine (HF.out _ ((HC.out.at_ B3.out).drewN m2) ((HC2.out.at_ B3.out).drewN m2)).mono ?_; rintro e w5 ⟨rfl, m3, rfl⟩))
    go_ret
    exact ⟨rfl, by repeat (first | exact B3.out | refine below_drewN ?_ _)⟩
end Go.Proofs.Ytklkgacgmcnlnab
