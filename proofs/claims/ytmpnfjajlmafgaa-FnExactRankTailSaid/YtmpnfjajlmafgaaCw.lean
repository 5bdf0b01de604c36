/-
  countWhere, with RankTail's own test.
-/
import Derived.Test.YtmpnfjajlmafgaaWt
namespace Go.Proofs.Ytmpnfjajlmafgaa
open Go Go.RowKit Go.Maps Go.WideShapes

theorem RankTail1_any (x own : Int) (bx : Nat) (w : World) (h : w.cell? ⟨bx, 0, none⟩ = some (.int .i64 own)) : Calls Try.prog 53 #[.int .i64 x, .pointer (some ⟨bx, 0, none⟩)] w (fun e w' => e = .returned (.bool (decide (x ≤ own))) ∧ w' = w) := by
  by_cases hx : x ≤ own
  · go_enter Try.func53, Try.ntmps53
    go_wp2
    go_ret
    exact ⟨retB (by simp [hx]), rfl⟩
  · go_enter Try.func53, Try.ntmps53
    go_wp2
    go_ret
    exact ⟨retB (by simp [hx]), rfl⟩

set_option maxRecDepth 100000 in
set_option maxHeartbeats 1600000 in
theorem countWhere_any (f : Nat → Int) (S own b n bx : Nat) (D : DU) (w : World) (hm : OM w b n D) (hi : MapIs D f S) (hs : S ≤ 1048576) (ho : own ≤ 1048576) (hx : w.cell? ⟨bx, 0, none⟩ = some (.int .i64 own)) :
    Calls Try.prog 49 #[.map (some b), .func (.func 53) #[] #[.pointer (some ⟨bx, 0, none⟩)]] w (fun e w' => e = .returned (.int .i64 (IntKind.i64.wrap (sumF f (own + 1)))) ∧ Below w.heap.size w w') := by
  have HM := Lib.hid hm
  have HI := Lib.hid hi
  have HX := Lib.hid hx
  have HLX := Lib.hid (lt_of_cell hx)
  have HC := Lib.hid fun x W h => RankTail1_any x (own : Int) bx W h
  obtain ⟨cf, e1⟩ : ∃ cf : (Lit → Bool) → Int, ∀ left, sumF (cntF f own D left) (S + own + 1) = cf left := ⟨fun left => sumF (cntF f own D left) (S + own + 1), fun _ => rfl⟩
  have H0 : Hid (IntKind.i64.wrap (cf (has D)) = 0) := Lib.hid (by rw [← e1, cnt_start]; rfl)
  have HE : Hid (∀ left, (∀ k, left k = false) → cf left = sumF f (own + 1)) := Lib.hid fun left hl => by rw [← e1]; exact cnt_end hl hi (by omega)
  have HS : Hid (∀ (left : Lit → Bool) (s : Nat), s ≤ S → has D (kI s) = true → left (kI s) = true → IntKind.i64.wrap (cf fun z => left z && !z.sameKey (kI s)) = IntKind.i64.wrap (IntKind.i64.wrap (cf left) + (if s ≤ own then f s else 0))) := Lib.hid fun left s h1 h2 h3 => by rw [← e1, ← e1, cnt_step (by omega) h2 h3, wrap_add]
  clear hm hi hx
  generalize sumF f (own + 1) = tot at *
  clear e1
  go_enter Try.func49, Try.ntmps49
  go_wp2_with (at_range; refine wpList_range_own _ rfl _ 63 rfl 2 2 keyed Try.underlying63 _ b n _ rfl HM.out ?_; intro w0 hrg0 hg0 hs0)
  have START := Lib.hid (show w0.ranges Try.prog 2 (plainElem (H := Unit) Try.prog 2) b w.heap.size n D (has D) (Maps.size D) ∧ w.grownBy w0 none ∧ Value.int .i64 0 = .int .i64 (IntKind.i64.wrap (cf (has D))) from ⟨hrg0, hg0, by rw [H0.out]⟩)
  clear hrg0 hg0 hs0 HM
  go_loopw [5] (fun v wr => ∃ (left : Lit → Bool) (cnt : Nat), wr.ranges Try.prog 2 (plainElem (H := Unit) Try.prog 2) b w.heap.size n D left cnt ∧ w.grownBy wr none ∧ v = .int .i64 (IntKind.i64.wrap (cf left))) (fun _ wr => wr.rangeLeft b w.heap.size)
  case atStart => exact ⟨_, _, START.out.1, START.out.2.1, START.out.2.2⟩
  case round =>
    clear START
    obtain ⟨left, cnt, hrg, hgw, rfl⟩ := hrel
    rename World => wz
    have HRG := Lib.hid hrg
    have HGW := Lib.hid hgw
    clear hrg hgw
    go_wp2_with (at_next; refine wpList_next_ranges_ii _ rfl _ rfl 2 2 .i64 .i64 keyed Try.underlying2 Try.underlying2 b w.heap.size n _ _ _ rfl HRG.out ?_ ?_)
    · intro _ hl0
      have H9 := Lib.hid (HE.out _ hl0)
      have B9 := Lib.hid ((Below.refl w.heap.size w).grown HGW.out (Nat.le_refl _) (by simp))
      clear hl0
      go_wp2_with fail
      go_ret
      rw [H9.out]
      exact ⟨rfl, B9.out⟩
    · intro x c1 w1 cnt1 hwx hwc hlx hat hrg1 hlt1 hg1 hs1 hen
      have hh := has_true_of_atKey hat
      obtain ⟨hx0, hx1⟩ := HI.out.2.1 x hh
      obtain ⟨s, rfl⟩ := Int.eq_ofNat_of_zero_le hx0
      have hc1 : c1 = f s := by
        have h1 := HI.out.2.2 s
        rw [show D.atKey (kI s) (.lit (.int .i64 0)) = .lit (.int .i64 c1) from hat _] at h1
        injection h1 with h1
        injection h1
      have HSS := Lib.hid (HS.out left s (by omega) hh hlx)
      have HRG1 := Lib.hid hrg1
      have HLT1 := Lib.hid hlt1
      have HGW1 := Lib.hid (HGW.out.andThen hg1 (fun j hj => by cases hj; exact Or.inl (Nat.le_refl _)))
      have HX1 : Hid (w1.cell? ⟨bx, 0, none⟩ = some (.int .i64 own)) := Lib.hid (by rw [HGW1.out.cell_far _ HLX.out (by simp)]; exact HX.out)
      clear hx0 hx1 hat hh hlx hrg1 hlt1 hg1 HI
      by_cases hso : s ≤ own
      · have hd : decide ((s : Int) ≤ (own : Int)) = true := decide_eq_true (by omega)
        have HCS := Lib.hid (HC.out (s : Int) w1 HX1.out)
        rw [hd] at HCS
        rw [if_pos hso, ← hc1] at HSS
        clear hd hc1
        go_wp2_with ((with_reducible refine HCS.out.mono ?_); rintro e w' ⟨rfl, rfl⟩)
        go_roundw
        case rel => exact ⟨_, _, HRG1.out, HGW1.out, by simp only [w64]; rw [show (Lit.int IntKind.i64 (s : Int)) = kI s from rfl, HSS.out]⟩
        case measure => rw [HRG1.out.left_eq, HRG.out.left_eq]; exact HLT1.out
      · have hd : decide ((s : Int) ≤ (own : Int)) = false := decide_eq_false (by omega)
        have HCS := Lib.hid (HC.out (s : Int) w1 HX1.out)
        rw [hd] at HCS
        rw [if_neg hso, Int.add_zero, wrap_of_ok (wrap_ok _)] at HSS
        clear hd hc1
        go_wp2_with ((with_reducible refine HCS.out.mono ?_); rintro e w' ⟨rfl, rfl⟩)
        go_roundw
        case rel => exact ⟨_, _, HRG1.out, HGW1.out, by rw [show (Lit.int IntKind.i64 (s : Int)) = kI s from rfl, HSS.out]⟩
        case measure => rw [HRG1.out.left_eq, HRG.out.left_eq]; exact HLT1.out
end Go.Proofs.Ytmpnfjajlmafgaa
