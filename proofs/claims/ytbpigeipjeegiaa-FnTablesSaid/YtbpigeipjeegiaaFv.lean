/-
  impl.tailOf at each of its two tests; impl.weightTail.
-/
import Derived.Test.YtbpigeipjeegiaaFu
import Derived.Laws.EntriesVeiled
namespace Go.Proofs.Ytbpigeipjeegiaa
open Go Go.RowKit

/-- the two sums of a tail: of the tables that are in, and of all -/
def tails (R C : Nat) (inB : List Nat → Bool) (xs : List Nat) : Int × Int := goRows (tlN C inB) [] (tabs (rowsS xs R C) (colsS xs C)) (0, 0)
def tlOut (p a : Int) (ok : Bool) (w : World) : Ending → World → Prop := fun e w' => e = .returned (.tuple #[.int .i64 p, .int .i64 a, .bool ok]) ∧ Below w.heap.size w w'
set_option maxRecDepth 100000 in
set_option maxHeartbeats 3200000 in
theorem tailOfL_any (E : World → Prop) (inB : List Nat → Bool) (bI gt ot R C ct : Nat) (xs : List Nat) (W : World) (hR : 1 ≤ R ∧ R ≤ 4) (hC : 1 ≤ C ∧ C ≤ 4) (hx : xs.length = R * C) (hs : xs.sum ≤ 60) (hct : R * C ≤ ct) (hlt : gt < W.heap.size) (hc : ∀ i, i < R * C → W.cell? ⟨gt, ot + i, none⟩ = some (.int .i64 (xs[i]! : Nat)))
    (hEW : E W) (hE : ∀ W1 W2, E W1 → W1.heap.size ≤ W2.heap.size → (∀ b, b < W1.heap.size → b < W.heap.size → W2.heap[b]? = W1.heap[b]?) → E W2)
    (HIN : ∀ (cnt : List Nat) (g c : Nat) (W : World), E W → W.ownsRow 0 2 1 (.slice (some ⟨g, 0, none⟩) (R * C) c) (R * C) (nlv cnt) → cnt.length = R * C → cnt.sum ≤ 60 → Calls Try.prog 21 #[.agg #[.int .i64 R, .int .i64 C, .slice (some ⟨g, 0, none⟩) (R * C) c], .pointer (some ⟨bI, 0, none⟩)] W (fun e w' => e = .returned (.bool (inB cnt)) ∧ Below W.heap.size W w')) :
    Calls Try.prog 20 #[.agg #[.int .i64 R, .int .i64 C, .slice (some ⟨gt, ot, none⟩) (R * C) ct], .func (.func 21) #[] #[.pointer (some ⟨bI, 0, none⟩)]] W (tlOut (tails R C inB xs).1 (tails R C inB xs).2 true W) := by
  have hRC : R * C ≤ 16 := by
    have := Nat.mul_le_mul hR.2 hC.2
    omega
  have hmf : ∀ (fn : Fn) (first cap : Array Value) (w : World), (Instr.makeFunc fn first cap).run Try.prog w = .ok (.func fn first cap) w := fun _ _ _ _ => rfl
  have HET : Hid (∀ W4, Below W.heap.size W W4 → W4.heap.size = W.heap.size + 4 → TU 21 E (W.heap.size + 3) (W.heap.size + 1) (W.heap.size + 2) bI (0, 0) W4 → Calls Try.prog 33 #[.agg #[.int .i64 R, .int .i64 C, .slice (some ⟨gt, ot, none⟩) (R * C) ct], .func (.func 34) #[] #[.pointer (some ⟨W.heap.size + 3, 0, none⟩), .pointer (some ⟨W.heap.size + 1, 0, none⟩), .pointer (some ⟨W.heap.size + 2, 0, none⟩)]] W4 (fun e w' => e = .returned (.tuple #[]) ∧ TU 21 E (W.heap.size + 3) (W.heap.size + 1) (W.heap.size + 2) bI (tails R C inB xs) w' ∧ Below W.heap.size W w')) := Lib.hid fun W4 hb hz hu => by
    have hEF : EF E W4.heap.size [W.heap.size + 3, W.heap.size + 2] := fun W1 W2 h1 h2 h3 => hE W1 W2 h1 h2 (fun b hb1 hb2 => h3 b hb1 (by omega) (by simp; omega))
    refine (eachTable_any (TU 21 E (W.heap.size + 3) (W.heap.size + 1) (W.heap.size + 2) bI) (tlN C inB) [W.heap.size + 3, W.heap.size + 2] gt ot R C ct _ _ _ xs (0, 0) W4 (TU.frame hEF (by omega)) (tailL_any E inB (W.heap.size + 3) (W.heap.size + 1) (W.heap.size + 2) bI W4.heap.size R C hC hRC hEF (by omega) HIN) hR hC hx hs hct (by omega) (fun i hi => keepC hb (hc i hi)) hu (fun b hm => by simp at hm; omega)).mono ?_
    rintro e w' ⟨rfl, hu', hk'⟩
    refine ⟨rfl, hu', hb.trans (hk'.below hb.size (fun b hm => by simp at hm; omega))⟩
  have HEW := Lib.hid hEW
  have HE := Lib.hid hE
  clear hc hx hs HIN hE hEW
  generalize tails R C inB xs = y at *
  generalize R * C = RC at *
  go_enter Try.func20, Try.ntmps20
  go_upto_region 2 with fail
  have X4 : Hid (∀ W4, W4 = (((W.alloc (.cells #[.int .i64 R, .int .i64 C, .slice (some ⟨gt, ot, none⟩) RC ct] 26)).alloc (.cells #[.func (.func 21) #[] #[.pointer (some ⟨bI, 0, none⟩)]] 42)).alloc (.cells #[.int .i64 0] 2)).alloc (.cells #[.int .i64 0] 2) →
      Below W.heap.size W W4 ∧ W4.heap.size = W.heap.size + 4 ∧ TU 21 E (W.heap.size + 3) (W.heap.size + 1) (W.heap.size + 2) bI (0, 0) W4 ∧ W4.cell? ⟨W.heap.size, 0, none⟩ = some (.int .i64 R) ∧ W4.cell? ⟨W.heap.size, 1, none⟩ = some (.int .i64 C) ∧ W4.cell? ⟨W.heap.size, 2, none⟩ = some (.slice (some ⟨gt, ot, none⟩) RC ct)) := Lib.hid fun W4 hW => by
    have hb : Below W.heap.size W W4 := by
      rw [hW]
      repeat (first | exact Below.refl _ _ | refine below_al ?_ _)
    subst hW
    refine ⟨hb, by simp, ⟨?_, ?_, ?_, ?_, ?_, HE.out _ _ HEW.out hb.size (fun b _ hb2 => hb.block b hb2)⟩, ?_, ?_, ?_⟩
    · exact cl_new _ _ _ _ (by simp)
    · exact fz_new _ _ _ _ (by simp)
    · exact cl_up _ (cl_new _ _ _ _ (by simp))
    · exact fz_up _ (by simp) (fz_new _ _ _ _ (by simp))
    · exact cl_up _ (cl_up _ (cl_new _ _ _ _ (by simp)))
    · exact cl_up _ (cl_up _ (cl_up _ (by simp)))
    · exact cl_up _ (cl_up _ (cl_up _ (by simp)))
    · exact cl_up _ (cl_up _ (cl_up _ (by simp)))
  have Y4 := Lib.hid (X4.out _ rfl)
  clear X4
  generalize World.alloc (World.alloc (World.alloc (World.alloc W _) _) _) _ = w4 at *
  have k1 := Y4.out.2.2.2.1
  have k2 := Y4.out.2.2.2.2.1
  have k3 := Y4.out.2.2.2.2.2
  have C4 := Lib.hid (HET.out w4 Y4.out.1 Y4.out.2.1 Y4.out.2.2.1)
  clear HET
  go_upto_region 3 with (go_at_call 33; refine C4.out.mono ?_; rintro e w5 ⟨rfl, hu5, hb5⟩; have U5 := Lib.hid hu5; have B5 := Lib.hid hb5; clear hu5 hb5)
  have a5 := U5.out.a
  have p5 := U5.out.p
  go_quiet (fail)
  go_wp2_with fail
  go_ret3
  exact ⟨rfl, below_dn B5.out _⟩
set_option maxRecDepth 100000 in
set_option maxHeartbeats 3200000 in
theorem tailOfW_any (E : World → Prop) (inB : List Nat → Bool) (bI gt ot R C ct : Nat) (xs : List Nat) (W : World) (hR : 1 ≤ R ∧ R ≤ 4) (hC : 1 ≤ C ∧ C ≤ 4) (hx : xs.length = R * C) (hs : xs.sum ≤ 60) (hct : R * C ≤ ct) (hlt : gt < W.heap.size) (hc : ∀ i, i < R * C → W.cell? ⟨gt, ot + i, none⟩ = some (.int .i64 (xs[i]! : Nat)))
    (hEW : E W) (hE : ∀ W1 W2, E W1 → W1.heap.size ≤ W2.heap.size → (∀ b, b < W1.heap.size → b < W.heap.size → W2.heap[b]? = W1.heap[b]?) → E W2)
    (HIN : ∀ (cnt : List Nat) (g c : Nat) (W : World), E W → W.ownsRow 0 2 1 (.slice (some ⟨g, 0, none⟩) (R * C) c) (R * C) (nlv cnt) → cnt.length = R * C → cnt.sum ≤ 60 → Calls Try.prog 36 #[.agg #[.int .i64 R, .int .i64 C, .slice (some ⟨g, 0, none⟩) (R * C) c], .pointer (some ⟨bI, 0, none⟩)] W (fun e w' => e = .returned (.bool (inB cnt)) ∧ Below W.heap.size W w')) :
    Calls Try.prog 20 #[.agg #[.int .i64 R, .int .i64 C, .slice (some ⟨gt, ot, none⟩) (R * C) ct], .func (.func 36) #[] #[.pointer (some ⟨bI, 0, none⟩)]] W (tlOut (tails R C inB xs).1 (tails R C inB xs).2 true W) := by
  have hRC : R * C ≤ 16 := by
    have := Nat.mul_le_mul hR.2 hC.2
    omega
  have hmf : ∀ (fn : Fn) (first cap : Array Value) (w : World), (Instr.makeFunc fn first cap).run Try.prog w = .ok (.func fn first cap) w := fun _ _ _ _ => rfl
  have HET : Hid (∀ W4, Below W.heap.size W W4 → W4.heap.size = W.heap.size + 4 → TU 36 E (W.heap.size + 3) (W.heap.size + 1) (W.heap.size + 2) bI (0, 0) W4 → Calls Try.prog 33 #[.agg #[.int .i64 R, .int .i64 C, .slice (some ⟨gt, ot, none⟩) (R * C) ct], .func (.func 34) #[] #[.pointer (some ⟨W.heap.size + 3, 0, none⟩), .pointer (some ⟨W.heap.size + 1, 0, none⟩), .pointer (some ⟨W.heap.size + 2, 0, none⟩)]] W4 (fun e w' => e = .returned (.tuple #[]) ∧ TU 36 E (W.heap.size + 3) (W.heap.size + 1) (W.heap.size + 2) bI (tails R C inB xs) w' ∧ Below W.heap.size W w')) := Lib.hid fun W4 hb hz hu => by
    have hEF : EF E W4.heap.size [W.heap.size + 3, W.heap.size + 2] := fun W1 W2 h1 h2 h3 => hE W1 W2 h1 h2 (fun b hb1 hb2 => h3 b hb1 (by omega) (by simp; omega))
    refine (eachTable_any (TU 36 E (W.heap.size + 3) (W.heap.size + 1) (W.heap.size + 2) bI) (tlN C inB) [W.heap.size + 3, W.heap.size + 2] gt ot R C ct _ _ _ xs (0, 0) W4 (TU.frame hEF (by omega)) (tailW_any E inB (W.heap.size + 3) (W.heap.size + 1) (W.heap.size + 2) bI W4.heap.size R C hC hRC hEF (by omega) HIN) hR hC hx hs hct (by omega) (fun i hi => keepC hb (hc i hi)) hu (fun b hm => by simp at hm; omega)).mono ?_
    rintro e w' ⟨rfl, hu', hk'⟩
    refine ⟨rfl, hu', hb.trans (hk'.below hb.size (fun b hm => by simp at hm; omega))⟩
  have HEW := Lib.hid hEW
  have HE := Lib.hid hE
  clear hc hx hs HIN hE hEW
  generalize tails R C inB xs = y at *
  generalize R * C = RC at *
  go_enter Try.func20, Try.ntmps20
  go_upto_region 2 with fail
  have X4 : Hid (∀ W4, W4 = (((W.alloc (.cells #[.int .i64 R, .int .i64 C, .slice (some ⟨gt, ot, none⟩) RC ct] 26)).alloc (.cells #[.func (.func 36) #[] #[.pointer (some ⟨bI, 0, none⟩)]] 42)).alloc (.cells #[.int .i64 0] 2)).alloc (.cells #[.int .i64 0] 2) →
      Below W.heap.size W W4 ∧ W4.heap.size = W.heap.size + 4 ∧ TU 36 E (W.heap.size + 3) (W.heap.size + 1) (W.heap.size + 2) bI (0, 0) W4 ∧ W4.cell? ⟨W.heap.size, 0, none⟩ = some (.int .i64 R) ∧ W4.cell? ⟨W.heap.size, 1, none⟩ = some (.int .i64 C) ∧ W4.cell? ⟨W.heap.size, 2, none⟩ = some (.slice (some ⟨gt, ot, none⟩) RC ct)) := Lib.hid fun W4 hW => by
    have hb : Below W.heap.size W W4 := by
      rw [hW]
      repeat (first | exact Below.refl _ _ | refine below_al ?_ _)
    subst hW
    refine ⟨hb, by simp, ⟨?_, ?_, ?_, ?_, ?_, HE.out _ _ HEW.out hb.size (fun b _ hb2 => hb.block b hb2)⟩, ?_, ?_, ?_⟩
    · exact cl_new _ _ _ _ (by simp)
    · exact fz_new _ _ _ _ (by simp)
    · exact cl_up _ (cl_new _ _ _ _ (by simp))
    · exact fz_up _ (by simp) (fz_new _ _ _ _ (by simp))
    · exact cl_up _ (cl_up _ (cl_new _ _ _ _ (by simp)))
    · exact cl_up _ (cl_up _ (cl_up _ (by simp)))
    · exact cl_up _ (cl_up _ (cl_up _ (by simp)))
    · exact cl_up _ (cl_up _ (cl_up _ (by simp)))
  have Y4 := Lib.hid (X4.out _ rfl)
  clear X4
  generalize World.alloc (World.alloc (World.alloc (World.alloc W _) _) _) _ = w4 at *
  have k1 := Y4.out.2.2.2.1
  have k2 := Y4.out.2.2.2.2.1
  have k3 := Y4.out.2.2.2.2.2
  have C4 := Lib.hid (HET.out w4 Y4.out.1 Y4.out.2.1 Y4.out.2.2.1)
  clear HET
  go_upto_region 3 with (go_at_call 33; refine C4.out.mono ?_; rintro e w5 ⟨rfl, hu5, hb5⟩; have U5 := Lib.hid hu5; have B5 := Lib.hid hb5; clear hu5 hb5)
  have a5 := U5.out.a
  have p5 := U5.out.p
  go_quiet (fail)
  go_wp2_with fail
  go_ret3
  exact ⟨rfl, below_dn B5.out _⟩
/-- what the weights' tail counts -/
def wIn (C : Nat) (own : Int) (cnt : List Nat) : Bool := decide (wOf C cnt ≤ own)
set_option maxRecDepth 100000 in
set_option maxHeartbeats 3200000 in
theorem weightTail_any (gt ot R C ct : Nat) (xs : List Nat) (W : World) (hR : 1 ≤ R ∧ R ≤ 4) (hC : 1 ≤ C ∧ C ≤ 4) (hx : xs.length = R * C) (hs : xs.sum ≤ 60) (hct : R * C ≤ ct) (hlt : gt < W.heap.size) (hc : ∀ i, i < R * C → W.cell? ⟨gt, ot + i, none⟩ = some (.int .i64 (xs[i]! : Nat))) :
    Calls Try.prog 22 #[.agg #[.int .i64 R, .int .i64 C, .slice (some ⟨gt, ot, none⟩) (R * C) ct]] W (tlOut (tails R C (wIn C (wOf C xs)) xs).1 (tails R C (wIn C (wOf C xs)) xs).2 true W) := by
  have hRC : R * C ≤ 16 := by
    have := Nat.mul_le_mul hR.2 hC.2
    omega
  have hmf : ∀ (fn : Fn) (first cap : Array Value) (w : World), (Instr.makeFunc fn first cap).run Try.prog w = .ok (.func fn first cap) w := fun _ _ _ _ => rfl
  have HWO : Hid (∀ W', Below W.heap.size W W' → Calls Try.prog 35 #[.agg #[.int .i64 R, .int .i64 C, .slice (some ⟨gt, ot, none⟩) (R * C) ct]] W' (fun e w' => e = .returned (.int .i64 (wOf C xs)) ∧ Below W'.heap.size W' w')) := Lib.hid fun W' hb => weightOf_any gt ot R C ct xs W' hC hx hRC hs (by have := hb.size; omega) (fun i hi => keepC hb (hc i hi))
  have HTO : Hid (∀ W' bI, Below W.heap.size W W' → W'.cell? ⟨bI, 0, none⟩ = some (.int .i64 (wOf C xs)) → Calls Try.prog 20 #[.agg #[.int .i64 R, .int .i64 C, .slice (some ⟨gt, ot, none⟩) (R * C) ct], .func (.func 36) #[] #[.pointer (some ⟨bI, 0, none⟩)]] W' (tlOut (tails R C (wIn C (wOf C xs)) xs).1 (tails R C (wIn C (wOf C xs)) xs).2 true W')) := Lib.hid fun W' bI hb hI => by
    have hl := lt_of_cell hI
    exact tailOfW_any (fun W2 => W2.cell? ⟨bI, 0, none⟩ = some (.int .i64 (wOf C xs))) (wIn C (wOf C xs)) bI gt ot R C ct xs W' hR hC hx hs hct (by have := hb.size; omega) (fun i hi => keepC hb (hc i hi)) hI (fun W1 W2 h1 h2 h3 => (World.cell?_of_block (h3 bI (lt_of_cell h1) hl)).trans h1) (fun cnt g c W2 h1 h2 h3 h4 => Weight1_any bI R C g (R * C) c (wOf C xs) cnt W2 h1 hC rfl h3 hRC h4 h2)
  clear hc hx hs
  generalize tails R C (wIn C (wOf C xs)) xs = y at *
  generalize wOf C xs = wv at *
  generalize R * C = RC at *
  unfold tlOut at HTO ⊢
  go_enter Try.func22, Try.ntmps22
  go_upto_region 1 with fail
  have X1 : Hid (∀ W1, W1 = W.alloc (.cells #[.int .i64 R, .int .i64 C, .slice (some ⟨gt, ot, none⟩) RC ct] 26) → Below W.heap.size W W1 ∧ W1.cell? ⟨W.heap.size, 0, none⟩ = some (.int .i64 R) ∧ W1.cell? ⟨W.heap.size, 1, none⟩ = some (.int .i64 C) ∧ W1.cell? ⟨W.heap.size, 2, none⟩ = some (.slice (some ⟨gt, ot, none⟩) RC ct)) := Lib.hid fun W1 hW => by
    subst hW
    exact ⟨below_al (Below.refl _ _) _, by simp, by simp, by simp⟩
  have Y1 := Lib.hid (X1.out _ rfl)
  clear X1
  generalize World.alloc W _ = w1 at *
  have k1 := Y1.out.2.1
  have k2 := Y1.out.2.2.1
  have k3 := Y1.out.2.2.2
  go_upto_region 2 with (go_at_call 35; refine (HWO.out _ Y1.out.1).mono ?_; rintro e w2 ⟨rfl, hb2⟩; have B2 := Lib.hid hb2; clear hb2)
  have B3 := Lib.hid (below_al (below_next Y1.out.1 B2.out) (.cells #[.int .i64 wv] 2))
  have m1 := cl_up (.cells #[.int .i64 wv] 2) (keepC B2.out k1)
  have m2 := cl_up (.cells #[.int .i64 wv] 2) (keepC B2.out k2)
  have m3 := cl_up (.cells #[.int .i64 wv] 2) (keepC B2.out k3)
  have C3 := Lib.hid (HTO.out _ w2.heap.size B3.out (cl_new w2 _ _ _ rfl))
  clear HTO k1 k2 k3
  generalize World.alloc w2 _ = w3 at *
  go_wp2_with (go_at_call 20; refine C3.out.mono ?_; rintro e w4 ⟨rfl, hb4⟩; have B4 := Lib.hid hb4; clear hb4)
  go_ret3
  exact ⟨rfl, below_next B3.out B4.out⟩
end Go.Proofs.Ytbpigeipjeegiaa

