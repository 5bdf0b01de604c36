/-
  impl.columnSums and impl.weightOf.
-/
import Derived.Test.YtbpigeipjeegiaaEt
import Derived.Test.YtbpigeipjeegiaaCo
import Derived.Deep.RegionHeld3
import Derived.Deep.DeepCutAuto
import Derived.BigQuiet
namespace Go.Proofs.Ytbpigeipjeegiaa
open Go Go.RowKit

/-- the sums of columns of the first i numbers -/
def colsTo (xs : List Nat) (C : Nat) : Nat → Nat → Nat
  | 0, _ => 0
  | i + 1, p => if p = i % C then colsTo xs C i p + xs[i]! else colsTo xs C i p
def colsS (xs : List Nat) (C : Nat) : List Nat := (List.range C).map (colsTo xs C xs.length)
def preSum (xs : List Nat) : Nat → Nat
  | 0 => 0
  | i + 1 => preSum xs i + xs[i]!
theorem colsTo_le (xs : List Nat) (C : Nat) : ∀ i p, colsTo xs C i p ≤ preSum xs i
  | 0, _ => Nat.le_refl _
  | i + 1, p => by
    have := colsTo_le xs C i p
    show (if p = i % C then _ else _) ≤ preSum xs i + xs[i]!
    split <;> omega
theorem preSum_take (xs : List Nat) : ∀ i, i ≤ xs.length → preSum xs i = (xs.take i).sum
  | 0, _ => by simp [preSum]
  | i + 1, h => by
    show preSum xs i + xs[i]! = _
    rw [preSum_take xs i (by omega), List.take_succ_eq_append_getElem (by omega), List.sum_append, getElem!_pos xs i (by omega)]
    simp
theorem take_sum_le (l : List Nat) : ∀ n, (l.take n).sum ≤ l.sum := by
  induction l with
  | nil => simp
  | cons a l ih =>
    intro n
    cases n with
    | zero => simp
    | succ n =>
      rw [List.take_succ_cons, List.sum_cons, List.sum_cons]
      have := ih n
      omega
theorem colsTo_sum {xs : List Nat} {C i : Nat} (h : i ≤ xs.length) (p : Nat) : colsTo xs C i p ≤ xs.sum := by
  have h1 := colsTo_le xs C i p
  rw [preSum_take xs i h] at h1
  exact Nat.le_trans h1 (take_sum_le _ _)
/-- the weight of a table -/
def wTo (xs : List Nat) (C : Nat) : Nat → Int
  | 0 => 1
  | i + 1 => IntKind.i64.wrap (wTo xs C i * (pas (colsTo xs C (i + 1) (i % C)) xs[i]! : Nat))
theorem colsTo_at (xs : List Nat) (C i : Nat) : colsTo xs C (i + 1) (i % C) = colsTo xs C i (i % C) + xs[i]! := by
  show (if i % C = i % C then _ else _) = _
  rw [if_pos rfl]
theorem own_rowN {w : World} {g m : Nat} {e : TypeId} {f : Nat → Nat} (h : w.rowIs g e m (fun p => .int .i64 (f p : Nat))) (hm : m ≤ maxLen) : w.ownsRow 0 e 1 (.slice (some ⟨g, 0, none⟩) m m) m (nlv ((List.range m).map f)) := by
  obtain ⟨c, h1, h2, h3⟩ := h
  refine ⟨by simp [nlv], .inr ⟨g, m, c, rfl, Nat.zero_le _, h1, Nat.le_refl _, hm, by omega, ?_⟩⟩
  refine List.ext_getElem (by simp [nlv]; omega) fun i hi1 hi2 => ?_
  have hi : i < m := by simp [nlv] at hi2; exact hi2
  have := h3 i hi
  rw [Array.getElem?_eq_getElem (by omega)] at this
  rw [List.getElem_take]
  simp only [nlv, List.getElem_map, List.getElem_range]
  exact Option.some.inj this
set_option maxRecDepth 100000 in
set_option maxHeartbeats 3200000 in
theorem columnSums_any (gt ot R C ct : Nat) (xs : List Nat) (w : World) (hC : 1 ≤ C ∧ C ≤ 4) (hx : xs.length = R * C) (hRC : R * C ≤ 16) (hs : xs.sum ≤ 100000) (hlt : gt < w.heap.size) (hc : ∀ i, i < R * C → w.cell? ⟨gt, ot + i, none⟩ = some (.int .i64 (xs[i]! : Nat))) :
    Calls Try.prog 19 #[.agg #[.int .i64 R, .int .i64 C, .slice (some ⟨gt, ot, none⟩) (R * C) ct]] w (fun e w' => ∃ g c, e = .returned (.slice (some ⟨g, 0, none⟩) C c) ∧ w.heap.size ≤ g ∧ w'.ownsRow 0 2 1 (.slice (some ⟨g, 0, none⟩) C c) C (nlv (colsS xs C)) ∧ Below w.heap.size w w') := by
  obtain ⟨i0, hi0, hz0, hz1, hz2⟩ := info_parts info_i64
  have hmk := run_make_row (P := Try.prog) 24 2 i0 (.int .i64 0) Try.underlying24 hi0 hz0 hz1 rfl .i64 .i64 C (by rw [hz2]; omega) (by omega)
  have HC := Lib.hid hc
  have HE : Hid (colsS xs C = (List.range C).map (colsTo xs C (R * C))) := Lib.hid (by unfold colsS; rw [hx])
  have HB : Hid (∀ i p, i ≤ R * C → colsTo xs C i p ≤ 100000) := Lib.hid fun i p hi => Nat.le_trans (colsTo_sum (by omega) p) hs
  have HS : Hid (∀ i p, colsTo xs C (i + 1) p = if p = i % C then colsTo xs C i (i % C) + xs[i]! else colsTo xs C i p) := Lib.hid fun i p => by
    show (if p = i % C then colsTo xs C i p + xs[i]! else colsTo xs C i p) = _
    split
    · next h => rw [h]
    · rfl
  have HSA : Hid (∀ i, colsTo xs C (i + 1) (i % C) = colsTo xs C i (i % C) + xs[i]!) := Lib.hid fun i => colsTo_at xs C i
  have H0 : Hid (∀ p, colsTo xs C 0 p = 0) := Lib.hid fun p => rfl
  clear hc hx hs
  generalize colsTo xs C = cf at *
  generalize R * C = RC at *
  have hbx : Below w.heap.size w (w.alloc (.cells #[.int .i64 R, .int .i64 C, .slice (some ⟨gt, ot, none⟩) RC ct] 26)) := below_al (Below.refl _ _) _
  go_enter Try.func19, Try.ntmps19
  go_upto_region 2 with fail
  have HX : Hid (∀ W0, W0 = (w.alloc (.cells #[.int .i64 R, .int .i64 C, .slice (some ⟨gt, ot, none⟩) RC ct] 26)).alloc (.cells (madeCells #[.int .i64 0] C) 2) → Below w.heap.size w W0 ∧ W0.heap.size = w.heap.size + 2 ∧ W0.cell? ⟨w.heap.size, 1, none⟩ = some (.int .i64 C) ∧ W0.cell? ⟨w.heap.size, 2, none⟩ = some (.slice (some ⟨gt, ot, none⟩) RC ct) ∧ W0.rowIs (w.heap.size + 1) 2 C (fun p => .int .i64 (cf 0 p : Nat))) := Lib.hid fun W0 hW => by
    subst hW
    refine ⟨below_al hbx _, by simp, ?_, ?_, ?_⟩
    · refine cl_up _ ?_
      simp
    · refine cl_up _ ?_
      simp
    · have := World.rowIs_made (w.alloc (.cells #[.int .i64 R, .int .i64 C, .slice (some ⟨gt, ot, none⟩) RC ct] 26)) (.int .i64 0) C 2
      rw [World.size_alloc] at this
      exact this.congr fun p hp => by rw [H0.out]; rfl
  have X9 := Lib.hid (HX.out _ rfl)
  clear HX hbx
  generalize World.alloc (World.alloc w _) _ = W0 at *
  have e2 := X9.out.2.2.2.1
  go_wp2_with fail
  go_loopw [12] (fun kv wr => ∃ i : Nat, i ≤ RC ∧ kv = .int .i64 i ∧ Below w.heap.size w wr ∧ wr.cell? ⟨w.heap.size, 1, none⟩ = some (.int .i64 C) ∧ wr.rowIs (w.heap.size + 1) 2 C (fun p => .int .i64 (cf i p : Nat))) (fun kv _ => RC - (intOf kv).toNat)
  case atStart => exact ⟨0, Nat.zero_le _, rfl, X9.out.1, X9.out.2.2.1, X9.out.2.2.2.2⟩
  case round =>
    obtain ⟨i, hi, rfl, hb, h1, hr⟩ := hrel
    rename World => wr
    by_cases hlti : i < RC
    · have c1 := (hb.cell (p := ⟨gt, ot + i, none⟩) hlt).trans (HC.out i hlti)
      have hm : i % C < C := Nat.mod_lt _ (by omega)
      have c2 := hr.cell hm
      have f2 := hr.frozen (i % C)
      have hmod : ((i : Nat) : Int).tmod (C : Int) = ((i % C : Nat) : Int) := by
        rw [Int.tmod_eq_emod_of_nonneg (by omega)]
        rfl
      have R9 : Hid (Below w.heap.size w (wr.setCell ⟨w.heap.size + 1, i % C, none⟩ (.int .i64 (cf (i + 1) (i % C) : Nat))) ∧ (wr.setCell ⟨w.heap.size + 1, i % C, none⟩ (.int .i64 (cf (i + 1) (i % C) : Nat))).cell? ⟨w.heap.size, 1, none⟩ = some (.int .i64 C) ∧ (wr.setCell ⟨w.heap.size + 1, i % C, none⟩ (.int .i64 (cf (i + 1) (i % C) : Nat))).rowIs (w.heap.size + 1) 2 C (fun p => .int .i64 (cf (i + 1) p : Nat))) := Lib.hid ⟨below_set hb _ _ (by show w.heap.size ≤ w.heap.size + 1; omega), (World.cell?_setCell_other _ _ _ _ (by simp)).trans h1, (hr.set (i % C) _).congr fun p hp => by
        rw [HS.out i p, HSA.out i]
        split <;> rfl⟩
      have hadd : IntKind.i64.wrap (((cf i (i % C) : Nat) : Int) + ((xs[i]! : Nat) : Int)) = ((cf (i + 1) (i % C) : Nat) : Int) := by
        have := HB.out (i + 1) (i % C) (by omega)
        have h9 := HSA.out i
        rw [h9] at this ⊢
        rw [show ((cf i (i % C) : Nat) : Int) + ((xs[i]! : Nat) : Int) = ((cf i (i % C) + xs[i]! : Nat) : Int) by push_cast; rfl]
        exact IntWalk.i64_in _ (by omega)
      have hiz : (i : Int) < (RC : Int) := by omega
      have hmz : ((i % C : Nat) : Int) < (C : Int) := by omega
      have hCz : ¬ (C : Int) = 0 := by omega
      have hCz2 : ¬ C = 0 := by omega
      clear hb hr
      generalize cf (i + 1) (i % C) = v9 at *
      generalize cf i (i % C) = v8 at *
      generalize xs[i]! = xi at *
      generalize i % C = im at *
      go_wp2_with fail
      go_roundw
      case rel => exact ⟨i + 1, by omega, by go_num, R9.out⟩
      case measure => simp [intOf]; omega
    · obtain rfl : i = RC := by omega
      go_wp2_with fail
      go_ret
      refine ⟨w.heap.size + 1, C, rfl, by omega, ?_, hb⟩
      rw [HE.out]
      exact own_rowN hr (by unfold maxLen; omega)
theorem w64y (a : Int) : wrap64 a = IntKind.i64.wrap a := by
  unfold wrap64 IntKind.wrap
  simp [IntKind.bits, IntKind.signed]
  omega
/-- the weight of a table, whole -/
def wOf (C : Nat) (xs : List Nat) : Int := wTo xs C xs.length
set_option maxRecDepth 100000 in
set_option maxHeartbeats 3200000 in
theorem weightOf_any (gt ot R C ct : Nat) (xs : List Nat) (w : World) (hC : 1 ≤ C ∧ C ≤ 4) (hx : xs.length = R * C) (hRC : R * C ≤ 16) (hs : xs.sum ≤ 60) (hlt : gt < w.heap.size) (hc : ∀ i, i < R * C → w.cell? ⟨gt, ot + i, none⟩ = some (.int .i64 (xs[i]! : Nat))) :
    Calls Try.prog 35 #[.agg #[.int .i64 R, .int .i64 C, .slice (some ⟨gt, ot, none⟩) (R * C) ct]] w (fun e w' => e = .returned (.int .i64 (wOf C xs)) ∧ Below w.heap.size w w') := by
  obtain ⟨i0, hi0, hz0, hz1, hz2⟩ := info_parts info_i64
  have hmk := run_make_row (P := Try.prog) 24 2 i0 (.int .i64 0) Try.underlying24 hi0 hz0 hz1 rfl .i64 .i64 C (by rw [hz2]; omega) (by omega)
  have HC := Lib.hid hc
  have HE : Hid (wOf C xs = wTo xs C (R * C)) := Lib.hid (by unfold wOf; rw [hx])
  have HB : Hid (∀ i p, i ≤ R * C → colsTo xs C i p ≤ 60) := Lib.hid fun i p hi => Nat.le_trans (colsTo_sum (by omega) p) hs
  have HS : Hid (∀ i p, colsTo xs C (i + 1) p = if p = i % C then colsTo xs C i (i % C) + xs[i]! else colsTo xs C i p) := Lib.hid fun i p => by
    show (if p = i % C then colsTo xs C i p + xs[i]! else colsTo xs C i p) = _
    split
    · next h => rw [h]
    · rfl
  have HSA : Hid (∀ i, colsTo xs C (i + 1) (i % C) = colsTo xs C i (i % C) + xs[i]!) := Lib.hid fun i => colsTo_at xs C i
  have H0 : Hid (∀ p, colsTo xs C 0 p = 0) := Lib.hid fun p => rfl
  have HW0 : Hid (wTo xs C 0 = 1) := Lib.hid rfl
  have HWS : Hid (∀ i, wTo xs C (i + 1) = IntKind.i64.wrap (wTo xs C i * (pas (colsTo xs C (i + 1) (i % C)) xs[i]! : Nat))) := Lib.hid fun i => rfl
  clear hc hx hs
  generalize wTo xs C = wf at *
  generalize colsTo xs C = cf at *
  generalize R * C = RC at *
  have hbx : Below w.heap.size w (w.alloc (.cells #[.int .i64 R, .int .i64 C, .slice (some ⟨gt, ot, none⟩) RC ct] 26)) := below_al (Below.refl _ _) _
  have y1 : (w.alloc (.cells #[.int .i64 R, .int .i64 C, .slice (some ⟨gt, ot, none⟩) RC ct] 26)).cell? ⟨w.heap.size, 1, none⟩ = some (.int .i64 C) := by simp
  go_enter Try.func35, Try.ntmps35
  go_upto_region 1 with fail
  go_region
  have HX : Hid (∀ W0, W0 = ((w.alloc (.cells #[.int .i64 R, .int .i64 C, .slice (some ⟨gt, ot, none⟩) RC ct] 26)).alloc (.cells (madeCells #[.int .i64 0] C) 2)).drew → Below w.heap.size w W0 ∧ W0.heap.size = w.heap.size + 2 ∧ W0.cell? ⟨w.heap.size, 1, none⟩ = some (.int .i64 C) ∧ W0.cell? ⟨w.heap.size, 2, none⟩ = some (.slice (some ⟨gt, ot, none⟩) RC ct) ∧ W0.rowIs (w.heap.size + 1) 2 C (fun p => .int .i64 (cf 0 p : Nat))) := Lib.hid fun W0 hW => by
    subst hW
    refine ⟨below_dr (below_al hbx _), by simp, ?_, ?_, ?_⟩
    · refine (show ((w.alloc (.cells #[.int .i64 R, .int .i64 C, .slice (some ⟨gt, ot, none⟩) RC ct] 26)).alloc (.cells (madeCells #[.int .i64 0] C) 2)).cell? ⟨w.heap.size, 1, none⟩ = _ from cl_up _ ?_)
      simp
    · refine (show ((w.alloc (.cells #[.int .i64 R, .int .i64 C, .slice (some ⟨gt, ot, none⟩) RC ct] 26)).alloc (.cells (madeCells #[.int .i64 0] C) 2)).cell? ⟨w.heap.size, 2, none⟩ = _ from cl_up _ ?_)
      simp
    · have := World.rowIs_made (w.alloc (.cells #[.int .i64 R, .int .i64 C, .slice (some ⟨gt, ot, none⟩) RC ct] 26)) (.int .i64 0) C 2
      rw [World.size_alloc] at this
      exact World.rowIs.of_block (this.congr fun p hp => by rw [H0.out]; rfl) rfl
  have X9 := Lib.hid (HX.out _ rfl)
  clear HX hbx y1
  generalize World.drew _ = W0 at *
  have e2 := X9.out.2.2.2.1
  go_wp2_with fail
  go_loopw [3, 14] (fun wv kv wr => ∃ i : Nat, i ≤ RC ∧ kv = .int .i64 i ∧ wv = .int .i64 (wf i) ∧ Below w.heap.size w wr ∧ wr.heap.size ≥ w.heap.size + 2 ∧ wr.cell? ⟨w.heap.size, 1, none⟩ = some (.int .i64 C) ∧ wr.rowIs (w.heap.size + 1) 2 C (fun p => .int .i64 (cf i p : Nat))) (fun _ kv _ => RC - (intOf kv).toNat)
  case atStart => exact ⟨0, Nat.zero_le _, rfl, by rw [HW0.out], X9.out.1, by have := X9.out.2.1; omega, X9.out.2.2.1, X9.out.2.2.2.2⟩
  case round =>
    obtain ⟨i, hi, rfl, rfl, hb, hz2w, h1, hr⟩ := hrel
    rename World => wr
    by_cases hlti : i < RC
    · have c1 := (hb.cell (p := ⟨gt, ot + i, none⟩) hlt).trans (HC.out i hlti)
      have hm : i % C < C := Nat.mod_lt _ (by omega)
      have c2 := hr.cell hm
      have f2 := hr.frozen (i % C)
      have hmod : ((i : Nat) : Int).tmod (C : Int) = ((i % C : Nat) : Int) := by
        rw [Int.tmod_eq_emod_of_nonneg (by omega)]
        rfl
      have R9 : Hid (Below w.heap.size w (wr.setCell ⟨w.heap.size + 1, i % C, none⟩ (.int .i64 (cf (i + 1) (i % C) : Nat))) ∧ (wr.setCell ⟨w.heap.size + 1, i % C, none⟩ (.int .i64 (cf (i + 1) (i % C) : Nat))).heap.size = wr.heap.size ∧ (wr.setCell ⟨w.heap.size + 1, i % C, none⟩ (.int .i64 (cf (i + 1) (i % C) : Nat))).cell? ⟨w.heap.size, 1, none⟩ = some (.int .i64 C) ∧ (wr.setCell ⟨w.heap.size + 1, i % C, none⟩ (.int .i64 (cf (i + 1) (i % C) : Nat))).rowIs (w.heap.size + 1) 2 C (fun p => .int .i64 (cf (i + 1) p : Nat))) := Lib.hid ⟨below_set hb _ _ (by show w.heap.size ≤ w.heap.size + 1; omega), by simp, (World.cell?_setCell_other _ _ _ _ (by simp)).trans h1, (hr.set (i % C) _).congr fun p hp => by
        rw [HS.out i p, HSA.out i]
        split <;> rfl⟩
      have hadd : IntKind.i64.wrap (((cf i (i % C) : Nat) : Int) + ((xs[i]! : Nat) : Int)) = ((cf (i + 1) (i % C) : Nat) : Int) := by
        have := HB.out (i + 1) (i % C) (by omega)
        have h9 := HSA.out i
        rw [h9] at this ⊢
        rw [show ((cf i (i % C) : Nat) : Int) + ((xs[i]! : Nat) : Int) = ((cf i (i % C) + xs[i]! : Nat) : Int) by push_cast; rfl]
        exact IntWalk.i64_in _ (by omega)
      have HCH := Lib.hid fun W => choices_any (cf (i + 1) (i % C)) xs[i]! (HB.out (i + 1) (i % C) (by omega)) (by have := HSA.out i; omega) W
      have HW9 := Lib.hid (HWS.out i)
      have hiz : (i : Int) < (RC : Int) := by omega
      have hmz : ((i % C : Nat) : Int) < (C : Int) := by omega
      have hCz : ¬ (C : Int) = 0 := by omega
      have hCz2 : ¬ C = 0 := by omega
      have c3 : (wr.setCell ⟨w.heap.size + 1, i % C, none⟩ (.int .i64 (cf (i + 1) (i % C) : Nat))).cell? ⟨w.heap.size + 1, i % C, none⟩ = some (.int .i64 (cf (i + 1) (i % C) : Nat)) := World.cell?_setCell_same' _ _ _ (by rw [c2]; rfl)
      clear hb hr HWS HSA HB HS
      generalize cf (i + 1) (i % C) = v9 at *
      generalize cf i (i % C) = v8 at *
      generalize xs[i]! = xi at *
      generalize i % C = im at *
      generalize wf i = wi at *
      generalize pas v9 xi = pv at *
      go_upto_region 7 with fail
      generalize World.setCell wr _ _ = ws at *
      go_wp2_with (go_at_call 25; refine (HCH.out _).mono ?_; rintro e w5 ⟨rfl, hb5⟩; have B5 := Lib.hid hb5; clear hb5)
      go_roundw
      case rel =>
        refine ⟨i + 1, by omega, by go_num, by rw [HW9.out, ← w64y], below_next R9.out.1 B5.out, by have := B5.out.size; have := R9.out.2.1; omega, keepC B5.out R9.out.2.2.1, R9.out.2.2.2.of_block (B5.out.block _ (by have := R9.out.2.1; omega))⟩
      case measure => simp [intOf]; omega
    · obtain rfl : i = RC := by omega
      go_wp2_with fail
      go_ret
      rw [HE.out]
      exact ⟨rfl, hb⟩
end Go.Proofs.Ytbpigeipjeegiaa

