/-
  impl.LessTail and impl.BothTails.
-/
import Derived.Test.YtbpigeipjeegiaaFx
namespace Go.Proofs.Ytbpigeipjeegiaa
open Go Go.RowKit

theorem sumI_nat (ns : List Nat) : ∀ k, k ≤ ns.length → sumI (ns.map Int.ofNat) k = ((ns.take k).sum : Nat)
  | 0, _ => by simp [sumI]
  | k + 1, h => by
    rw [sumI_succ (by simp; omega), sumI_nat ns k (by omega), List.take_succ_eq_append_getElem (by omega), List.sum_append]
    simp
theorem il_nlv (ns : List Nat) : il (ns.map Int.ofNat) = nlv ns := by
  unfold il nlv
  rw [List.map_map]
  rfl
theorem tab_open {r l : Int} {xs : List Int} (h : tabB r l xs = true) : ∃ (R C : Nat) (ns : List Nat), r = (R : Int) ∧ l = (C : Int) ∧ (2 ≤ R ∧ R ≤ 4) ∧ (2 ≤ C ∧ C ≤ 4) ∧ xs = ns.map Int.ofNat ∧ ns.length = R * C ∧ 1 ≤ ns.sum ∧ ns.sum ≤ 60 := by
  unfold tabB at h
  simp only [Bool.and_eq_true, decide_eq_true_eq] at h
  obtain ⟨⟨⟨⟨h1, h2⟩, h3⟩, h4⟩, h5⟩ := h
  have r1 := inB_of h1
  have l1 := inB_of h2
  obtain ⟨R, rfl⟩ := Int.eq_ofNat_of_zero_le (show 0 ≤ r by omega)
  obtain ⟨C, rfl⟩ := Int.eq_ofNat_of_zero_le (show 0 ≤ l by omega)
  have hxs : xs = (xs.map Int.toNat).map Int.ofNat := by
    rw [List.map_map]
    refine (List.ext_getElem (by simp) fun i i1 i2 => ?_)
    simp only [List.getElem_map, Function.comp]
    have := List.all_eq_true.1 h4 _ (List.getElem_mem i1)
    have := inB_of (show inB xs[i] 0 60 = true from this)
    show xs[i] = ((xs[i]).toNat : Int)
    omega
  have hlen : (xs.map Int.toNat).length = R * C := by
    rw [List.length_map]
    have : ((xs.length : Nat) : Int) = ((R * C : Nat) : Int) := by rw [h3, Int.natCast_mul]
    omega
  have hs := inB_of h5
  rw [hxs, List.length_map, sumI_nat _ _ (Nat.le_refl _), List.take_of_length_le (Nat.le_refl _)] at hs
  exact ⟨R, C, xs.map Int.toNat, rfl, rfl, ⟨by omega, by omega⟩, ⟨by omega, by omega⟩, hxs, hlen, by omega, by omega⟩
def twoB (r l : Int) (xs : List Int) : Bool := tabB r l xs && (decide (r = 2) && decide (l = 2))
theorem two_open {r l : Int} {xs : List Int} (h : twoB r l xs = true) : ∃ a b c d : Nat, r = 2 ∧ l = 2 ∧ xs = [(a : Int), b, c, d] ∧ 1 ≤ a + b + c + d ∧ a + b + c + d ≤ 60 := by
  unfold twoB at h
  simp only [Bool.and_eq_true, decide_eq_true_eq] at h
  obtain ⟨h1, h2, h3⟩ := h
  obtain ⟨R, C, ns, e1, e2, -, -, e3, e4, e5, e6⟩ := tab_open h1
  obtain rfl : R = 2 := by omega
  obtain rfl : C = 2 := by omega
  match ns, e4 with
  | [a, b, c, d], _ =>
    refine ⟨a, b, c, d, h2, h3, e3, ?_, ?_⟩
    · simp at e5
      omega
    · simp at e6
      omega
theorem two_no {r l : Int} {xs : List Int} (h : twoB r l xs = false) (ht : tabB r l xs = true) (hl : xs.length = 4) : r ≠ 2 := by
  intro e
  obtain ⟨R, C, ns, e1, e2, -, -, e3, e4, -, -⟩ := tab_open ht
  have hn : ns.length = 4 := by rw [e3] at hl; simpa using hl
  obtain rfl : R = 2 := by omega
  have : C = 2 := by omega
  unfold twoB at h
  rw [ht] at h
  simp at h
  exact h e (by omega)
theorem rd_cells {w : World} {B : Nat} {A : Option Addr} {ns : List Nat} (h : Rd w B A (nlv ns)) (h0 : 0 < ns.length) : ∃ g o, A = some ⟨g, o, none⟩ ∧ g < B ∧ ∀ i, i < ns.length → w.cell? ⟨g, o + i, none⟩ = some (.int .i64 (ns[i]! : Nat)) := by
  obtain ⟨g, o, e, hb, hc⟩ := h (by rw [nlv_len]; exact h0)
  refine ⟨g, o, e, hb, fun i hi => ?_⟩
  rw [hc i (by rw [nlv_len]; exact hi), getElem!_pos ns i hi]
  simp [nlv]
set_option maxRecDepth 100000 in
set_option maxHeartbeats 1600000 in
theorem LessTail_bad (r l : Int) (A : Option Addr) (xs : List Int) (c : Nat) (w : World) (hx : xs.length ≤ 9223372036854775807) (h : Rd w w.heap.size A (il xs)) (hb : twoB r l xs = false) : Calls Try.prog 8 #[tbV r l A xs.length c] w (tlOut 0 0 false w) := by
  have hbx := below_al (Below.refl w.heap.size w) (.cells #[.int .i64 r, .int .i64 l, .slice A xs.length c] 26)
  have HV := Lib.hid (ValidTable_any r l A xs c (w.alloc (.cells #[.int .i64 r, .int .i64 l, .slice A xs.length c] 26)) hx (h.at_ hbx))
  have HNO := Lib.hid (two_no hb)
  have KB := Lib.hid hbx
  unfold tbV tlOut at *
  unfold BoolOut at HV
  clear h hb
  have hz1 : (w.alloc (.cells #[.int .i64 r, .int .i64 l, .slice A xs.length c] 26)).heap.size = w.heap.size + 1 := by simp
  have k1 : (w.alloc (.cells #[.int .i64 r, .int .i64 l, .slice A xs.length c] 26)).cell? ⟨w.heap.size, 0, none⟩ = some (.int .i64 r) := by simp
  have k2 : (w.alloc (.cells #[.int .i64 r, .int .i64 l, .slice A xs.length c] 26)).cell? ⟨w.heap.size, 1, none⟩ = some (.int .i64 l) := by simp
  have k3 : (w.alloc (.cells #[.int .i64 r, .int .i64 l, .slice A xs.length c] 26)).cell? ⟨w.heap.size, 2, none⟩ = some (.slice A xs.length c) := by simp
  cases ht : tabB r l xs with
  | false =>
    rw [ht] at HV
    clear HNO ht
    go_enter Try.func8, Try.ntmps8
    go_upto_region 1 with fail
    generalize World.alloc w _ = w1 at *
    go_wp2_with (go_at_call 17; refine HV.out.mono ?_; rintro e w2 ⟨rfl, hb2⟩; have m1 := keepC hb2 k1; have m2 := keepC hb2 k2; have m3 := keepC hb2 k3; have B2 := Lib.hid (below_next KB.out hb2); clear hb2)
    go_ret3
    exact ⟨rfl, B2.out⟩
  | true =>
    rw [ht] at HV
    by_cases h4 : xs.length = 4
    · have hr : r ≠ 2 := HNO.out ht h4
      clear HNO ht hx
      generalize xs.length = n at *
      subst h4
      go_enter Try.func8, Try.ntmps8
      go_upto_region 1 with fail
      generalize World.alloc w _ = w1 at *
      go_wp2_with (go_at_call 17; refine HV.out.mono ?_; rintro e w2 ⟨rfl, hb2⟩; have m1 := keepC hb2 k1; have m2 := keepC hb2 k2; have m3 := keepC hb2 k3; have B2 := Lib.hid (below_next KB.out hb2); clear hb2)
      go_ret3
      exact ⟨rfl, B2.out⟩
    · have h4z : ¬ ((xs.length : Nat) : Int) = 4 := by omega
      clear HNO ht hx
      generalize xs.length = n at *
      go_enter Try.func8, Try.ntmps8
      go_upto_region 1 with fail
      generalize World.alloc w _ = w1 at *
      go_wp2_with (go_at_call 17; refine HV.out.mono ?_; rintro e w2 ⟨rfl, hb2⟩; have m1 := keepC hb2 k1; have m2 := keepC hb2 k2; have m3 := keepC hb2 k3; have B2 := Lib.hid (below_next KB.out hb2); clear hb2)
      go_ret3
      exact ⟨rfl, B2.out⟩
set_option maxRecDepth 100000 in
set_option maxHeartbeats 1600000 in
theorem LessTail_ok (a b c d : Nat) (A : Option Addr) (ct : Nat) (w : World) (hs : 1 ≤ a + b + c + d ∧ a + b + c + d ≤ 60) (hct : 4 ≤ ct) (h : Rd w w.heap.size A (il [(a : Int), b, c, d])) :
    Calls Try.prog 8 #[tbV 2 2 A 4 ct] w (tlOut (tl2 (fun i => decide (i ≤ a - lowT a b d)) (wI2 a b c d) (manyT a b c d)).1 (tl2 (fun i => decide (i ≤ a - lowT a b d)) (wI2 a b c d) (manyT a b c d)).2 true w) := by
  have hv : tabB 2 2 [(a : Int), b, c, d] = true := by
    unfold tabB
    have e1 : sumI [(a : Int), b, c, d] 4 = ((a + b + c + d : Nat) : Int) := by
      have := sumI_nat [a, b, c, d] 4 (by simp)
      simp at this
      rw [this]
      push_cast
      omega
    have e2 : ([(a : Int), b, c, d]).length = 4 := rfl
    rw [e2, e1]
    simp only [Bool.and_eq_true, decide_eq_true_eq]
    refine ⟨⟨⟨⟨by decide, by decide⟩, by decide⟩, ?_⟩, inB_yes (by omega) (by omega)⟩
    simp only [List.all_cons, List.all_nil, Bool.and_eq_true, and_true]
    exact ⟨inB_yes (by omega) (by omega), inB_yes (by omega) (by omega), inB_yes (by omega) (by omega), inB_yes (by omega) (by omega)⟩
  have hbx := below_al (Below.refl w.heap.size w) (.cells #[.int .i64 2, .int .i64 2, .slice A 4 ct] 26)
  have HV := Lib.hid (ValidTable_any 2 2 A [(a : Int), b, c, d] ct (w.alloc (.cells #[.int .i64 2, .int .i64 2, .slice A 4 ct] 26)) (by simp) (h.at_ hbx))
  rw [hv] at HV
  obtain ⟨g, o, rfl, hg, hcs⟩ := rd_cells (ns := [a, b, c, d]) (show Rd w w.heap.size A (nlv [a, b, c, d]) from h) (by simp)
  have hcs : ∀ i, i < 2 * 2 → w.cell? ⟨g, o + i, none⟩ = some (.int .i64 (([a, b, c, d] : List Nat)[i]! : Nat)) := hcs
  have KB := Lib.hid hbx
  have hmf : ∀ (fn : Fn) (first cap : Array Value) (w : World), (Instr.makeFunc fn first cap).run Try.prog w = .ok (.func fn first cap) w := fun _ _ _ _ => rfl
  have HTO : Hid (∀ W', Below w.heap.size w W' → W'.cell? ⟨w.heap.size, 2, none⟩ = some (.slice (some ⟨g, o, none⟩) 4 ct) → Calls Try.prog 20 #[.agg #[.int .i64 2, .int .i64 2, .slice (some ⟨g, o, none⟩) 4 ct], .func (.func 21) #[] #[.pointer (some ⟨w.heap.size, 0, none⟩)]] W' (tlOut (tl2 (fun i => decide (i ≤ a - lowT a b d)) (wI2 a b c d) (manyT a b c d)).1 (tl2 (fun i => decide (i ≤ a - lowT a b d)) (wI2 a b c d) (manyT a b c d)).2 true W')) := Lib.hid fun W' hb hI => by
    have hl := lt_of_cell hI
    have e0 := hcs 0 (by decide)
    rw [Nat.add_zero] at e0
    have := tailOfL_any (fun W2 => W2.cell? ⟨w.heap.size, 2, none⟩ = some (.slice (some ⟨g, o, none⟩) 4 ct) ∧ W2.cell? ⟨g, o, none⟩ = some (.int .i64 (a : Nat))) (fun cnt => decide (cnt[0]! ≤ a)) w.heap.size g o 2 2 ct [a, b, c, d] W' (by omega) (by omega) rfl (by simp; omega) hct (by have := hb.size; omega) (fun i hi => keepC hb (hcs i hi)) ⟨hI, keepC hb e0⟩ (fun W1 W2 h1 h2 h3 => ⟨(World.cell?_of_block (h3 w.heap.size (lt_of_cell h1.1) hl)).trans h1.1, (World.cell?_of_block (h3 g (lt_of_cell h1.2) (by have := hb.size; omega))).trans h1.2⟩)
      (fun cnt gg cc W2 h1 h2 h3 h4 => by
        have h5 := own_cellN h2 (i := 0) (by omega)
        rw [← getElem!_pos cnt 0 (by omega)] at h5
        exact Less1_any w.heap.size g o 4 ct a 2 2 gg (2 * 2) cc cnt[0]! W2 h1.1 h1.2 h5 (by omega) (by omega))
    rw [tails_two (by omega) (fun cnt => decide (cnt[0]! ≤ a)) (fun i => decide (i ≤ a - lowT a b d)) (fun i hi => by
      have : lowT a b d ≤ a := by unfold lowT; omega
      show decide (lowT a b d + i ≤ a) = _
      exact decide_eq_decide.2 (by omega))] at this
    exact this
  unfold tbV at *
  unfold tlOut at *
  unfold BoolOut at HV
  clear h hv hcs
  generalize (tl2 (fun i => decide (i ≤ a - lowT a b d)) (wI2 a b c d) (manyT a b c d)) = y at *
  have e4 : ([(a : Int), b, c, d]).length = 4 := rfl
  rw [e4] at HV
  have hz1 : (w.alloc (.cells #[.int .i64 2, .int .i64 2, .slice (some ⟨g, o, none⟩) 4 ct] 26)).heap.size = w.heap.size + 1 := by simp
  have k1 : (w.alloc (.cells #[.int .i64 2, .int .i64 2, .slice (some ⟨g, o, none⟩) 4 ct] 26)).cell? ⟨w.heap.size, 0, none⟩ = some (.int .i64 2) := by simp
  have k2 : (w.alloc (.cells #[.int .i64 2, .int .i64 2, .slice (some ⟨g, o, none⟩) 4 ct] 26)).cell? ⟨w.heap.size, 1, none⟩ = some (.int .i64 2) := by simp
  have k3 : (w.alloc (.cells #[.int .i64 2, .int .i64 2, .slice (some ⟨g, o, none⟩) 4 ct] 26)).cell? ⟨w.heap.size, 2, none⟩ = some (.slice (some ⟨g, o, none⟩) 4 ct) := by simp
  go_enter Try.func8, Try.ntmps8
  go_upto_region 1 with fail
  generalize World.alloc w _ = w1 at *
  go_wp2_with (first
    | (go_at_call 17; refine HV.out.mono ?_; rintro e w2 ⟨rfl, hb2⟩; have m1 := keepC hb2 k1; have m2 := keepC hb2 k2; have m3 := keepC hb2 k3; have B2 := Lib.hid (below_next KB.out hb2); clear hb2)
    | (go_at_call 20; refine (HTO.out _ B2.out m3).mono ?_; rintro e w3 ⟨rfl, hb3⟩; have B3 := Lib.hid (below_next B2.out hb3); clear hb3))
  go_ret3
  exact ⟨rfl, B3.out⟩
set_option maxRecDepth 100000 in
set_option maxHeartbeats 1600000 in
theorem BothTails_bad (r l : Int) (A : Option Addr) (xs : List Int) (c : Nat) (w : World) (hx : xs.length ≤ 9223372036854775807) (h : Rd w w.heap.size A (il xs)) (hb : twoB r l xs = false) : Calls Try.prog 9 #[tbV r l A xs.length c] w (tlOut 0 0 false w) := by
  have hbx := below_al (Below.refl w.heap.size w) (.cells #[.int .i64 r, .int .i64 l, .slice A xs.length c] 26)
  have HV := Lib.hid (ValidTable_any r l A xs c (w.alloc (.cells #[.int .i64 r, .int .i64 l, .slice A xs.length c] 26)) hx (h.at_ hbx))
  have HNO := Lib.hid (two_no hb)
  have KB := Lib.hid hbx
  unfold tbV tlOut at *
  unfold BoolOut at HV
  clear h hb
  have hz1 : (w.alloc (.cells #[.int .i64 r, .int .i64 l, .slice A xs.length c] 26)).heap.size = w.heap.size + 1 := by simp
  have k1 : (w.alloc (.cells #[.int .i64 r, .int .i64 l, .slice A xs.length c] 26)).cell? ⟨w.heap.size, 0, none⟩ = some (.int .i64 r) := by simp
  have k2 : (w.alloc (.cells #[.int .i64 r, .int .i64 l, .slice A xs.length c] 26)).cell? ⟨w.heap.size, 1, none⟩ = some (.int .i64 l) := by simp
  have k3 : (w.alloc (.cells #[.int .i64 r, .int .i64 l, .slice A xs.length c] 26)).cell? ⟨w.heap.size, 2, none⟩ = some (.slice A xs.length c) := by simp
  cases ht : tabB r l xs with
  | false =>
    rw [ht] at HV
    clear HNO ht
    go_enter Try.func9, Try.ntmps9
    go_upto_region 1 with fail
    generalize World.alloc w _ = w1 at *
    go_wp2_with (go_at_call 17; refine HV.out.mono ?_; rintro e w2 ⟨rfl, hb2⟩; have m1 := keepC hb2 k1; have m2 := keepC hb2 k2; have m3 := keepC hb2 k3; have B2 := Lib.hid (below_next KB.out hb2); clear hb2)
    go_ret3
    exact ⟨rfl, B2.out⟩
  | true =>
    rw [ht] at HV
    by_cases h4 : xs.length = 4
    · have hr : r ≠ 2 := HNO.out ht h4
      clear HNO ht hx
      generalize xs.length = n at *
      subst h4
      go_enter Try.func9, Try.ntmps9
      go_upto_region 1 with fail
      generalize World.alloc w _ = w1 at *
      go_wp2_with (go_at_call 17; refine HV.out.mono ?_; rintro e w2 ⟨rfl, hb2⟩; have m1 := keepC hb2 k1; have m2 := keepC hb2 k2; have m3 := keepC hb2 k3; have B2 := Lib.hid (below_next KB.out hb2); clear hb2)
      go_ret3
      exact ⟨rfl, B2.out⟩
    · have h4z : ¬ ((xs.length : Nat) : Int) = 4 := by omega
      clear HNO ht hx
      generalize xs.length = n at *
      go_enter Try.func9, Try.ntmps9
      go_upto_region 1 with fail
      generalize World.alloc w _ = w1 at *
      go_wp2_with (go_at_call 17; refine HV.out.mono ?_; rintro e w2 ⟨rfl, hb2⟩; have m1 := keepC hb2 k1; have m2 := keepC hb2 k2; have m3 := keepC hb2 k3; have B2 := Lib.hid (below_next KB.out hb2); clear hb2)
      go_ret3
      exact ⟨rfl, B2.out⟩
theorem wOf_at {a b c d i : Nat} (h : a + b + c + d ≤ 60) (hi : i < manyT a b c d) : wOf 2 [lowT a b d + i, a + b - (lowT a b d + i), a + c - (lowT a b d + i), b + d - (a + b - (lowT a b d + i))] = wI2 a b c d i := by
  have hm : lowT a b d + i ≤ a + b ∧ lowT a b d + i ≤ a + c ∧ a + b - (lowT a b d + i) ≤ b + d := by
    unfold manyT lowT at *
    omega
  rw [wOf_two (by omega)]
  unfold wI2 wt2
  generalize lowT a b d + i = x at *
  rw [show x + (a + c - x) = a + c by omega, show a + b - x + (b + d - (a + b - x)) = b + d by omega, ← pas_symm (a + c) x (by omega), ← pas_symm (b + d) (a + b - x) (by omega)]
theorem wOf_own {a b c d : Nat} (h : a + b + c + d ≤ 60) : wOf 2 [a, b, c, d] = wI2 a b c d (a - lowT a b d) := by
  have e : lowT a b d + (a - lowT a b d) = a := by unfold lowT; omega
  have := wOf_at (a := a) (b := b) (c := c) (d := d) (i := a - lowT a b d) h (by unfold manyT lowT; omega)
  rw [e, show a + b - a = b by omega, show a + c - a = c by omega, show b + d - b = d by omega] at this
  exact this
set_option maxRecDepth 100000 in
set_option maxHeartbeats 1600000 in
theorem BothTails_ok (a b c d : Nat) (A : Option Addr) (ct : Nat) (w : World) (hs : 1 ≤ a + b + c + d ∧ a + b + c + d ≤ 60) (hct : 4 ≤ ct) (h : Rd w w.heap.size A (il [(a : Int), b, c, d])) :
    Calls Try.prog 9 #[tbV 2 2 A 4 ct] w (tlOut (tl2 (fun i => decide (wI2 a b c d i ≤ wI2 a b c d (a - lowT a b d))) (wI2 a b c d) (manyT a b c d)).1 (tl2 (fun i => decide (wI2 a b c d i ≤ wI2 a b c d (a - lowT a b d))) (wI2 a b c d) (manyT a b c d)).2 true w) := by
  have hv : tabB 2 2 [(a : Int), b, c, d] = true := by
    unfold tabB
    have e1 : sumI [(a : Int), b, c, d] 4 = ((a + b + c + d : Nat) : Int) := by
      have := sumI_nat [a, b, c, d] 4 (by simp)
      simp at this
      rw [this]
      push_cast
      omega
    have e2 : ([(a : Int), b, c, d]).length = 4 := rfl
    rw [e2, e1]
    simp only [Bool.and_eq_true, decide_eq_true_eq]
    refine ⟨⟨⟨⟨by decide, by decide⟩, by decide⟩, ?_⟩, inB_yes (by omega) (by omega)⟩
    simp only [List.all_cons, List.all_nil, Bool.and_eq_true, and_true]
    exact ⟨inB_yes (by omega) (by omega), inB_yes (by omega) (by omega), inB_yes (by omega) (by omega), inB_yes (by omega) (by omega)⟩
  have hbx := below_al (Below.refl w.heap.size w) (.cells #[.int .i64 2, .int .i64 2, .slice A 4 ct] 26)
  have HV := Lib.hid (ValidTable_any 2 2 A [(a : Int), b, c, d] ct (w.alloc (.cells #[.int .i64 2, .int .i64 2, .slice A 4 ct] 26)) (by simp) (h.at_ hbx))
  rw [hv] at HV
  obtain ⟨g, o, rfl, hg, hcs⟩ := rd_cells (ns := [a, b, c, d]) (show Rd w w.heap.size A (nlv [a, b, c, d]) from h) (by simp)
  have hcs : ∀ i, i < 2 * 2 → w.cell? ⟨g, o + i, none⟩ = some (.int .i64 (([a, b, c, d] : List Nat)[i]! : Nat)) := hcs
  have KB := Lib.hid hbx
  have hmf : ∀ (fn : Fn) (first cap : Array Value) (w : World), (Instr.makeFunc fn first cap).run Try.prog w = .ok (.func fn first cap) w := fun _ _ _ _ => rfl
  have HTO : Hid (∀ W', Below w.heap.size w W' → Calls Try.prog 22 #[.agg #[.int .i64 2, .int .i64 2, .slice (some ⟨g, o, none⟩) 4 ct]] W' (tlOut (tl2 (fun i => decide (wI2 a b c d i ≤ wI2 a b c d (a - lowT a b d))) (wI2 a b c d) (manyT a b c d)).1 (tl2 (fun i => decide (wI2 a b c d i ≤ wI2 a b c d (a - lowT a b d))) (wI2 a b c d) (manyT a b c d)).2 true W')) := Lib.hid fun W' hb => by
    have := weightTail_any g o 2 2 ct [a, b, c, d] W' (by omega) (by omega) rfl (by simp; omega) hct (by have := hb.size; omega) (fun i hi => keepC hb (hcs i hi))
    rw [tails_two (by omega) (wIn 2 (wOf 2 [a, b, c, d])) (fun i => decide (wI2 a b c d i ≤ wI2 a b c d (a - lowT a b d))) (fun i hi => by
      unfold wIn
      rw [wOf_at (by omega) hi, wOf_own (by omega)])] at this
    exact this
  unfold tbV at *
  unfold tlOut at *
  unfold BoolOut at HV
  clear h hv hcs
  generalize (tl2 (fun i => decide (wI2 a b c d i ≤ wI2 a b c d (a - lowT a b d))) (wI2 a b c d) (manyT a b c d)) = y at *
  have e4 : ([(a : Int), b, c, d]).length = 4 := rfl
  rw [e4] at HV
  have hz1 : (w.alloc (.cells #[.int .i64 2, .int .i64 2, .slice (some ⟨g, o, none⟩) 4 ct] 26)).heap.size = w.heap.size + 1 := by simp
  have k1 : (w.alloc (.cells #[.int .i64 2, .int .i64 2, .slice (some ⟨g, o, none⟩) 4 ct] 26)).cell? ⟨w.heap.size, 0, none⟩ = some (.int .i64 2) := by simp
  have k2 : (w.alloc (.cells #[.int .i64 2, .int .i64 2, .slice (some ⟨g, o, none⟩) 4 ct] 26)).cell? ⟨w.heap.size, 1, none⟩ = some (.int .i64 2) := by simp
  have k3 : (w.alloc (.cells #[.int .i64 2, .int .i64 2, .slice (some ⟨g, o, none⟩) 4 ct] 26)).cell? ⟨w.heap.size, 2, none⟩ = some (.slice (some ⟨g, o, none⟩) 4 ct) := by simp
  go_enter Try.func9, Try.ntmps9
  go_upto_region 1 with fail
  generalize World.alloc w _ = w1 at *
  go_wp2_with (first
    | (go_at_call 17; refine HV.out.mono ?_; rintro e w2 ⟨rfl, hb2⟩; have m1 := keepC hb2 k1; have m2 := keepC hb2 k2; have m3 := keepC hb2 k3; have B2 := Lib.hid (below_next KB.out hb2); clear hb2)
    | (go_at_call 22; refine (HTO.out _ B2.out).mono ?_; rintro e w3 ⟨rfl, hb3⟩; have B3 := Lib.hid (below_next B2.out hb3); clear hb3))
  go_ret3
  exact ⟨rfl, B3.out⟩
end Go.Proofs.Ytbpigeipjeegiaa

