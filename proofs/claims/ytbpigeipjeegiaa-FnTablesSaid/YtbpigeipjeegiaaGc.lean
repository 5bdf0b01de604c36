/-
  impl.ExactTail.
-/
import Derived.Test.YtbpigeipjeegiaaFy
namespace Go.Proofs.Ytbpigeipjeegiaa
open Go Go.RowKit

/-- tables small enough for the exact test -/
def exB (r l : Int) (xs : List Int) : Bool := tabB r l xs && (decide (r ≤ 3) && (decide (l ≤ 3) && decide (sumI xs xs.length ≤ 20)))
theorem tabB_all {r l : Int} {xs : List Int} (h : tabB r l xs = true) : xs.all cntB = true ∧ xs.length ≤ 16 := by
  unfold tabB at h
  simp only [Bool.and_eq_true, decide_eq_true_eq] at h
  obtain ⟨⟨⟨⟨h1, h2⟩, h3⟩, h4⟩, h5⟩ := h
  have := mul_few h1 h2
  exact ⟨h4, by omega⟩
theorem ex_open {r l : Int} {xs : List Int} (h : exB r l xs = true) : ∃ (R C : Nat) (ns : List Nat), r = (R : Int) ∧ l = (C : Int) ∧ (2 ≤ R ∧ R ≤ 3) ∧ (2 ≤ C ∧ C ≤ 3) ∧ xs = ns.map Int.ofNat ∧ ns.length = R * C ∧ 1 ≤ ns.sum ∧ ns.sum ≤ 20 := by
  unfold exB at h
  simp only [Bool.and_eq_true, decide_eq_true_eq] at h
  obtain ⟨h1, h2, h3, h4⟩ := h
  obtain ⟨R, C, ns, rfl, rfl, hr, hc, rfl, hl, hs1, hs2⟩ := tab_open h1
  rw [List.length_map, sumI_nat _ _ (Nat.le_refl _), List.take_of_length_le (Nat.le_refl _)] at h4
  exact ⟨R, C, ns, rfl, rfl, ⟨hr.1, by omega⟩, ⟨hc.1, by omega⟩, rfl, hl, hs1, by omega⟩
set_option maxRecDepth 100000 in
set_option maxHeartbeats 1600000 in
theorem ExactTail_bad (r l : Int) (A : Option Addr) (xs : List Int) (c : Nat) (w : World) (hx : xs.length ≤ 9223372036854775807) (h : Rd w w.heap.size A (il xs)) (hb : exB r l xs = false) : Calls Try.prog 10 #[tbV r l A xs.length c] w (tlOut 0 0 false w) := by
  have hbx := below_al (Below.refl w.heap.size w) (.cells #[.int .i64 r, .int .i64 l, .slice A xs.length c] 26)
  have HV := Lib.hid (ValidTable_any r l A xs c (w.alloc (.cells #[.int .i64 r, .int .i64 l, .slice A xs.length c] 26)) hx (h.at_ hbx))
  have HTT : Hid (tabB r l xs = true → ∀ W, Below w.heap.size w W → Calls Try.prog 23 #[.slice A xs.length c] W (SameOut (.int .i64 (sumI xs xs.length)) W)) := Lib.hid fun ht W hW => totalI_any A xs c W (by have := (tabB_all ht).2; omega) (tabB_all ht).1 (h.at_ hW)
  have HNO : Hid (tabB r l xs = true → r ≤ 3 → l ≤ 3 → ¬ sumI xs xs.length ≤ 20) := Lib.hid fun h1 h2 h3 h4 => by
    unfold exB at hb
    rw [h1, decide_eq_true h2, decide_eq_true h3, decide_eq_true h4] at hb
    cases hb
  have KB := Lib.hid hbx
  unfold tbV tlOut at *
  unfold BoolOut at HV
  unfold SameOut at HTT
  clear h hb
  have hz1 : (w.alloc (.cells #[.int .i64 r, .int .i64 l, .slice A xs.length c] 26)).heap.size = w.heap.size + 1 := by simp
  have k1 : (w.alloc (.cells #[.int .i64 r, .int .i64 l, .slice A xs.length c] 26)).cell? ⟨w.heap.size, 0, none⟩ = some (.int .i64 r) := by simp
  have k2 : (w.alloc (.cells #[.int .i64 r, .int .i64 l, .slice A xs.length c] 26)).cell? ⟨w.heap.size, 1, none⟩ = some (.int .i64 l) := by simp
  have k3 : (w.alloc (.cells #[.int .i64 r, .int .i64 l, .slice A xs.length c] 26)).cell? ⟨w.heap.size, 2, none⟩ = some (.slice A xs.length c) := by simp
  generalize sumI xs xs.length = S at *
  generalize tabB r l xs = t at *
  generalize xs.length = n at *
  cases t with
  | false =>
    clear HNO HTT
    go_enter Try.func10, Try.ntmps10
    go_upto_region 1 with fail
    generalize World.alloc w _ = w1 at *
    go_wp2_with (go_at_call 17; refine HV.out.mono ?_; rintro e w2 ⟨rfl, hb2⟩; have m1 := keepC hb2 k1; have m2 := keepC hb2 k2; have m3 := keepC hb2 k3; have B2 := Lib.hid (below_next KB.out hb2); clear hb2)
    go_ret3
    exact ⟨rfl, B2.out⟩
  | true =>
    by_cases h1 : r ≤ 3
    · by_cases h2 : l ≤ 3
      · have h3 := HNO.out rfl h1 h2
        have HT := Lib.hid (HTT.out rfl)
        clear HNO HTT
        have h1' : ¬ 3 < r := by omega
        have h2' : ¬ 3 < l := by omega
        have h3' : 20 < S := by omega
        go_enter Try.func10, Try.ntmps10
        go_upto_region 1 with fail
        generalize World.alloc w _ = w1 at *
        go_wp2_with (first
          | (go_at_call 17; refine HV.out.mono ?_; rintro e w2 ⟨rfl, hb2⟩; have m1 := keepC hb2 k1; have m2 := keepC hb2 k2; have m3 := keepC hb2 k3; have B2 := Lib.hid (below_next KB.out hb2); clear hb2)
          | (go_at_call 23; refine (HT.out _ B2.out).mono ?_; rintro e w3 ⟨rfl, rfl⟩))
        go_ret3
        exact ⟨rfl, B2.out⟩
      · have h2' : 3 < l := by omega
        have h1' : ¬ 3 < r := by omega
        clear HNO HTT
        go_enter Try.func10, Try.ntmps10
        go_upto_region 1 with fail
        generalize World.alloc w _ = w1 at *
        go_wp2_with (go_at_call 17; refine HV.out.mono ?_; rintro e w2 ⟨rfl, hb2⟩; have m1 := keepC hb2 k1; have m2 := keepC hb2 k2; have m3 := keepC hb2 k3; have B2 := Lib.hid (below_next KB.out hb2); clear hb2)
        go_ret3
        exact ⟨rfl, B2.out⟩
    · have h1' : 3 < r := by omega
      clear HNO HTT
      go_enter Try.func10, Try.ntmps10
      go_upto_region 1 with fail
      generalize World.alloc w _ = w1 at *
      go_wp2_with (go_at_call 17; refine HV.out.mono ?_; rintro e w2 ⟨rfl, hb2⟩; have m1 := keepC hb2 k1; have m2 := keepC hb2 k2; have m3 := keepC hb2 k3; have B2 := Lib.hid (below_next KB.out hb2); clear hb2)
      go_ret3
      exact ⟨rfl, B2.out⟩
theorem le_sum_of_mem {n : Nat} : ∀ {ns : List Nat}, n ∈ ns → n ≤ ns.sum
  | [], h => by cases h
  | m :: ms, h => by
    rw [List.sum_cons]
    rcases List.mem_cons.1 h with e | h
    · omega
    · have := le_sum_of_mem h
      omega
theorem tab_yes {R C : Nat} {ns : List Nat} (hR : 2 ≤ R ∧ R ≤ 3) (hC : 2 ≤ C ∧ C ≤ 3) (hl : ns.length = R * C) (hs : 1 ≤ ns.sum ∧ ns.sum ≤ 20) : tabB (R : Int) (C : Int) (ns.map Int.ofNat) = true ∧ (ns.map Int.ofNat).all cntB = true ∧ sumI (ns.map Int.ofNat) (ns.map Int.ofNat).length = (ns.sum : Int) := by
  have e1 : sumI (ns.map Int.ofNat) (ns.map Int.ofNat).length = (ns.sum : Int) := by
    rw [List.length_map, sumI_nat _ _ (Nat.le_refl _), List.take_of_length_le (Nat.le_refl _)]
  have e2 : (ns.map Int.ofNat).all cntB = true := by
    rw [List.all_eq_true]
    intro x hx
    obtain ⟨n, hn, rfl⟩ := List.mem_map.1 hx
    have h9 : n ≤ ns.sum := le_sum_of_mem hn
    exact inB_yes (by show (0 : Int) ≤ (n : Int); omega) (by show (n : Int) ≤ 60; omega)
  refine ⟨?_, e2, e1⟩
  unfold tabB
  rw [e1, e2]
  simp only [Bool.and_eq_true, decide_eq_true_eq]
  refine ⟨⟨⟨⟨inB_yes (by omega) (by omega), inB_yes (by omega) (by omega)⟩, ?_⟩, trivial⟩, inB_yes (by omega) (by omega)⟩
  rw [List.length_map, hl, Int.natCast_mul]
set_option maxRecDepth 100000 in
set_option maxHeartbeats 1600000 in
theorem ExactTail_ok (R C : Nat) (ns : List Nat) (A : Option Addr) (ct : Nat) (w : World) (hR : 2 ≤ R ∧ R ≤ 3) (hC : 2 ≤ C ∧ C ≤ 3) (hl : ns.length = R * C) (hs : 1 ≤ ns.sum ∧ ns.sum ≤ 20) (hct : R * C ≤ ct) (h : Rd w w.heap.size A (nlv ns)) :
    Calls Try.prog 10 #[tbV R C A (R * C) ct] w (tlOut (tails R C (wIn C (wOf C ns)) ns).1 (tails R C (wIn C (wOf C ns)) ns).2 true w) := by
  obtain ⟨hv, hal, hsm⟩ := tab_yes hR hC hl hs
  have hln : (ns.map Int.ofNat).length = R * C := by rw [List.length_map, hl]
  have hRC : 4 ≤ R * C ∧ R * C ≤ 9 := by
    have h1 := Nat.mul_le_mul hR.1 hC.1
    have h2 := Nat.mul_le_mul hR.2 hC.2
    omega
  have hh : Rd w w.heap.size A (il (ns.map Int.ofNat)) := by rw [il_nlv]; exact h
  have hbx := below_al (Below.refl w.heap.size w) (.cells #[.int .i64 R, .int .i64 C, .slice A (R * C) ct] 26)
  have HV := Lib.hid (ValidTable_any R C A (ns.map Int.ofNat) ct (w.alloc (.cells #[.int .i64 R, .int .i64 C, .slice A (R * C) ct] 26)) (by omega) (hh.at_ hbx))
  rw [hv, hln] at HV
  have HT : Hid (∀ W, Below w.heap.size w W → Calls Try.prog 23 #[.slice A (R * C) ct] W (SameOut (.int .i64 (ns.sum : Nat)) W)) := Lib.hid fun W hW => by
    have := totalI_any A (ns.map Int.ofNat) ct W (by omega) hal (hh.at_ hW)
    rw [hsm, hln] at this
    exact this
  obtain ⟨g, o, rfl, hg, hcs⟩ := rd_cells h (by omega)
  have KB := Lib.hid hbx
  have HTO : Hid (∀ W', Below w.heap.size w W' → Calls Try.prog 22 #[.agg #[.int .i64 R, .int .i64 C, .slice (some ⟨g, o, none⟩) (R * C) ct]] W' (tlOut (tails R C (wIn C (wOf C ns)) ns).1 (tails R C (wIn C (wOf C ns)) ns).2 true W')) := Lib.hid fun W' hb =>
    weightTail_any g o R C ct ns W' (by omega) (by omega) hl (by omega) hct (by have := hb.size; omega) (fun i hi => keepC hb (hcs i (by omega)))
  unfold tbV at *
  unfold tlOut at *
  unfold BoolOut at HV
  unfold SameOut at HT
  clear h hh hv hcs hal hsm hl hln
  have hr3 : ¬ (3 : Int) < (R : Int) := by omega
  have hc3 : ¬ (3 : Int) < (C : Int) := by omega
  have hs3 : ¬ (20 : Int) < (ns.sum : Int) := by omega
  generalize (tails R C (wIn C (wOf C ns)) ns) = y at *
  generalize ns.sum = S at *
  generalize R * C = n at *
  have hz1 : (w.alloc (.cells #[.int .i64 R, .int .i64 C, .slice (some ⟨g, o, none⟩) n ct] 26)).heap.size = w.heap.size + 1 := by simp
  have k1 : (w.alloc (.cells #[.int .i64 R, .int .i64 C, .slice (some ⟨g, o, none⟩) n ct] 26)).cell? ⟨w.heap.size, 0, none⟩ = some (.int .i64 R) := by simp
  have k2 : (w.alloc (.cells #[.int .i64 R, .int .i64 C, .slice (some ⟨g, o, none⟩) n ct] 26)).cell? ⟨w.heap.size, 1, none⟩ = some (.int .i64 C) := by simp
  have k3 : (w.alloc (.cells #[.int .i64 R, .int .i64 C, .slice (some ⟨g, o, none⟩) n ct] 26)).cell? ⟨w.heap.size, 2, none⟩ = some (.slice (some ⟨g, o, none⟩) n ct) := by simp
  go_enter Try.func10, Try.ntmps10
  go_upto_region 1 with fail
  generalize World.alloc w _ = w1 at *
  go_wp2_with (first
    | (go_at_call 17; refine HV.out.mono ?_; rintro e w2 ⟨rfl, hb2⟩; have m1 := keepC hb2 k1; have m2 := keepC hb2 k2; have m3 := keepC hb2 k3; have B2 := Lib.hid (below_next KB.out hb2); clear hb2)
    | (go_at_call 23; refine (HT.out _ B2.out).mono ?_; rintro e w3 ⟨rfl, rfl⟩)
    | (go_at_call 22; refine (HTO.out _ B2.out).mono ?_; rintro e w4 ⟨rfl, hb4⟩; have B4 := Lib.hid (below_next B2.out hb4); clear hb4))
  go_ret3
  exact ⟨rfl, B4.out⟩
end Go.Proofs.Ytbpigeipjeegiaa

