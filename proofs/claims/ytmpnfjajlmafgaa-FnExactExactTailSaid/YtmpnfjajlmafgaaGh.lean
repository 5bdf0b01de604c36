/-
  spec.ExactTail, where the table does not serve.
-/
import Derived.Test.YtmpnfjajlmafgaaGd
namespace Go.Proofs.Ytmpnfjajlmafgaa
open Go Go.RowKit

theorem tot_of {r l : Int} {xs : List Int} (h : tabB r l xs = true) : totV xs = .tuple #[.int .i64 (sumI xs xs.length), .bool true] := by
  have ha := (tabB_all h).1
  unfold tabB at h
  simp only [Bool.and_eq_true, decide_eq_true_eq] at h
  have hs := inB_of h.2
  unfold totV
  rw [ha, decide_eq_true hs.2]
  rfl
set_option maxRecDepth 100000 in
set_option maxHeartbeats 1600000 in
theorem specExactTail_bad (r l : Int) (A : Option Addr) (xs : List Int) (c : Nat) (w : World) (hx : xs.length ≤ 9223372036854775807) (h : Rd w w.heap.size A (il xs)) (hb : exB r l xs = false) : Calls Try.prog 16 #[tbV r l A xs.length c] w (tlOut 0 0 false w) := by
  have hbx := below_al (Below.refl w.heap.size w) (.cells #[.int .i64 r, .int .i64 l, .slice A xs.length c] 28)
  have HV := Lib.hid (l06Is_any w.heap.size r l A xs c _ hx tbAt_box (h.at_ hbx))
  have HTT : Hid (tabB r l xs = true → ∀ W, Below w.heap.size w W → Calls Try.prog 38 #[.slice A xs.length c] W (SameOut (.tuple #[.int .i64 (sumI xs xs.length), .bool true]) W)) := Lib.hid fun ht W hW => by
    rw [← tot_of ht]
    exact l06Total_any A xs c W (by have := (tabB_all ht).2; omega) (h.at_ hW)
  have HNO : Hid (tabB r l xs = true → r ≤ 3 → l ≤ 3 → ¬ sumI xs xs.length ≤ 20) := Lib.hid fun h1 h2 h3 h4 => by
    unfold exB at hb
    rw [h1, decide_eq_true h2, decide_eq_true h3, decide_eq_true h4] at hb
    cases hb
  have KB := Lib.hid hbx
  have k := Lib.hid (tbAt_box (w := w) (r := r) (l := l) (A := A) (n := xs.length) (c := c))
  unfold tbV tlOut at *
  unfold BoolOut at HV
  unfold SameOut at HTT
  clear h hb
  generalize sumI xs xs.length = S at *
  generalize tabB r l xs = t at *
  generalize xs.length = n at *
  cases t with
  | false =>
    clear HNO HTT
    go_enter Try.func16, Try.ntmps16
    go_upto_region 1 with fail
    generalize World.alloc w _ = w1 at *
    go_wp2_with (go_at_call 37; refine HV.out.mono ?_; rintro e w2 ⟨rfl, hb2⟩; obtain ⟨m1, m2, m3⟩ := k.out.keep hb2; have B2 := Lib.hid (below_next KB.out hb2); clear hb2)
    go_ret3
    exact ⟨rfl, B2.out⟩
  | true =>
    by_cases h1 : r ≤ 3
    · by_cases h2 : l ≤ 3
      · have h3 := HNO.out rfl h1 h2
        have HT := Lib.hid (HTT.out rfl)
        clear HNO HTT
        have h1' : ¬ 3 < r := by omega
        have h2' : ¬ 3 < l := by omega
        have h3' : 20 < S := by omega
        go_enter Try.func16, Try.ntmps16
        go_upto_region 1 with fail
        generalize World.alloc w _ = w1 at *
        go_wp2_with (first
          | (go_at_call 37; refine HV.out.mono ?_; rintro e w2 ⟨rfl, hb2⟩; obtain ⟨m1, m2, m3⟩ := k.out.keep hb2; have B2 := Lib.hid (below_next KB.out hb2); clear hb2)
          | (go_at_call 38; refine (HT.out _ B2.out).mono ?_; rintro e w3 ⟨rfl, rfl⟩))
        go_ret3
        exact ⟨rfl, B2.out⟩
      · have h2' : 3 < l := by omega
        have h1' : ¬ 3 < r := by omega
        clear HNO HTT
        go_enter Try.func16, Try.ntmps16
        go_upto_region 1 with fail
        generalize World.alloc w _ = w1 at *
        go_wp2_with (go_at_call 37; refine HV.out.mono ?_; rintro e w2 ⟨rfl, hb2⟩; obtain ⟨m1, m2, m3⟩ := k.out.keep hb2; have B2 := Lib.hid (below_next KB.out hb2); clear hb2)
        go_ret3
        exact ⟨rfl, B2.out⟩
    · have h1' : 3 < r := by omega
      clear HNO HTT
      go_enter Try.func16, Try.ntmps16
      go_upto_region 1 with fail
      generalize World.alloc w _ = w1 at *
      go_wp2_with (go_at_call 37; refine HV.out.mono ?_; rintro e w2 ⟨rfl, hb2⟩; obtain ⟨m1, m2, m3⟩ := k.out.keep hb2; have B2 := Lib.hid (below_next KB.out hb2); clear hb2)
      go_ret3
      exact ⟨rfl, B2.out⟩
end Go.Proofs.Ytmpnfjajlmafgaa
