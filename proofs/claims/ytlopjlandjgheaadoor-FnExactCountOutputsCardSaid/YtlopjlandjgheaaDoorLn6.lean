/-
  FnExactCountOutputs: the walk.
-/
import Derived.Test.YtlopjlandjgheaaDoorLn5
namespace Go.Proofs.YtlopjlandjgheaaDoor
open Go Go.RowKit

theorem both (s : ByteArray) : ∃ a b ok, (∀ w, Calls Tryd.prog 4 #[.string s] w (countOut a b ok w)) ∧ (∀ w mx, s.size ≤ 1048576 → w.cell? ⟨0, 0, none⟩ = some (.int .i64 mx) → Calls Tryd.prog 5 #[.string s] w (countOut a b ok w)) := by
  cases h : okB s with
  | false => exact ⟨0, 0, false, fun w => specCount_bad s w h, fun w mx hs hm => implCount_bad s w hs mx hm h⟩
  | true =>
    refine ⟨_, _, true, fun w => specCount_ok s w h, fun w mx hs hm => ?_⟩
    cases hne : s.toList.isEmpty with
    | true =>
      have hl := (nil_ok (List.isEmpty_iff.1 hne)).2
      rw [hl]
      exact implCount_nil s w hne
    | false =>
      cases he : endsB s with
      | false =>
        have := other_no (fun e => by rw [e] at hne; cases hne) he
        rw [h] at this
        cases this
      | true => exact implCount_ends s w hs mx hm hne he (of_decide_eq_true ((ends_ok he).symm.trans h))
set_option maxRecDepth 100000 in
set_option maxHeartbeats 1600000 in
theorem walk (s : ByteArray) (w : World) (mx : Int) (hm : w.cell? ⟨0, 0, none⟩ = some (.int .i64 mx)) (hl : s.size ≤ 9223372036854775807) : Calls Tryd.prog 3 #[.string s] w (fun e w' => e = .returned (.bool true) ∧ Below w.heap.size w w') := by
  obtain ⟨a, b, ok, h1, h2⟩ := both s
  have H1 := Lib.hid h1
  have H2 := Lib.hid h2
  clear h1 h2
  unfold countOut at H1 H2
  by_cases hs : s.size ≤ 1048576
  · have H2' : Hid (∀ W, Below w.heap.size w W → Calls Tryd.prog 5 #[.string s] W (fun e w' => e = .returned (.tuple #[.int .i64 a, .int .i64 b, .bool ok]) ∧ Below W.heap.size W w')) := Lib.hid fun W hW => H2.out W mx hs (keepC hW hm)
    cases ok
    all_goals
      go_enter Tryd.func3, Tryd.ntmps3
      go_wp2_with (first
        | (go_at_call 4; refine (H1.out _).mono ?_; rintro e w2 ⟨rfl, hb2⟩; have HB2 := Lib.hid hb2; clear hb2)
        | (go_at_call 5; refine (H2'.out _ HB2.out).mono ?_; rintro e w3 ⟨rfl, hb3⟩; have HB3 := Lib.hid (below_next HB2.out hb3); clear hb3))
      go_ret
      exact ⟨rfl, HB3.out⟩
  · go_enter Tryd.func3, Tryd.ntmps3
    go_wp2_with fail
    go_ret
    exact ⟨rfl, Below.refl _ _⟩
end Go.Proofs.YtlopjlandjgheaaDoor
