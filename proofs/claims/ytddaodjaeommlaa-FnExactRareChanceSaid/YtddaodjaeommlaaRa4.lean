/-
  spec.l07Levels, spec.l07Can.
-/
import Derived.Test.YtddaodjaeommlaaRa3
import Derived.BigQuiet
namespace Go.Proofs.Ytddaodjaeommlaa
open Go Go.RowKit Ieee

set_option maxRecDepth 100000 in
set_option maxHeartbeats 1600000 in
theorem l07Levels_any (b : Nat) (side i : Int) (ls : List Int) (B : Option Addr) (d : Nat) (w : World) (hs0 : 1 ≤ side ∧ side ≤ 12) (hl : ls.length ≤ 9223372036854775807) (h0 : w.cell? ⟨b, 0, none⟩ = some (.int .i64 side)) (h' : Rd w w.heap.size B (il ls)) :
    Calls Try.prog 162 #[.pointer (some ⟨b, 0, none⟩), .int .i64 i, .slice B ls.length d] w (Quiet (.bool (sizeB ls.length && levB side i ls)) w) := by
  have HLY : Hid ((∀ q, q < ls.length → levAt side i ls q = true) → levB side i ls = true) := Lib.hid levB_yes
  have HLN : Hid (∀ j, j < ls.length → levAt side i ls j = false → levB side i ls = false) := Lib.hid fun j h1 h2 => levB_no h1 h2
  have HRI := Lib.hid h'
  cases hsz : sizeB ls.length with
  | false =>
    have hc := of_decide_eq_false hsz
    have hcase : ls.length < 1 ∨ 8 < ls.length := by omega
    clear hsz hc HLY HLN HRI h'
    rw [Bool.false_and]
    generalize ls.length = L at *
    rcases hcase with hL | hL
    all_goals
      go_enter Try.func162, Try.ntmps162
      go_wp2_with fail
      go_ret
      exact .mk0
  | true =>
    obtain ⟨hL1, hL2⟩ := of_decide_eq_true hsz
    clear hsz h'
    rw [Bool.true_and]
    go_enter Try.func162, Try.ntmps162
    go_wp2_with fail
    go_loopw [7, 8, 20] (fun bv _ jv wr => ∃ j m : Nat, j ≤ ls.length ∧ jv = .int .i64 j ∧ bv = .int .i64 (prevL i ls j) ∧ (∀ q, q < j → levAt side i ls q = true) ∧ wr = w.drewN m) (fun _ _ jv _ => ls.length - (intOf jv).toNat)
    case atStart => exact ⟨0, 0, Nat.zero_le _, rfl, rfl, (fun q hq => by omega), rfl⟩
    case round =>
      obtain ⟨j, m, hj, rfl, rfl, hall, rfl⟩ := hrel
      have HA := Lib.hid hall
      by_cases hjl : j < ls.length
      · obtain ⟨bb, off, rfl, hbb, hcl⟩ := HRI.out.ilAt hjl
        have hg1 : ls[j] = ls.getD j 0 := by rw [List.getD_eq_getElem?_getD, List.getElem?_eq_getElem hjl]; rfl
        have HLA : Hid (levAt side i ls j = decide (prevL i ls j < ls.getD j 0 ∧ ls.getD j 0 < side)) := Lib.hid rfl
        have HPL : Hid (prevL i ls (j + 1) = ls.getD j 0) := Lib.hid rfl
        rw [hg1] at hcl
        have HLNj := Lib.hid (HLN.out j hjl)
        clear hall hg1
        generalize ls.getD j 0 = l at *
        generalize prevL i ls j = p at *
        by_cases hpl : p < l
        · by_cases hs : l < side
          · have HN2 : Hid (∀ q, q < j + 1 → levAt side i ls q = true) := Lib.hid fun q hq => by
              rcases Nat.lt_or_ge q j with hl | hg
              · exact HA.out q hl
              · obtain rfl : q = j := by omega
                rw [HLA.out]
                exact decide_eq_true ⟨hpl, hs⟩
            have hd1 : decide (l ≤ p) = false := decide_eq_false (by omega)
            have hd2 : decide (side ≤ l) = false := decide_eq_false (by omega)
            go_wp2_with fail
            go_quiet (fail)
            go_wp2_with fail
            go_roundw
            case rel => exact ⟨j + 1, _, by omega, by go_num, by rw [HPL.out], HN2.out, rfl⟩
            case measure => simp [intOf]; omega
          · have HF := Lib.hid (HLNj.out (by rw [HLA.out]; exact decide_eq_false fun hh => hs hh.2))
            have hd1 : decide (l ≤ p) = false := decide_eq_false (by omega)
            have hd2 : decide (side ≤ l) = true := decide_eq_true (by omega)
            go_wp2_with fail
            go_quiet (fail)
            go_wp2_with fail
            go_ret
            rw [HF.out]
            exact ⟨rfl, m + nq, World.drewN_drewN ..⟩
        · have HF := Lib.hid (HLNj.out (by rw [HLA.out]; exact decide_eq_false fun hh => hpl hh.1))
          have hd1 : decide (l ≤ p) = true := decide_eq_true (by omega)
          go_wp2_with fail
          go_quiet (fail)
          go_wp2_with fail
          go_ret
          rw [HF.out]
          exact ⟨rfl, m + nq, World.drewN_drewN ..⟩
      · obtain rfl : j = ls.length := by omega
        have HF := Lib.hid (HLY.out HA.out)
        clear hall
        go_wp2_with fail
        go_ret
        rw [HF.out]
        exact .mk _
set_option maxRecDepth 100000 in
set_option maxHeartbeats 1600000 in
theorem l07Can_any (p b : Nat) (k a e side i walks : Int) (ls : List Int) (A : Option Addr) (xs : List Nat) (c : Nat) (B : Option Addr) (d : Nat) (w : World) (hb0 : 0 ≤ e ∧ e < 18446744073709551616) (hx : xs.length ≤ 9223372036854775807) (hl : ls.length ≤ 9223372036854775807) (hsd : SdAt w p k a e)
    (h0 : w.cell? ⟨b, 0, none⟩ = some (.int .i64 side)) (h1 : w.cell? ⟨b, 1, none⟩ = some (.slice A xs.length c)) (h : Rd w w.heap.size A (fl xs)) (h' : Rd w w.heap.size B (il ls)) :
    Calls Try.prog 139 #[.pointer (some ⟨p, 0, none⟩), .pointer (some ⟨b, 0, none⟩), .int .i64 i, .slice B ls.length d, .int .i64 walks] w (Quiet (.bool (rareB k a e side xs i ls walks)) w) := by
  have HS := Lib.hid (l02Is_any p k a e hb0 w hsd)
  have HT := Lib.hid (l07State_any b side i A xs c w hx h0 h1 h)
  have HW := Lib.hid fun w => l00In_any walks 1 64 w
  have HL := Lib.hid fun hs m => l07Levels_any b side i ls B d (w.drewN m) hs hl h0 h'
  have HSIDE : Hid (validB side xs = true → 1 ≤ side ∧ side ≤ 12) := Lib.hid fun hv => by
    obtain ⟨n, hn, h1, h2, -⟩ := validB_facts hv
    omega
  have HR : Hid (rareB k a e side xs i ls walks = (seedB k a e && ((validB side xs && stateB side i) && ((sizeB ls.length && levB side i ls) && inB walks 1 64)))) := Lib.hid (by
    unfold rareB isrB
    cases seedB k a e <;> cases validB side xs <;> cases stateB side i <;> cases sizeB ls.length <;> cases levB side i ls <;> cases inB walks 1 64 <;> rfl)
  rw [HR.out]
  clear hb0 hx hl hsd h0 h1 h h' HR
  generalize rareB k a e side xs i ls walks = r at *
  generalize inB walks 1 64 = d4 at *
  generalize (sizeB ls.length && levB side i ls) = d3 at *
  generalize seedB k a e = d1 at *
  generalize validB side xs = d0 at *
  generalize stateB side i = d2 at *
  cases d1 with
  | false =>
    go_enter Try.func139, Try.ntmps139
    go_wp2_with (go_at_call 124; refine HS.out.mono ?_; rintro e w1 ⟨rfl, rfl⟩)
    go_ret
    exact .mk0
  | true =>
    cases d0 with
    | false =>
      go_enter Try.func139, Try.ntmps139
      go_wp2_with (first
        | (go_at_call 124; refine HS.out.mono ?_; rintro e w1 ⟨rfl, rfl⟩)
        | (go_at_call 125; refine HT.out.mono ?_; rintro e w1 ⟨rfl, m, rfl⟩))
      go_ret
      exact .mk _
    | true =>
      have HLs := Lib.hid (HL.out (HSIDE.out rfl))
      cases d2 with
      | false =>
        go_enter Try.func139, Try.ntmps139
        go_wp2_with (first
          | (go_at_call 124; refine HS.out.mono ?_; rintro e w1 ⟨rfl, rfl⟩)
          | (go_at_call 125; refine HT.out.mono ?_; rintro e w1 ⟨rfl, m, rfl⟩))
        go_ret
        exact .mk _
      | true =>
        cases d3 with
        | false =>
          go_enter Try.func139, Try.ntmps139
          go_wp2_with (first
            | (go_at_call 124; refine HS.out.mono ?_; rintro e w1 ⟨rfl, rfl⟩)
            | (go_at_call 125; refine HT.out.mono ?_; rintro e w1 ⟨rfl, m, rfl⟩)
            | (go_at_call 162; refine (HLs.out m).mono ?_; rintro e w1 ⟨rfl, m2, rfl⟩))
          go_ret
          exact ⟨rfl, _, rfl⟩
        | true =>
          go_enter Try.func139, Try.ntmps139
          go_wp2_with (first
            | (go_at_call 124; refine HS.out.mono ?_; rintro e w1 ⟨rfl, rfl⟩)
            | (go_at_call 125; refine HT.out.mono ?_; rintro e w1 ⟨rfl, m, rfl⟩)
            | (go_at_call 162; refine (HLs.out m).mono ?_; rintro e w1 ⟨rfl, m2, rfl⟩)
            | (go_at_call 101; refine (HW.out _).mono ?_; rintro e w1 ⟨rfl, m3, rfl⟩))
          go_ret
          exact ⟨retB (by simp), _, rfl⟩
end Go.Proofs.Ytddaodjaeommlaa
