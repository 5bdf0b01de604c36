/-
  spec.l04Order: the reference looks whether a number has been seen.
-/
import Derived.Test.YtadkpmmbnenemaaGreatDoorOr2
import Derived.Deep.OwnRows
namespace Go.Proofs.YtadkpmmbnenemaaGreatDoor
open Go Go.RowKit

theorem info_bool : (Tryz.prog.info? 4).map (fun i => (i.zero, i.size, i.bytes)) = some (some (.bool false), 1, 1) := by kernel_rfl
theorem l04Count_any (n : Int) (w : World) : Calls Tryz.prog 29 #[.int .i64 n] w (fun e w' => e = .returned (.bool (inB n 1 64)) ∧ w = w') := by
  have H := Lib.hid (l00In_any n 1 64 w)
  generalize inB n 1 64 = r at *
  go_enter Tryz.func29, Tryz.ntmps29
  go_wp2_with (go_at_call 50; refine H.out.mono ?_; rintro e w1 ⟨rfl, rfl⟩)
  go_ret
  exact ⟨rfl, rfl⟩
theorem seen_succ {xs : List Int} {i : Nat} (hi : i < xs.length) (q : Int) : (xs.take (i + 1)).contains q = (if q = xs[i] then true else (xs.take i).contains q) := by
  rw [List.take_succ_eq_append_getElem hi]
  generalize xs.take i = l
  generalize xs[i] = x
  by_cases e : q = x
  · rw [if_pos e]; simp [e]
  · rw [if_neg e]; simp [e]
theorem ifs (q m : Nat) (b : Bool) : (if q = m then Value.bool true else Value.bool b) = Value.bool (if (q : Int) = (m : Int) then true else b) := by
  by_cases e : q = m
  · rw [if_pos e, if_pos (by omega)]
  · rw [if_neg e, if_neg (by omega)]
set_option maxRecDepth 100000 in
set_option maxHeartbeats 1600000 in
theorem l04Order_any (A : Option Addr) (xs : List Int) (c : Nat) (w : World) (hx : xs.length ≤ 9223372036854775807) (h : Rd w w.heap.size A (il xs)) : Calls Tryz.prog 30 #[.slice A xs.length c] w (BoolOut (ordB xs) w) := by
  unfold BoolOut
  have HZ := Lib.hid fun w => l04Count_any xs.length w
  cases hs : inB xs.length 1 64 with
  | false =>
    have HO : Hid (ordB xs = false) := Lib.hid (by unfold ordB; rw [hs]; rfl)
    rw [hs] at HZ
    clear hs h
    go_enter Tryz.func30, Tryz.ntmps30
    go_wp2_with (go_at_call 29; refine (HZ.out _).mono ?_; rintro e w1 ⟨rfl, rfl⟩)
    go_ret
    rw [HO.out]
    exact ⟨rfl, Below.refl _ _⟩
  | true =>
    obtain ⟨b1, b2⟩ := inB_of hs
    have HO : Hid (ordB xs = okTo xs xs.length xs.length) := Lib.hid (by unfold ordB; rw [hs]; rfl)
    rw [hs] at HZ
    obtain ⟨i0, hi0, hz0, hz1, hz2⟩ := info_parts info_bool
    have hmk := run_make_row (P := Tryz.prog) 59 4 i0 (.bool false) Tryz.underlying59 hi0 hz0 hz1 rfl .i64 .i64 xs.length (by rw [hz2]; omega) (by omega)
    have HI := Lib.hid fun n a b w => l00In_any n a b w
    have HR := Lib.hid h
    have HOK : Hid (∀ i, okTo xs xs.length (i + 1) = (okTo xs xs.length i && (decide (0 ≤ xs.getD i 0 ∧ xs.getD i 0 ≤ (xs.length : Int) - 1) && !(xs.take i).contains (xs.getD i 0)))) := Lib.hid fun i => rfl
    have HFA : Hid (∀ i, i < xs.length → okTo xs xs.length (i + 1) = false → okTo xs xs.length xs.length = false) := Lib.hid fun i hi hf => okTo_false hf hi
    have HSE := Lib.hid fun i (hi : i < xs.length) q => seen_succ hi q
    clear hs h hi0 hz0 hz1 hz2
    go_enter Tryz.func30, Tryz.ntmps30
    go_wp2_with (go_at_call 29; refine (HZ.out _).mono ?_; rintro e w1 ⟨rfl, rfl⟩)
    generalize hW1 : World.alloc w _ = w1
    have r1 : w1.rowIs w.heap.size 4 xs.length (fun _ => .bool false) := by rw [← hW1]; exact World.rowIs_made w (.bool false) xs.length _
    have q1 : Below w.heap.size w w1 := by rw [← hW1]; exact below_al (Below.refl _ _) _
    have R1 := Lib.hid r1
    have Q1 := Lib.hid q1
    clear hW1 r1 q1
    go_loopw [4] (fun iv wr => ∃ i : Nat, i ≤ xs.length ∧ iv = .int .i64 i ∧ okTo xs xs.length i = true ∧ wr.rowIs w.heap.size 4 xs.length (fun q => .bool ((xs.take i).contains (q : Int))) ∧ Below w.heap.size w wr) (fun iv _ => xs.length - (intOf iv).toNat)
    case atStart => exact ⟨0, Nat.zero_le _, rfl, rfl, R1.out.congr fun q _ => by simp, Q1.out⟩
    case round =>
      obtain ⟨i, hi, rfl, hok, hrow, hbw⟩ := hrel
      rename World => wr
      have ROW := Lib.hid hrow
      have BW := Lib.hid hbw
      have OK := Lib.hid hok
      clear hrow hbw hok R1 Q1
      by_cases hlt : i < xs.length
      · obtain ⟨b, o, rfl, hb, hc⟩ := (HR.out.at_ BW.out).ilAt hlt
        have hoks := HOK.out i
        have HSEi := Lib.hid fun q => HSE.out i hlt q
        have HFAi := HFA.out i hlt
        rw [OK.out, Bool.true_and, List.getD_eq_getElem?_getD, List.getElem?_eq_getElem hlt, Option.getD_some] at hoks
        have HL := Lib.hid hlt
        have hlt' : (i : Int) < (xs.length : Int) := by omega
        generalize xs[i] = x at *
        by_cases hin : 0 ≤ x ∧ x ≤ (xs.length : Int) - 1
        · obtain ⟨m, rfl⟩ := Int.eq_ofNat_of_zero_le hin.1
          have hm : m < xs.length := by omega
          have hm' : (m : Int) < (xs.length : Int) := by omega
          have hcm := ROW.out.cell hm
          have hfm := ROW.out.frozen m
          have HIi := Lib.hid fun w => HI.out m 0 ((xs.length : Int) - 1) w
          rw [show inB (m : Int) 0 ((xs.length : Int) - 1) = true from decide_eq_true hin] at HIi
          rw [decide_eq_true hin, Bool.true_and] at hoks
          cases hse : (xs.take i).contains (m : Int) with
          | true =>
            have HF := Lib.hid (HFAi (by rw [hoks, hse]; rfl))
            rw [hse] at hcm
            clear hoks hse HFAi HSEi hin
            go_wp2_with (go_at_call 50; refine (HIi.out _).mono ?_; rintro e w2 ⟨rfl, rfl⟩)
            go_ret
            rw [HO.out, HF.out]
            exact ⟨rfl, BW.out⟩
          | false =>
            have HT : Hid (okTo xs xs.length (i + 1) = true) := Lib.hid (by rw [hoks, hse]; rfl)
            rw [hse] at hcm
            clear hoks hse HFAi hin
            go_wp2_with (go_at_call 50; refine (HIi.out _).mono ?_; rintro e w2 ⟨rfl, rfl⟩)
            go_roundw
            case rel => exact ⟨i + 1, by omega, by go_num, HT.out, (ROW.out.set m _).congr (fun q _ => by rw [HSEi.out]; exact ifs q m _), below_set BW.out _ _ (Nat.le_refl _)⟩
            case measure => simp [intOf]; omega
        · have HIi := Lib.hid fun w => HI.out x 0 ((xs.length : Int) - 1) w
          rw [show inB x 0 ((xs.length : Int) - 1) = false from decide_eq_false hin] at HIi
          rw [decide_eq_false hin, Bool.false_and] at hoks
          have HF := Lib.hid (HFAi hoks)
          clear hoks HFAi HSEi hin
          go_wp2_with (go_at_call 50; refine (HIi.out _).mono ?_; rintro e w2 ⟨rfl, rfl⟩)
          go_ret
          rw [HO.out, HF.out]
          exact ⟨rfl, BW.out⟩
      · obtain rfl : i = xs.length := by omega
        go_wp2_with fail
        go_ret
        rw [HO.out, OK.out]
        exact ⟨rfl, BW.out⟩
end Go.Proofs.YtadkpmmbnenemaaGreatDoor
