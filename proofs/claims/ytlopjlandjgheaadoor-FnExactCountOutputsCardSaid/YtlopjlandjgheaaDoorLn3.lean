/-
  spec.l08Lines, spec.CountOutputs.
-/
import Derived.Test.YtlopjlandjgheaaDoorLn2
import Derived.BigQuiet
namespace Go.Proofs.YtlopjlandjgheaaDoor
open Go Go.RowKit

theorem cutB_pos (s : ByteArray) : 1 ≤ (cutB s (s.size + 1)).1.length := by
  rw [cutB, if_pos (.inl rfl), List.length_append, List.length_singleton]
  omega
/-- all pieces but the last one, and the last one -/
def lineN (s : ByteArray) : Nat := (cutB s (s.size + 1)).1.length - 1
def pieceAt (s : ByteArray) (q : Nat) : ByteArray := (cutB s (s.size + 1)).1.getD q ByteArray.empty
def linesOut (s : ByteArray) (w : World) (e : Ending) (w' : World) : Prop :=
  ∃ g c, e = .returned (.tuple #[.slice (some ⟨g, 0, none⟩) (lineN s) c, .string (pieceAt s (lineN s))]) ∧ (∀ q, q < lineN s → w'.cell? ⟨g, q, none⟩ = some (.string (pieceAt s q))) ∧ Below w.heap.size w w'
theorem sl_cell {w : World} {base g c : Nat} {ps : List ByteArray} {q : Nat} (h : w.ownsRow base 9 1 (.slice (some ⟨g, 0, none⟩) ps.length c) ps.length (sl ps)) (hq : q < ps.length) : w.cell? ⟨g, q, none⟩ = some (.string (ps.getD q ByteArray.empty)) := by
  rw [h.cellAt q (by omega)]
  unfold sl
  rw [List.getElem?_map, List.getElem?_eq_getElem hq, List.getD_eq_getElem?_getD, List.getElem?_eq_getElem hq]
  rfl
theorem own_addr {w : World} {base n c : Nat} {A : Option Addr} {e : TypeId} {vs : List Value} (h : w.ownsRow base e 1 (.slice A n c) n vs) (hn : 1 ≤ n) : ∃ g, A = some ⟨g, 0, none⟩ ∧ n ≤ c := by
  rcases h.2 with ⟨_, h0⟩ | ⟨g, cap, cur, hv, _, _, hc, _⟩
  · omega
  · injection hv with h1 h2 h3
    exact ⟨g, h1, by omega⟩
set_option maxRecDepth 100000 in
set_option maxHeartbeats 1600000 in
theorem l08Lines_any (s : ByteArray) (w : World) (hs : s.size ≤ 16000) : Calls Tryd.prog 6 #[.string s] w (linesOut s w) := by
  have HC := Lib.hid (l01Cut_any s w hs)
  have hp := cutB_pos s
  have hl := cutB_len s (s.size + 1)
  have HP : Hid (∀ q, pieceAt s q = (cutB s (s.size + 1)).1.getD q ByteArray.empty) := Lib.hid fun q => rfl
  unfold linesOut
  unfold cutOut at HC
  have hln : lineN s = (cutB s (s.size + 1)).1.length - 1 := rfl
  generalize (cutB s (s.size + 1)).1 = ps at *
  generalize lineN s = m at *
  have hm : ps.length = m + 1 := by omega
  rw [hm] at HC
  have hm2 : m ≤ 16000 := by omega
  have HM := Lib.hid hm
  clear hm hln hp hl
  go_enter Tryd.func6, Tryd.ntmps6
  go_wp2_with (go_at_call 8; refine HC.out.mono ?_; rintro e w2 ⟨A, c, rfl, ho, hb⟩; have HB := Lib.hid hb; have HO := Lib.hid ho; have hA := own_addr ho (by omega); obtain ⟨g, rfl, hmc⟩ := hA; clear ho hb)
  have hc2 : w2.cell? ⟨g, m, none⟩ = some (.string (pieceAt s m)) := by
    rw [HP.out]
    have := HO.out
    rw [← HM.out] at this
    exact sl_cell this (by rw [HM.out]; omega)
  have HCE : Hid (∀ q, q < m → w2.cell? ⟨g, q, none⟩ = some (.string (pieceAt s q))) := Lib.hid fun q hq => by
    rw [HP.out]
    have := HO.out
    rw [← HM.out] at this
    exact sl_cell this (by rw [HM.out]; omega)
  go_quiet (fail)
  go_wp2_with fail
  refine bodyPost_ret (v := .tuple #[.slice (some ⟨g, 0, none⟩) m c, .string (pieceAt s m)]) (by simp [results, Tryd.results6, go_sem]) rfl ⟨g, c, rfl, fun q hq => HCE.out q hq, below_drewN HB.out _⟩
/-- a wrong line -/
def wrongB (p : ByteArray) : Bool := p.toList == [110, 111] || p.toList == [119, 104, 97, 116]
/-- wrong lines among the first -/
def wrongN (f : Nat → ByteArray) : Nat → Nat
  | 0 => 0
  | q + 1 => if wrongB (f q) then wrongN f q + 1 else wrongN f q
theorem wrong_le (f : Nat → ByteArray) : ∀ q, wrongN f q ≤ q := by
  intro q
  induction q with
  | zero => exact Nat.le_refl _
  | succ q ih =>
    rw [wrongN]
    split <;> omega
def okB (s : ByteArray) : Bool := decide (s.size ≤ 16000) && (pieceAt s (lineN s)).toList.isEmpty
def countOut (a b : Int) (ok : Bool) (w : World) (e : Ending) (w' : World) : Prop := e = .returned (.tuple #[.int .i64 a, .int .i64 b, .bool ok]) ∧ Below w.heap.size w w'
set_option maxRecDepth 100000 in
set_option maxHeartbeats 1600000 in
theorem specCount_bad (s : ByteArray) (w : World) (h : okB s = false) : Calls Tryd.prog 4 #[.string s] w (countOut 0 0 false w) := by
  by_cases hs : s.size ≤ 16000
  · have HL := Lib.hid (l08Lines_any s w hs)
    have hp : (pieceAt s (lineN s)).toList.isEmpty = false := by
      unfold okB at h
      rw [decide_eq_true hs, Bool.true_and] at h
      exact h
    unfold linesOut at HL
    clear h
    generalize pieceAt s (lineN s) = p at *
    go_enter Tryd.func4, Tryd.ntmps4
    go_wp2_with (go_at_call 6; refine HL.out.mono ?_; rintro e w2 ⟨g, c, rfl, ho, hb⟩; have HB := Lib.hid hb; clear ho hb)
    refine bodyPost_ret (v := .tuple #[.int .i64 0, .int .i64 0, .bool false]) (by simp [results, Tryd.results4, go_sem]) rfl ⟨rfl, HB.out⟩
  · go_enter Tryd.func4, Tryd.ntmps4
    go_wp2_with fail
    refine bodyPost_ret (v := .tuple #[.int .i64 0, .int .i64 0, .bool false]) (by simp [results, Tryd.results4, go_sem]) rfl ⟨rfl, Below.refl _ _⟩
set_option maxRecDepth 100000 in
set_option maxHeartbeats 1600000 in
theorem specCount_ok (s : ByteArray) (w : World) (h : okB s = true) : Calls Tryd.prog 4 #[.string s] w (countOut (wrongN (pieceAt s) (lineN s)) ((lineN s : Int) - wrongN (pieceAt s) (lineN s)) true w) := by
  unfold okB at h
  rw [Bool.and_eq_true] at h
  obtain ⟨h1, hp⟩ := h
  have hs : s.size ≤ 16000 := of_decide_eq_true h1
  have HL := Lib.hid (l08Lines_any s w hs)
  have hm : lineN s ≤ 16001 := by
    have := cutB_len s (s.size + 1)
    unfold lineN
    omega
  have HW : Hid (∀ q, wrongN (pieceAt s) (q + 1) = if wrongB (pieceAt s q) then wrongN (pieceAt s) q + 1 else wrongN (pieceAt s) q) := Lib.hid fun q => rfl
  have HWL : Hid (∀ q, wrongN (pieceAt s) q ≤ q) := Lib.hid (wrong_le _)
  have HWB : Hid (∀ q, wrongB (pieceAt s q) = ((pieceAt s q).toList == [110, 111] || (pieceAt s q).toList == [119, 104, 97, 116])) := Lib.hid fun q => rfl
  unfold linesOut at HL
  clear h1
  generalize lineN s = m at *
  go_enter Tryd.func4, Tryd.ntmps4
  go_wp2_with (go_at_call 6; refine HL.out.mono ?_; rintro e w2 ⟨g, c, rfl, ho, hb⟩; have HB := Lib.hid hb; have HO := Lib.hid ho; clear ho hb)
  go_loopw [7, 8] (fun bv iv wr => ∃ q : Nat, q ≤ m ∧ iv = .int .i64 q ∧ bv = .int .i64 (wrongN (pieceAt s) q : Nat) ∧ Below w2.heap.size w2 wr) (fun _ iv _ => m - (intOf iv).toNat)
  case atStart => exact ⟨0, Nat.zero_le _, rfl, rfl, Below.refl _ _⟩
  case round =>
    obtain ⟨q, hq, rfl, rfl, hbw⟩ := hrel
    rename World => wr
    have HBW := Lib.hid hbw
    have hwl := HWL.out q
    by_cases hqm : q < m
    · have hc := keepC hbw (HO.out q hqm)
      have hw1 := HWB.out q
      have HWq := Lib.hid (HW.out q)
      clear hbw
      generalize wrongN (pieceAt s) q = k at *
      generalize pieceAt s q = p at *
      cases h1 : (p.toList == [110, 111]) with
      | true =>
        rw [h1, Bool.true_or] at hw1
        rw [hw1] at HWq
        go_wp2_with fail
        go_roundw
        case rel => exact ⟨q + 1, by omega, by go_num, by rw [HWq.out]; first | go_num | rfl, HBW.out⟩
        case measure => first | (simp [intOf]; done) | (simp [intOf]; omega)
      | false =>
        rw [h1, Bool.false_or] at hw1
        cases h2 : (p.toList == [119, 104, 97, 116]) with
        | true =>
          rw [h2] at hw1
          rw [hw1] at HWq
          go_wp2_with fail
          go_roundw
          case rel => exact ⟨q + 1, by omega, by go_num, by rw [HWq.out]; first | go_num | rfl, HBW.out⟩
          case measure => first | (simp [intOf]; done) | (simp [intOf]; omega)
        | false =>
          rw [h2] at hw1
          rw [hw1] at HWq
          go_wp2_with fail
          go_roundw
          case rel => exact ⟨q + 1, by omega, by go_num, by rw [HWq.out]; rfl, HBW.out⟩
          case measure => first | (simp [intOf]; done) | (simp [intOf]; omega)
    · obtain rfl : q = m := by omega
      go_wp2_with fail
      refine bodyPost_ret (v := .tuple #[.int .i64 (wrongN (pieceAt s) q : Nat), .int .i64 ((q : Int) - (wrongN (pieceAt s) q : Nat)), .bool true]) (by simp [results, Tryd.results4, go_sem]) rfl ⟨rfl, below_next HB.out HBW.out⟩
end Go.Proofs.YtlopjlandjgheaaDoor
