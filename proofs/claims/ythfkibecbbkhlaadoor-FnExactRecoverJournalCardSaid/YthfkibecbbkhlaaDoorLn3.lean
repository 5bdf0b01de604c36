/-
  spec.l08Lines.
-/
import Derived.Test.YthfkibecbbkhlaaDoorLn2
import Derived.BigQuiet
namespace Go.Proofs.YthfkibecbbkhlaaDoor
open Go Go.RowKit

theorem cutB_pos (s : ByteArray) : 1 ≤ (cutB s (s.size + 1)).1.length := by
  rw [cutB, if_pos (.inl rfl), List.length_append, List.length_singleton]
  omega
/-- all pieces but the last one, and the last one -/
def lineN (s : ByteArray) : Nat := (cutB s (s.size + 1)).1.length - 1
def pieceAt (s : ByteArray) (q : Nat) : ByteArray := (cutB s (s.size + 1)).1.getD q ByteArray.empty
def linesOut (s : ByteArray) (w : World) (e : Ending) (w' : World) : Prop :=
  ∃ g c, e = .returned (.tuple #[.slice (some ⟨g, 0, none⟩) (lineN s) c, .string (pieceAt s (lineN s))]) ∧ (∀ q, q < lineN s → w'.cell? ⟨g, q, none⟩ = some (.string (pieceAt s q))) ∧ Below w.heap.size w w'
theorem sl_cell {w : World} {base g c : Nat} {ps : List ByteArray} {q : Nat} (h : w.ownsRow base 9 1 (.slice (some ⟨g, 0, none⟩) ps.length c) ps.length (sl ps)) (hq : q < ps.length) : w.cell? ⟨g, q, none⟩ = some (.string (ps.getD q ByteArray.empty)) := by
  rw [h.cellAt q (by omega)]
  unfold sl
  rw [List.getElem?_map, List.getElem?_eq_getElem hq, List.getD_eq_getElem?_getD, List.getElem?_eq_getElem hq]
  rfl
theorem own_addr {w : World} {base n c : Nat} {A : Option Addr} {e : TypeId} {vs : List Value} (h : w.ownsRow base e 1 (.slice A n c) n vs) (hn : 1 ≤ n) : ∃ g, A = some ⟨g, 0, none⟩ ∧ n ≤ c := by
  rcases h.2 with ⟨_, h0⟩ | ⟨g, cap, cur, hv, _, _, hc, _⟩
  · omega
  · injection hv with h1 h2 h3
    exact ⟨g, h1, by omega⟩
set_option maxRecDepth 100000 in
set_option maxHeartbeats 1600000 in
theorem l08Lines_any (s : ByteArray) (w : World) (hs : s.size ≤ 16000) : Calls Tryd.prog 25 #[.string s] w (linesOut s w) := by
  have HC := Lib.hid (l01Cut_any s w hs)
  have hp := cutB_pos s
  have hl := cutB_len s (s.size + 1)
  have HP : Hid (∀ q, pieceAt s q = (cutB s (s.size + 1)).1.getD q ByteArray.empty) := Lib.hid fun q => rfl
  unfold linesOut
  unfold cutOut at HC
  have hln : lineN s = (cutB s (s.size + 1)).1.length - 1 := rfl
  generalize (cutB s (s.size + 1)).1 = ps at *
  generalize lineN s = m at *
  have hm : ps.length = m + 1 := by omega
  rw [hm] at HC
  have hm2 : m ≤ 16000 := by omega
  have HM := Lib.hid hm
  clear hm hln hp hl
  go_enter Tryd.func25, Tryd.ntmps25
  go_wp2_with (go_at_call 30; refine HC.out.mono ?_; rintro e w2 ⟨A, c, rfl, ho, hb⟩; have HB := Lib.hid hb; have HO := Lib.hid ho; have hA := own_addr ho (by omega); obtain ⟨g, rfl, hmc⟩ := hA; clear ho hb)
  have hc2 : w2.cell? ⟨g, m, none⟩ = some (.string (pieceAt s m)) := by
    rw [HP.out]
    have := HO.out
    rw [← HM.out] at this
    exact sl_cell this (by rw [HM.out]; omega)
  have HCE : Hid (∀ q, q < m → w2.cell? ⟨g, q, none⟩ = some (.string (pieceAt s q))) := Lib.hid fun q hq => by
    rw [HP.out]
    have := HO.out
    rw [← HM.out] at this
    exact sl_cell this (by rw [HM.out]; omega)
  go_quiet (fail)
  go_wp2_with fail
  refine bodyPost_ret (v := .tuple #[.slice (some ⟨g, 0, none⟩) m c, .string (pieceAt s m)]) (by simp [results, Tryd.results25, go_sem]) rfl ⟨g, c, rfl, fun q hq => HCE.out q hq, below_drewN HB.out _⟩
end Go.Proofs.YthfkibecbbkhlaaDoor
