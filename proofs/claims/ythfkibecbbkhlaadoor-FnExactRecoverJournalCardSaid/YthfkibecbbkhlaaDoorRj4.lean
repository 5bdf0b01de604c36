/-
  Journals that are recovered: spec.RecoverJournal, impl.RecoverJournal.
-/
import Derived.Test.YthfkibecbbkhlaaDoorRj3
namespace Go.Proofs.YthfkibecbbkhlaaDoor
open Go Go.RowKit

/-- how many texts a journal gives -/
def rjN (s : ByteArray) (N : Nat) : Nat := if 16000 < s.size then 0 else N
def rjX (s : ByteArray) (N : Nat) : List ByteArray := if 16000 < s.size then [] else outR s N
def rjO (s : ByteArray) (N : Nat) : Int := if 16000 < s.size then 0 else (offP s N : Nat)
def RjOut (s : ByteArray) (N : Nat) (w : World) (e : Ending) (w' : World) : Prop :=
  ∃ A c, e = .returned (.tuple #[.slice A (rjN s N) c, .int .i64 (rjO s N), .bool (decide (s.size ≤ 16000))]) ∧ w'.ownsRow w.heap.size 9 1 (.slice A (rjN s N) c) (rjN s N) (sl (rjX s N)) ∧ Below w.heap.size w w'
set_option maxHeartbeats 800000 in
theorem specRecover_any (s : ByteArray) (N : Nat) (hN : isStop s N) (w : World) (hx : s.size ≤ 9223372036854775807) :
    Calls Tryd.prog 10 #[.string s] w (RjOut s N w) := by
  have HR := Lib.hid fun h => l08Recover_any s N hN w h
  unfold RjOut rjN rjX rjO
  unfold RecOut at HR
  go_enter Tryd.func10, Tryd.ntmps10
  by_cases hb : 16000 < s.size
  · have hle : ¬ s.size ≤ 16000 := by omega
    go_wp2_with fail
    refine bodyPost_ret (v := .tuple #[.slice none 0 0, .int .i64 0, .bool false]) (by simp [results, Tryd.results10, go_sem]) rfl ?_
    refine ⟨none, 0, ?_, ?_, Below.refl _ _⟩
    · first | rfl | (rw [if_pos hb, if_pos hb, decide_eq_false hle]; rfl)
    · first | exact ⟨rfl, .inl ⟨rfl, rfl⟩⟩ | (rw [if_pos hb, if_pos hb]; exact ⟨rfl, .inl ⟨rfl, rfl⟩⟩)
  · have hle : s.size ≤ 16000 := by omega
    go_wp2_with fail
    refine (HR.out hle).mono ?_
    rintro e w1 ⟨A, c, rfl, ho, hb1⟩
    have HO := Lib.hid ho
    have HB := Lib.hid hb1
    clear ho hb1
    go_wp2_with fail
    refine bodyPost_ret (v := .tuple #[.slice A N c, .int .i64 (offP s N : Nat), .bool true]) (by simp [results, Tryd.results10, go_sem]) rfl ?_
    refine ⟨A, c, ?_, ?_, HB.out⟩
    · first | rfl | (rw [if_neg hb, if_neg hb, decide_eq_true hle]; rfl)
    · first | exact HO.out | (rw [if_neg hb, if_neg hb]; exact HO.out)
set_option maxHeartbeats 800000 in
theorem implRecover_any (s : ByteArray) (N : Nat) (hN : isStop s N) (w : World) (mx : Int) (hx : s.size ≤ 9223372036854775807) (hm : w.cell? ⟨0, 0, none⟩ = some (.int .i64 mx)) (ht : Tab w) :
    Calls Tryd.prog 11 #[.string s] w (RjOut s N w) := by
  have HR := Lib.hid fun h => recoverLines_any s N hN w mx h hm ht
  unfold RjOut rjN rjX rjO
  unfold RecOut at HR
  clear hm ht
  go_enter Tryd.func11, Tryd.ntmps11
  by_cases hb : 16000 < s.size
  · have hle : ¬ s.size ≤ 16000 := by omega
    go_wp2_with fail
    refine bodyPost_ret (v := .tuple #[.slice none 0 0, .int .i64 0, .bool false]) (by simp [results, Tryd.results11, go_sem]) rfl ?_
    refine ⟨none, 0, ?_, ?_, Below.refl _ _⟩
    · first | rfl | (rw [if_pos hb, if_pos hb, decide_eq_false hle]; rfl)
    · first | exact ⟨rfl, .inl ⟨rfl, rfl⟩⟩ | (rw [if_pos hb, if_pos hb]; exact ⟨rfl, .inl ⟨rfl, rfl⟩⟩)
  · have hle : s.size ≤ 16000 := by omega
    go_wp2_with fail
    refine (HR.out hle).mono ?_
    rintro e w1 ⟨A, c, rfl, ho, hb1⟩
    have HO := Lib.hid ho
    have HB := Lib.hid hb1
    clear ho hb1
    go_wp2_with fail
    refine bodyPost_ret (v := .tuple #[.slice A N c, .int .i64 (offP s N : Nat), .bool true]) (by simp [results, Tryd.results11, go_sem]) rfl ?_
    refine ⟨A, c, ?_, ?_, HB.out⟩
    · first | rfl | (rw [if_neg hb, if_neg hb, decide_eq_true hle]; rfl)
    · first | exact HO.out | (rw [if_neg hb, if_neg hb]; exact HO.out)
theorem rjX_len (s : ByteArray) (N : Nat) : (rjX s N).length = rjN s N := by
  unfold rjX rjN
  split
  · rfl
  · exact outR_len s N
theorem rjN_le (s : ByteArray) {N : Nat} (hN : isStop s N) : rjN s N ≤ 16001 := by
  have h1 := hN.1
  have h2 := cutB_len s (s.size + 1)
  unfold lineN at h1
  unfold rjN
  split <;> omega
end Go.Proofs.YthfkibecbbkhlaaDoor
