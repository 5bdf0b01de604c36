/-
  A table that a text tells: plain.
-/
import Derived.Test.YtklkgacgmcnlnaaDoorRd3
import Derived.Test.YtklkgacgmcnlnaaDoorCs
import Derived.Test.YtklkgacgmcnlnaaDoorTb1
namespace Go.Proofs.YtklkgacgmcnlnaaDoor
open Go Go.RowKit

theorem in_word {x : UInt8} (hx : x ≠ 44) : ∀ (m : Nat) (l : List UInt8), l.length ≤ m → x ∈ l → ∃ w ∈ Lib.split l [44], x ∈ w := by
  intro m
  induction m with
  | zero =>
    intro l hl h
    rw [List.length_eq_zero_iff.1 (Nat.le_zero.1 hl)] at h
    cases h
  | succ m ih =>
    intro l hl h
    rcases Cc.nl_cases l with h1 | ⟨p, r, rfl, hp⟩
    · rw [Cc.split_miss h1]
      exact ⟨l, List.mem_singleton.2 rfl, h⟩
    · rw [Cc.split_hit hp]
      rcases List.mem_append.1 h with h2 | h2
      · exact ⟨p, List.mem_cons_self .., h2⟩
      · rcases List.mem_cons.1 h2 with h3 | h3
        · exact absurd h3 hx
        · obtain ⟨v, hv, hxv⟩ := ih r (by simp at hl; omega) h3
          exact ⟨v, List.mem_cons_of_mem _ hv, hxv⟩
theorem nums59 {q : ByteArray} (h : (59 : UInt8) ∈ q.data.toList) : (nums q).2 = false := by
  unfold nums
  split
  · rename_i hn
    rw [Lib.toList_data] at hn
    have e : q.data.toList = [110, 111, 110, 101] := by simpa using hn
    rw [e] at h
    exact absurd h (by decide)
  · split
    · rename_i hh
      exfalso
      obtain ⟨v, hv, hx⟩ := in_word (x := 59) (by decide) _ _ (Nat.le_refl _) h
      have hb := words_bytes q
      rw [← hb] at hv
      unfold Cc.bytesOf at hv
      obtain ⟨p, hp, rfl⟩ := List.mem_map.1 hv
      have hok := List.all_eq_true.1 hh.2 p hp
      rcases rdV_cases p.data.toList with ⟨n, h1, h2, h3⟩ | ⟨h1, h2⟩
      · rw [← h2] at hx
        rcases itoa_bytes hx with h4 | h4
        · exact absurd h4 (by decide)
        · unfold isDig at h4
          exact absurd h4.2 (by decide)
      · unfold okW at hok
        rw [h2] at hok
        cases hok
    · rfl
/-- what stands ahead of the first semicolon, and behind it -/
def semP (s : ByteArray) : ByteArray := ⟨(Lib.cut s.data.toList [59]).1.toArray⟩
def semQ (s : ByteArray) : ByteArray := ⟨(Lib.cut s.data.toList [59]).2.1.toArray⟩
def semF (s : ByteArray) : Bool := (Lib.cut s.data.toList [59]).2.2
theorem cut_miss {l : List UInt8} (h : Cs.noNl l) : Lib.cut l [59] = (l, [], false) := by
  unfold Lib.cut
  rw [Cs.idx_miss h]
  rfl
theorem cut_hit {p : List UInt8} (r : List UInt8) (h : Cs.noNl p) : Lib.cut (p ++ 59 :: r) [59] = (p, r, true) := by
  unfold Lib.cut
  rw [Cs.idx_hit r h]
  have h0 : ¬ ((p.length : Int) < 0) := by omega
  simp
def rtOk (s : ByteArray) : Bool := semF s && (nums (semP s)).2 && (nums (semQ s)).2 && decide ((nums (semP s)).1.length = 2) && tabB ((nums (semP s)).1.getD 0 0) ((nums (semP s)).1.getD 1 0) (nums (semQ s)).1
def rtR (s : ByteArray) : Int := if rtOk s then (nums (semP s)).1.getD 0 0 else 0
def rtL (s : ByteArray) : Int := if rtOk s then (nums (semP s)).1.getD 1 0 else 0
def rtX (s : ByteArray) : List Int := if rtOk s then (nums (semQ s)).1 else []
/-- the reference's parts -/
def partsS (s : ByteArray) : List ByteArray := (Cs.cutB s (s.size + 1)).1
theorem parts_bytes (s : ByteArray) : (partsS s).map (·.data.toList) = Lib.split s.data.toList [59] := Cs.cutB_all s
theorem parts_cases (s : ByteArray) : ((partsS s).length ≠ 2 ∧ rtOk s = false) ∨ (partsS s = [semP s, semQ s] ∧ semF s = true) := by
  have hb := parts_bytes s
  rcases Cs.nl_cases s.data.toList with h | ⟨p, r, he, hp⟩
  · rw [Cs.split_miss h] at hb
    have hl := congrArg List.length hb
    simp only [List.length_map, List.length_singleton] at hl
    refine .inl ⟨by omega, ?_⟩
    unfold rtOk semF
    rw [cut_miss h]
    rfl
  · rw [he, Cs.split_hit hp] at hb
    have hP : semP s = ⟨p.toArray⟩ := by unfold semP; rw [he, cut_hit r hp]
    have hQ : semQ s = ⟨r.toArray⟩ := by unfold semQ; rw [he, cut_hit r hp]
    have hF : semF s = true := by unfold semF; rw [he, cut_hit r hp]
    rcases Cs.nl_cases r with h2 | ⟨p2, r2, he2, hp2⟩
    · rw [Cs.split_miss h2] at hb
      refine .inr ⟨bytes_inj_list ?_, hF⟩
      rw [hb, hP, hQ]
      rfl
    · have h59 : (59 : UInt8) ∈ (semQ s).data.toList := by
        rw [hQ]
        show (59 : UInt8) ∈ r
        rw [he2]
        exact List.mem_append_right _ (List.mem_cons_self ..)
      refine .inl ⟨?_, ?_⟩
      · rw [he2, Cs.split_hit hp2] at hb
        have hl := congrArg List.length hb
        simp only [List.length_map, List.length_cons] at hl
        have hne : (Lib.split r2 [59]).length ≠ 0 := by
          rcases Cs.nl_cases r2 with h3 | ⟨p3, r3, he3, hp3⟩
          · rw [Cs.split_miss h3]; simp
          · rw [he3, Cs.split_hit hp3]; simp
        omega
      · unfold rtOk
        rw [nums59 h59]
        simp
theorem sem_sizes (s : ByteArray) : (semP s).size ≤ s.size ∧ (semQ s).size ≤ s.size := by
  have hl : s.size = s.data.toList.length := Lib.size_eq s
  rcases Cs.nl_cases s.data.toList with h | ⟨p, r, he, hp⟩
  · unfold semP semQ
    rw [cut_miss h, hl]
    exact ⟨Nat.le_of_eq (Lib.size_eq _), Nat.zero_le _⟩
  · unfold semP semQ
    rw [he, List.length_append, List.length_cons] at hl
    rw [he, cut_hit r hp, hl]
    constructor
    · have e : (⟨(p, r, true).1.toArray⟩ : ByteArray).size = p.length := Lib.size_eq _
      rw [e]
      omega
    · have e : (⟨(p, r, true).2.1.toArray⟩ : ByteArray).size = r.length := Lib.size_eq _
      rw [e]
      omega
end Go.Proofs.YtklkgacgmcnlnaaDoor
