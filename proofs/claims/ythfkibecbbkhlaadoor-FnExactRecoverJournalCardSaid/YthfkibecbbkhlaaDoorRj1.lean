/-
  Journals that are recovered: plain.
-/
import Derived.Test.YthfkibecbbkhlaaDoorLn3
import Derived.Test.YthfkibecbbkhlaaDoorJr2
import Derived.Lib.IndexMore
import Derived.Lib.IndexLaws
import Derived.Lib.IndexBytes
namespace Go.Proofs.YthfkibecbbkhlaaDoor
open Go Go.RowKit

/-- what lies before and behind the first blank of a line; whether there is one -/
def preL (l : List UInt8) : List UInt8 := l.takeWhile (· != 32)
def restL (l : List UInt8) : List UInt8 := l.drop ((preL l).length + 1)
def spB (l : List UInt8) : Bool := decide ((preL l).length < l.length)
theorem preL_le (l : List UInt8) : (preL l).length ≤ l.length := by
  unfold preL
  exact (List.takeWhile_prefix _).length_le
theorem sp_split {l : List UInt8} (h : spB l = true) : l = preL l ++ 32 :: restL l := by
  have h' := of_decide_eq_true h
  unfold restL preL at *
  induction l with
  | nil => simp at h'
  | cons b l ih =>
    by_cases hb : b = 32
    · subst hb
      simp
    · have e : (b :: l).takeWhile (· != 32) = b :: l.takeWhile (· != 32) := by
        rw [List.takeWhile_cons, if_pos]
        simpa using hb
      rw [e] at h' ⊢
      simp only [List.length_cons, List.cons_append, List.drop_succ_cons] at h' ⊢
      exact congrArg (b :: ·) (ih (decide_eq_true (show (l.takeWhile (· != 32)).length < l.length by omega)) (by omega))
theorem cut_by (c : UInt8) : ∀ l : List UInt8, Lib.indexByte l c = if (l.takeWhile (· != c)).length < l.length then ((l.takeWhile (· != c)).length : Int) else -1 := by
  intro l
  induction l with
  | nil => rfl
  | cons b l ih =>
    rw [Lib.indexByte]
    by_cases hb : b = c
    · subst hb
      simp
    · have e : (b :: l).takeWhile (· != c) = b :: l.takeWhile (· != c) := by
        rw [List.takeWhile_cons, if_pos]
        simpa using hb
      rw [if_neg (by simpa using hb), e, ih]
      simp only [List.length_cons]
      generalize (l.takeWhile (· != c)).length = X
      by_cases h : X < l.length
      · rw [if_pos h, if_pos (show X + 1 < l.length + 1 by omega)]
        have : ((X : Int) == -1) = false := beq_eq_false_iff_ne.2 (by omega)
        rw [this]
        rfl
      · rw [if_neg h, if_neg (show ¬ X + 1 < l.length + 1 by omega)]
        rfl
theorem cut_sp (l : List UInt8) : Lib.cut l [32] = if spB l then (preL l, restL l, true) else (l, [], false) := by
  unfold Lib.cut
  rw [Lib.index_one, cut_by]
  unfold spB restL preL
  by_cases h : (l.takeWhile (· != 32)).length < l.length
  · rw [if_pos h, decide_eq_true h, if_pos (show (0 : Int) ≤ ((l.takeWhile (· != 32)).length : Int) by omega)]
    have e : l.take (l.takeWhile (· != 32)).length = l.takeWhile (· != 32) := (List.prefix_iff_eq_take.1 (List.takeWhile_prefix _)).symm
    simp [e]
  · rw [if_neg h, decide_eq_false h, if_neg (show ¬ (0 : Int) ≤ -1 by omega)]
    rfl
theorem tw_no {p : List UInt8} (h : noNl p) : p.takeWhile (· != 10) = p := by
  induction p with
  | nil => rfl
  | cons b p ih =>
    rw [List.takeWhile_cons, if_pos (by simpa using h b (List.mem_cons_self ..)), ih fun x hx => h x (List.mem_cons_of_mem _ hx)]
theorem tw_hit {p r : List UInt8} (h : noNl p) : (p ++ 10 :: r).takeWhile (· != 10) = p := by
  induction p with
  | nil => rfl
  | cons b p ih =>
    rw [List.cons_append, List.takeWhile_cons, if_pos (by simpa using h b (List.mem_cons_self ..)), ih fun x hx => h x (List.mem_cons_of_mem _ hx)]
theorem cut_nl {p r : List UInt8} (h : noNl p) : Lib.cut (p ++ 10 :: r) [10] = (p, r, true) := by
  unfold Lib.cut
  have h1 : p.length < (p ++ 10 :: r).length := by simp
  rw [Lib.index_one, cut_by, tw_hit h, if_pos h1, if_pos (show (0 : Int) ≤ (p.length : Int) by omega)]
  simp
theorem cut_no {p : List UInt8} (h : noNl p) : Lib.cut p [10] = (p, [], false) := by
  unfold Lib.cut
  rw [Lib.index_one, cut_by, tw_no h, if_neg (Nat.lt_irrefl p.length), if_neg (show ¬ (0 : Int) ≤ -1 by omega)]

/-- the i-th piece; where it begins; the check number before it -/
def lnP (s : ByteArray) (i : Nat) : List UInt8 := (pieceAt s i).data.toList
def offP (s : ByteArray) : Nat → Nat
  | 0 => 0
  | i + 1 => offP s i + (lnP s i).length + 1
def cst (s : ByteArray) : Nat → Int
  | 0 => 0
  | i + 1 => chk (cst s i) (restL (lnP s i))
theorem cst_range (s : ByteArray) : ∀ i, 0 ≤ cst s i ∧ cst s i < 65003 := by
  intro i
  cases i with
  | zero => exact ⟨Int.le_refl 0, show (0 : Int) < 65003 by omega⟩
  | succ i =>
    have : ∀ i, 0 ≤ cst s i ∧ cst s i < 65003 := by
      intro i
      induction i with
      | zero => exact ⟨Int.le_refl 0, show (0 : Int) < 65003 by omega⟩
      | succ i ih => exact chk_range _ _ ih
    exact this (i + 1)
/-- a line is one of the journal -/
def okR (s : ByteArray) (i : Nat) : Bool := spB (lnP s i) && decide (preL (lnP s i) = Lib.itoa (cst s (i + 1)))
def isStop (s : ByteArray) (N : Nat) : Prop := N ≤ lineN s ∧ (∀ j, j < N → okR s j = true) ∧ (N = lineN s ∨ okR s N = false)
theorem stop_ex (s : ByteArray) : ∃ N, isStop s N := by
  have h : ∀ k, k ≤ lineN s → (∃ N, isStop s N) ∨ ∀ j, j < k → okR s j = true := by
    intro k
    induction k with
    | zero => exact fun _ => .inr fun j hj => by omega
    | succ k ih =>
      intro hk
      rcases ih (by omega) with h | h
      · exact .inl h
      · cases ho : okR s k with
        | false => exact .inl ⟨k, by omega, h, .inr ho⟩
        | true =>
          refine .inr fun j hj => ?_
          rcases Nat.lt_or_ge j k with h1 | h1
          · exact h j h1
          · obtain rfl : j = k := by omega
            exact ho
  rcases h (lineN s) (Nat.le_refl _) with h | h
  · exact h
  · exact ⟨lineN s, Nat.le_refl _, h, .inl rfl⟩
def restB (s : ByteArray) (i : Nat) : ByteArray := ⟨(restL (lnP s i)).toArray⟩
/-- the lines that are recovered -/
def outR (s : ByteArray) (N : Nat) : List ByteArray := (List.range N).map (restB s)
theorem outR_len (s : ByteArray) (N : Nat) : (outR s N).length = N := by simp [outR]
theorem outR_succ (s : ByteArray) (N : Nat) : outR s (N + 1) = outR s N ++ [restB s N] := by
  unfold outR
  rw [List.range_succ, List.map_append]
  rfl
theorem pieces_len (s : ByteArray) : (Lib.split s.data.toList [10]).length = lineN s + 1 := by
  rw [← cutB_all s]
  have := cutB_pos s
  unfold lineN bytesOf
  rw [List.length_map]
  omega
theorem pieces_at (s : ByteArray) {i : Nat} (h : i ≤ lineN s) : (Lib.split s.data.toList [10])[i]? = some (lnP s i) := by
  rw [← cutB_all s]
  have := cutB_pos s
  unfold lineN at h
  unfold lnP pieceAt bytesOf
  rw [List.getElem?_map, List.getD_eq_getElem?_getD, List.getElem?_eq_getElem (by omega)]
  rfl
/-- the text from the i-th piece on -/
theorem text_from (s : ByteArray) : ∀ i, i ≤ lineN s → offP s i ≤ s.size ∧ Lib.split (s.data.toList.drop (offP s i)) [10] = (Lib.split s.data.toList [10]).drop i := by
  intro i
  induction i with
  | zero => exact fun _ => ⟨Nat.zero_le _, rfl⟩
  | succ i ih =>
    intro hi
    obtain ⟨h1, h2⟩ := ih (by omega)
    have hlen := pieces_len s
    have hat := pieces_at s (i := i) (by omega)
    have hd : (Lib.split s.data.toList [10]).drop i = lnP s i :: (Lib.split s.data.toList [10]).drop (i + 1) := by
      rw [List.drop_eq_getElem_cons (by omega)]
      congr 1
      rw [List.getElem?_eq_getElem (by omega)] at hat
      injection hat
    rcases nl_cases (s.data.toList.drop (offP s i)) with h | ⟨p, r, he, hp⟩
    · rw [split_miss h, hd] at h2
      injection h2 with _ h3
      have := congrArg List.length h3
      rw [List.length_drop] at this
      simp at this
      omega
    · rw [he, split_hit hp, hd] at h2
      injection h2 with h3 h4
      have hdl := congrArg List.length he
      rw [List.length_drop, List.length_append, List.length_cons, ← Lib.size_eq] at hdl
      refine ⟨?_, ?_⟩
      · show offP s i + (lnP s i).length + 1 ≤ _
        rw [← h3]
        omega
      · show Lib.split (s.data.toList.drop (offP s i + (lnP s i).length + 1)) [10] = _
        rw [← h4, ← h3]
        have : s.data.toList.drop (offP s i + p.length + 1) = r := by
          rw [show offP s i + p.length + 1 = offP s i + (p.length + 1) by omega, ← List.drop_drop, he]
          rw [show p ++ 10 :: r = (p ++ [10]) ++ r by simp]
          exact List.drop_left' (by simp)
        rw [this]
/-- what the i-th piece is: a line, or the last piece -/
theorem text_cut (s : ByteArray) {i : Nat} (hi : i ≤ lineN s) : Lib.cut (s.data.toList.drop (offP s i)) [10] = (if i < lineN s then (lnP s i, s.data.toList.drop (offP s (i + 1)), true) else (lnP s i, [], false)) := by
  obtain ⟨h1, h2⟩ := text_from s i hi
  have hlen := pieces_len s
  have hat := pieces_at s hi
  have hd : (Lib.split s.data.toList [10]).drop i = lnP s i :: (Lib.split s.data.toList [10]).drop (i + 1) := by
    rw [List.drop_eq_getElem_cons (by omega)]
    congr 1
    rw [List.getElem?_eq_getElem (by omega)] at hat
    injection hat
  rcases nl_cases (s.data.toList.drop (offP s i)) with h | ⟨p, r, he, hp⟩
  · rw [split_miss h, hd] at h2
    injection h2 with h3 h4
    have := congrArg List.length h4
    rw [List.length_drop] at this
    simp at this
    rw [cut_no h, if_neg (by omega), h3]
  · rw [he, split_hit hp, hd] at h2
    injection h2 with h3 h4
    have hne : 0 < (Lib.split r [10]).length := by
      unfold Lib.split
      cases Lib.count r [10] with
      | zero => simp [Lib.splitK]
      | succ k => rw [Lib.splitK]; split <;> simp
    have := congrArg List.length h4
    rw [List.length_drop] at this
    rw [he, cut_nl hp, if_pos (by omega), h3]
    congr 2
    show r = s.data.toList.drop (offP s i + (lnP s i).length + 1)
    rw [← h3, show offP s i + p.length + 1 = offP s i + (p.length + 1) by omega, ← List.drop_drop, he, show p ++ 10 :: r = (p ++ [10]) ++ r by simp]
    exact (List.drop_left' (by simp)).symm
/-- the line of a journal is the piece just where the number fits -/
theorem line_iff (s : ByteArray) (i : Nat) (h : spB (lnP s i) = true) : (lineJ (cst s (i + 1)) (restL (lnP s i)) = lnP s i ++ [10]) ↔ okR s i = true := by
  unfold okR
  rw [h, Bool.true_and, decide_eq_true_eq]
  have e := sp_split h
  unfold lineJ
  constructor
  · intro hl
    rw [e] at hl
    have h2 : Lib.itoa (cst s (i + 1)) ++ ([32] ++ restL (lnP s i) ++ [10]) = preL (lnP s i) ++ ([32] ++ restL (lnP s i) ++ [10]) := by
      have e2 : restL (preL (lnP s i) ++ 32 :: restL (lnP s i)) = restL (lnP s i) := by rw [← e]
      rw [e2] at hl
      simpa [List.append_assoc] using hl
    exact (List.append_cancel_right h2).symm
  · intro hl
    rw [← hl]
    conv => rhs; rw [e]
    simp [List.append_assoc]
end Go.Proofs.YthfkibecbbkhlaaDoor
