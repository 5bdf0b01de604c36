/-
  Lines of a text: pieces between newlines.
-/
import Derived.Lib.Split
namespace Go.Proofs.YthfkibecbbkhlaaDoor
open Go

def noNl (p : List UInt8) : Prop := ∀ x ∈ p, x ≠ 10
theorem idx_hit : ∀ {p : List UInt8} (l : List UInt8), noNl p → Lib.index (p ++ 10 :: l) [10] = p.length := by
  intro p
  induction p with
  | nil => intro l _; rfl
  | cons b p ih =>
    intro l h
    have hb : b ≠ 10 := h b (List.mem_cons_self ..)
    have hp : noNl p := fun x hx => h x (List.mem_cons_of_mem _ hx)
    have h1 : [(10 : UInt8)].isPrefixOf (b :: (p ++ 10 :: l)) = false := by
      simp only [List.isPrefixOf, Bool.and_true]
      exact beq_eq_false_iff_ne.2 (Ne.symm hb)
    rw [List.cons_append, Lib.index, h1, ih l hp]
    have h2 : ((p.length : Int) == -1) = false := beq_eq_false_iff_ne.2 (by omega)
    rw [h2]
    simp
theorem idx_miss : ∀ {p : List UInt8}, noNl p → Lib.index p [10] = -1 := by
  intro p
  induction p with
  | nil => intro _; rfl
  | cons b p ih =>
    intro h
    have hb : b ≠ 10 := h b (List.mem_cons_self ..)
    have hp : noNl p := fun x hx => h x (List.mem_cons_of_mem _ hx)
    have h1 : [(10 : UInt8)].isPrefixOf (b :: p) = false := by
      simp only [List.isPrefixOf, Bool.and_true]
      exact beq_eq_false_iff_ne.2 (Ne.symm hb)
    rw [Lib.index, h1, ih hp]
    rfl
theorem split_miss {p : List UInt8} (h : noNl p) : Lib.split p [10] = [p] := by
  unfold Lib.split
  rw [Lib.count_miss (idx_miss h)]
  rfl
theorem split_hit {p l : List UInt8} (h : noNl p) : Lib.split (p ++ 10 :: l) [10] = p :: Lib.split l [10] := by
  have hi := idx_hit l h
  unfold Lib.split
  rw [Lib.count_hit (by simp) hi, Nat.add_comm, Lib.splitK, hi]
  have h2 : ((p.length : Int) == -1) = false := beq_eq_false_iff_ne.2 (by omega)
  rw [h2]
  simp
theorem nl_cases (l : List UInt8) : noNl l ∨ ∃ p r, l = p ++ 10 :: r ∧ noNl p := by
  induction l with
  | nil => exact .inl fun x hx => by cases hx
  | cons b l ih =>
    by_cases hb : b = 10
    · subst hb
      exact .inr ⟨[], l, rfl, fun x hx => by cases hx⟩
    · rcases ih with h | ⟨p, r, rfl, hp⟩
      · refine .inl fun x hx => ?_
        rcases List.mem_cons.1 hx with rfl | hx
        · exact hb
        · exact h x hx
      · refine .inr ⟨b :: p, r, rfl, fun x hx => ?_⟩
        rcases List.mem_cons.1 hx with rfl | hx
        · exact hb
        · exact hp x hx
theorem split_snoc : ∀ (m : Nat) (l : List UInt8), l.length ≤ m → Lib.split (l ++ [10]) [10] = Lib.split l [10] ++ [[]] := by
  intro m
  induction m with
  | zero =>
    intro l hl
    obtain rfl : l = [] := List.length_eq_zero_iff.1 (by omega)
    rfl
  | succ m ih =>
    intro l hl
    rcases nl_cases l with h | ⟨p, r, rfl, hp⟩
    · rw [split_miss h, split_hit (l := []) h]
      rfl
    · rw [List.append_assoc, List.cons_append, split_hit hp, split_hit hp, ih r (by simp at hl; omega)]
      rfl
/-- the last piece is empty where nothing follows the last newline -/
theorem split_last : ∀ (m : Nat) (l : List UInt8), l.length ≤ m → (Lib.split l [10]).getLast? = some [] → l = [] ∨ ∃ b, l = b ++ [10] := by
  intro m
  induction m with
  | zero =>
    intro l hl _
    exact .inl (List.length_eq_zero_iff.1 (by omega))
  | succ m ih =>
    intro l hl h
    rcases nl_cases l with h' | ⟨p, r, rfl, hp⟩
    · rw [split_miss h'] at h
      exact .inl (by simpa using h)
    · rw [split_hit hp] at h
      have hne : Lib.split r [10] ≠ [] := by
        unfold Lib.split
        cases Lib.count r [10] with
        | zero => simp [Lib.splitK]
        | succ k => rw [Lib.splitK]; split <;> simp
      rw [List.getLast?_cons, List.getLast?_eq_some_getLast hne] at h
      have h2 : (Lib.split r [10]).getLast? = some [] := by
        rw [List.getLast?_eq_some_getLast hne]
        simpa using h
      rcases ih r (by simp at hl; omega) h2 with rfl | ⟨b, rfl⟩
      · exact .inr ⟨p, rfl⟩
      · exact .inr ⟨p ++ 10 :: b, by simp⟩

/-- the pieces and the place behind the last newline, of the first i bytes -/
def cutB (t : ByteArray) : Nat → List ByteArray × Nat
  | 0 => ([], 0)
  | i + 1 => if i = t.size ∨ t.data.toList[i]? = some 10 then ((cutB t i).1 ++ [t.extract (cutB t i).2 i], i + 1) else cutB t i
def bytesOf (ps : List ByteArray) : List (List UInt8) := ps.map (·.data.toList)
theorem cutB_inv (t : ByteArray) : ∀ i, i ≤ t.size → (cutB t i).2 ≤ i ∧ noNl ((t.data.toList.drop (cutB t i).2).take (i - (cutB t i).2)) ∧ bytesOf (cutB t i).1 ++ Lib.split (t.data.toList.drop (cutB t i).2) [10] = Lib.split t.data.toList [10] := by
  intro i
  induction i with
  | zero => exact fun _ => ⟨Nat.le_refl _, fun x hx => by simp [cutB] at hx, by simp [cutB, bytesOf]⟩
  | succ i ih =>
    intro hi
    obtain ⟨h1, h2, h3⟩ := ih (by omega)
    have hlen : t.size = t.data.toList.length := Lib.size_eq t
    have hli : i < t.data.toList.length := by omega
    rw [cutB]
    generalize cutB t i = st at *
    obtain ⟨out, from_⟩ := st
    dsimp only at *
    have hdrop : t.data.toList.drop from_ = (t.data.toList.drop from_).take (i - from_) ++ t.data.toList[i] :: t.data.toList.drop (i + 1) := by
      have e := (List.take_append_drop (i - from_) (t.data.toList.drop from_)).symm
      rw [List.drop_drop, show from_ + (i - from_) = i by omega, List.drop_eq_getElem_cons hli] at e
      exact e
    by_cases h10 : t.data.toList[i]? = some 10
    · rw [if_pos (.inr h10)]
      have hx : t.data.toList[i] = 10 := by
        rw [List.getElem?_eq_getElem hli] at h10
        injection h10
      refine ⟨Nat.le_refl _, fun x hx => by simp at hx, ?_⟩
      show bytesOf (out ++ [t.extract from_ i]) ++ _ = _
      rw [hx] at hdrop
      rw [hdrop, split_hit h2] at h3
      rw [← h3]
      unfold bytesOf
      rw [List.map_append, List.append_assoc]
      congr 1
      show [(t.extract from_ i).data.toList] ++ _ = _
      rw [Lib.extract_data]
      rfl
    · rw [if_neg (fun h => h.elim (fun h => by omega) h10)]
      refine ⟨by omega, fun x hx => ?_, h3⟩
      have hne : t.data.toList[i] ≠ 10 := fun e => h10 (by rw [List.getElem?_eq_getElem hli, e])
      rw [hdrop, show i + 1 - from_ = (i - from_) + 1 by omega] at hx
      have hl2 : ((t.data.toList.drop from_).take (i - from_)).length = i - from_ := by
        rw [List.length_take, List.length_drop]
        omega
      rw [List.take_append, hl2, show i - from_ + 1 - (i - from_) = 1 by omega, List.take_of_length_le (by omega)] at hx
      rcases List.mem_append.1 hx with hx | hx
      · exact h2 x hx
      · have : x = t.data.toList[i] := by simpa using hx
        rw [this]
        exact hne
theorem cutB_all (t : ByteArray) : bytesOf (cutB t (t.size + 1)).1 = Lib.split t.data.toList [10] := by
  obtain ⟨h1, h2, h3⟩ := cutB_inv t t.size (Nat.le_refl _)
  have hlen : t.size = t.data.toList.length := Lib.size_eq t
  rw [cutB, if_pos (.inl rfl)]
  generalize (cutB t t.size).1 = out at *
  generalize (cutB t t.size).2 = from_ at *
  rw [← h3]
  have e : (t.data.toList.drop from_).take (t.size - from_) = t.data.toList.drop from_ := List.take_of_length_le (by rw [List.length_drop]; omega)
  rw [e] at h2
  rw [split_miss h2]
  unfold bytesOf
  rw [List.map_append]
  show _ ++ [(t.extract from_ t.size).data.toList] = _
  rw [Lib.extract_data, e]
end Go.Proofs.YthfkibecbbkhlaaDoor
