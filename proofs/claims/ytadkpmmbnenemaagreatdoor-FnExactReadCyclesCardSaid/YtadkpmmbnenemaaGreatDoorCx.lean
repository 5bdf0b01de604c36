/-
  spec.l01Cut at the byte 47.
-/
import Derived.Test.YtadkpmmbnenemaaGreatDoorTb2
import Derived.Lib.Split
namespace Go.Proofs.YtadkpmmbnenemaaGreatDoor.Cx
open Go Go.RowKit

def noNl (p : List UInt8) : Prop := ∀ x ∈ p, x ≠ 47
theorem idx_hit : ∀ {p : List UInt8} (l : List UInt8), noNl p → Lib.index (p ++ 47 :: l) [47] = p.length := by
  intro p
  induction p with
  | nil => intro l _; rfl
  | cons b p ih =>
    intro l h
    have hb : b ≠ 47 := h b (List.mem_cons_self ..)
    have hp : noNl p := fun x hx => h x (List.mem_cons_of_mem _ hx)
    have h1 : [(47 : UInt8)].isPrefixOf (b :: (p ++ 47 :: l)) = false := by
      simp only [List.isPrefixOf, Bool.and_true]
      exact beq_eq_false_iff_ne.2 (Ne.symm hb)
    rw [List.cons_append, Lib.index, h1, ih l hp]
    have h2 : ((p.length : Int) == -1) = false := beq_eq_false_iff_ne.2 (by omega)
    rw [h2]
    simp
theorem idx_miss : ∀ {p : List UInt8}, noNl p → Lib.index p [47] = -1 := by
  intro p
  induction p with
  | nil => intro _; rfl
  | cons b p ih =>
    intro h
    have hb : b ≠ 47 := h b (List.mem_cons_self ..)
    have hp : noNl p := fun x hx => h x (List.mem_cons_of_mem _ hx)
    have h1 : [(47 : UInt8)].isPrefixOf (b :: p) = false := by
      simp only [List.isPrefixOf, Bool.and_true]
      exact beq_eq_false_iff_ne.2 (Ne.symm hb)
    rw [Lib.index, h1, ih hp]
    rfl
theorem split_miss {p : List UInt8} (h : noNl p) : Lib.split p [47] = [p] := by
  unfold Lib.split
  rw [Lib.count_miss (idx_miss h)]
  rfl
theorem split_hit {p l : List UInt8} (h : noNl p) : Lib.split (p ++ 47 :: l) [47] = p :: Lib.split l [47] := by
  have hi := idx_hit l h
  unfold Lib.split
  rw [Lib.count_hit (by simp) hi, Nat.add_comm, Lib.splitK, hi]
  have h2 : ((p.length : Int) == -1) = false := beq_eq_false_iff_ne.2 (by omega)
  rw [h2]
  simp
theorem nl_cases (l : List UInt8) : noNl l ∨ ∃ p r, l = p ++ 47 :: r ∧ noNl p := by
  induction l with
  | nil => exact .inl fun x hx => by cases hx
  | cons b l ih =>
    by_cases hb : b = 47
    · subst hb
      exact .inr ⟨[], l, rfl, fun x hx => by cases hx⟩
    · rcases ih with h | ⟨p, r, rfl, hp⟩
      · refine .inl fun x hx => ?_
        rcases List.mem_cons.1 hx with rfl | hx
        · exact hb
        · exact h x hx
      · refine .inr ⟨b :: p, r, rfl, fun x hx => ?_⟩
        rcases List.mem_cons.1 hx with rfl | hx
        · exact hb
        · exact hp x hx
/-- the pieces and the place behind the last mark, of the first i bytes -/
def cutB (t : ByteArray) : Nat → List ByteArray × Nat
  | 0 => ([], 0)
  | i + 1 => if i = t.size ∨ t.data.toList[i]? = some 47 then ((cutB t i).1 ++ [t.extract (cutB t i).2 i], i + 1) else cutB t i
def bytesOf (ps : List ByteArray) : List (List UInt8) := ps.map (·.data.toList)
theorem cutB_inv (t : ByteArray) : ∀ i, i ≤ t.size → (cutB t i).2 ≤ i ∧ noNl ((t.data.toList.drop (cutB t i).2).take (i - (cutB t i).2)) ∧ bytesOf (cutB t i).1 ++ Lib.split (t.data.toList.drop (cutB t i).2) [47] = Lib.split t.data.toList [47] := by
  intro i
  induction i with
  | zero => exact fun _ => ⟨Nat.le_refl _, fun x hx => by simp [cutB] at hx, by simp [cutB, bytesOf]⟩
  | succ i ih =>
    intro hi
    obtain ⟨h1, h2, h3⟩ := ih (by omega)
    have hlen : t.size = t.data.toList.length := Lib.size_eq t
    have hli : i < t.data.toList.length := by omega
    rw [cutB]
    generalize cutB t i = st at *
    obtain ⟨out, from_⟩ := st
    dsimp only at *
    have hdrop : t.data.toList.drop from_ = (t.data.toList.drop from_).take (i - from_) ++ t.data.toList[i] :: t.data.toList.drop (i + 1) := by
      have e := (List.take_append_drop (i - from_) (t.data.toList.drop from_)).symm
      rw [List.drop_drop, show from_ + (i - from_) = i by omega, List.drop_eq_getElem_cons hli] at e
      exact e
    by_cases h10 : t.data.toList[i]? = some 47
    · rw [if_pos (.inr h10)]
      have hx : t.data.toList[i] = 47 := by
        rw [List.getElem?_eq_getElem hli] at h10
        injection h10
      refine ⟨Nat.le_refl _, fun x hx => by simp at hx, ?_⟩
      show bytesOf (out ++ [t.extract from_ i]) ++ _ = _
      rw [hx] at hdrop
      rw [hdrop, split_hit h2] at h3
      rw [← h3]
      unfold bytesOf
      rw [List.map_append, List.append_assoc]
      congr 1
      show [(t.extract from_ i).data.toList] ++ _ = _
      rw [Lib.extract_data]
      rfl
    · rw [if_neg (fun h => h.elim (fun h => by omega) h10)]
      refine ⟨by omega, fun x hx => ?_, h3⟩
      have hne : t.data.toList[i] ≠ 47 := fun e => h10 (by rw [List.getElem?_eq_getElem hli, e])
      rw [hdrop, show i + 1 - from_ = (i - from_) + 1 by omega] at hx
      have hl2 : ((t.data.toList.drop from_).take (i - from_)).length = i - from_ := by
        rw [List.length_take, List.length_drop]
        omega
      rw [List.take_append, hl2, show i - from_ + 1 - (i - from_) = 1 by omega, List.take_of_length_le (by omega)] at hx
      rcases List.mem_append.1 hx with hx | hx
      · exact h2 x hx
      · have : x = t.data.toList[i] := by simpa using hx
        rw [this]
        exact hne
theorem cutB_all (t : ByteArray) : bytesOf (cutB t (t.size + 1)).1 = Lib.split t.data.toList [47] := by
  obtain ⟨h1, h2, h3⟩ := cutB_inv t t.size (Nat.le_refl _)
  have hlen : t.size = t.data.toList.length := Lib.size_eq t
  rw [cutB, if_pos (.inl rfl)]
  generalize (cutB t t.size).1 = out at *
  generalize (cutB t t.size).2 = from_ at *
  rw [← h3]
  have e : (t.data.toList.drop from_).take (t.size - from_) = t.data.toList.drop from_ := List.take_of_length_le (by rw [List.length_drop]; omega)
  rw [e] at h2
  rw [split_miss h2]
  unfold bytesOf
  rw [List.map_append]
  show _ ++ [(t.extract from_ t.size).data.toList] = _
  rw [Lib.extract_data, e]
theorem cutB_len (t : ByteArray) : ∀ i, (cutB t i).1.length ≤ i := by
  intro i
  induction i with
  | zero => exact Nat.le_refl _
  | succ i ih =>
    rw [cutB]
    split
    · rw [List.length_append, List.length_singleton]
      omega
    · omega
theorem byte_at {s : ByteArray} {i : Nat} (h : i < s.size) : s.data.toList[i]? = some s[i] := by
  have h' : i < s.data.toList.length := by rw [← Lib.size_eq]; exact h
  rw [List.getElem?_eq_getElem h']
  rfl
theorem byte_nl {s : ByteArray} {i : Nat} (h : i < s.size) (h10 : s.data.toList[i]? = some 47) : (((s[i]'h).toNat : Int) == 47) = true := by
  rw [byte_at h] at h10
  injection h10 with h10
  rw [h10]
  rfl
theorem byte_no {s : ByteArray} {i : Nat} (h : i < s.size) (h10 : ¬ s.data.toList[i]? = some 47) : (((s[i]'h).toNat : Int) == 47) = false := by
  rw [byte_at h] at h10
  refine beq_eq_false_iff_ne.2 fun e => h10 ?_
  have : (s[i]'h).toNat = (47 : UInt8).toNat := by
    show _ = 47
    omega
  rw [UInt8.toNat_inj.1 this]
def cutOut (s : ByteArray) (w : World) (e : Ending) (w' : World) : Prop :=
  ∃ A c, e = .returned (.slice A (cutB s (s.size + 1)).1.length c) ∧ w'.ownsRow w.heap.size 9 1 (.slice A (cutB s (s.size + 1)).1.length c) (cutB s (s.size + 1)).1.length (sl (cutB s (s.size + 1)).1) ∧ Below w.heap.size w w'
set_option maxRecDepth 100000 in
set_option maxHeartbeats 3200000 in
theorem l01Cut_any (s : ByteArray) (w : World) (hs : s.size ≤ 1048576) : Calls Tryz.prog 14 #[.string s, .int .u8 47] w (cutOut s w) := by
  obtain ⟨i0, hi0, hz0, hz1, hz2⟩ := info_parts info_str
  have HLE : Hid (∀ i, i ≤ s.size → (cutB s i).2 ≤ i) := Lib.hid fun i hi => (cutB_inv s i hi).1
  have HLN : Hid (∀ i, (cutB s i).1.length ≤ i) := Lib.hid (cutB_len s)
  have HST : Hid (∀ i, i ≤ s.size → (i = s.size ∨ s.data.toList[i]? = some 47) → cutB s (i + 1) = ((cutB s i).1 ++ [s.extract (cutB s i).2 i], i + 1)) := Lib.hid fun i _ h => by rw [cutB, if_pos h]
  have HNO : Hid (∀ i, ¬ (i = s.size ∨ s.data.toList[i]? = some 47) → cutB s (i + 1) = cutB s i) := Lib.hid fun i h => by rw [cutB, if_neg h]
  have H0 : Hid (cutB s 0 = ([], 0)) := Lib.hid rfl
  unfold cutOut
  generalize hN : s.size = N at *
  go_enter Tryz.func14, Tryz.ntmps14
  go_wp2_with fail
  have START : Hid (Below w.heap.size w (w.alloc (.cells #[] 9)) ∧ (w.alloc (.cells #[] 9)).ownsRow w.heap.size 9 1 (.slice (some ⟨w.heap.size, 0, none⟩) 0 0) 0 (sl [])) := Lib.hid ⟨below_al (Below.refl _ _) _, World.ownsRow_made w #[] 0 (Nat.le_refl _) (by unfold maxLen; omega) rfl⟩
  go_loopw [5, 6, 7] (fun v fv iv wr => ∃ i A c, i ≤ N + 1 ∧ iv = .int .i64 (i : Nat) ∧ fv = .int .i64 ((cutB s i).2 : Nat) ∧ v = .slice A (cutB s i).1.length c ∧ wr.ownsRow w.heap.size 9 1 (.slice A (cutB s i).1.length c) (cutB s i).1.length (sl (cutB s i).1) ∧ Below w.heap.size w wr) (fun _ _ iv _ => N + 1 - (intOf iv).toNat)
  case atStart => exact ⟨0, _, _, Nat.zero_le _, rfl, by rw [H0.out]; rfl, by rw [H0.out]; rfl, by rw [H0.out]; exact START.out.2, START.out.1⟩
  case round =>
    obtain ⟨i, A, c, hi, rfl, rfl, rfl, hown, hbw⟩ := hrel
    rename World => wr
    have HO := Lib.hid hown
    have HB := Lib.hid hbw
    have hln := HLN.out i
    clear hown hbw
    by_cases hiN : i ≤ N
    · have hle := HLE.out i hiN
      have HSTi := Lib.hid (HST.out i hiN)
      have HNOi := Lib.hid (HNO.out i)
      generalize hcu : cutB s i = cu at *
      obtain ⟨out, fr⟩ := cu
      dsimp only at *
      have hlo : out.length ≤ i := hln
      by_cases hend : i = N
      · subst hend
        have HC := Lib.hid (HSTi.out (.inl rfl))
        clear HSTi HNOi HST HNO
        go_wp2_with (refine wpList_append_lies _ rfl _ _ _ rfl w.heap.size 9 i0 _ 1 16 Tryz.underlying29 hi0 hz0 hz1 hz2 rfl (by omega) (.slice A out.length c) out.length (sl out) (by rfl) (HO.out.alloc _) ⟨wr.heap.size, 0, none⟩ 1 1 [.string (s.extract fr i)] (by rfl) (by rfl) (World.news_of_block (cs := #[.string (s.extract fr i)]) (t := 9) (fr := (0, 0)) (heap_alloc_new wr _)) (by simp [Value.oneCell']) (by omega) (by unfold maxLen; omega) (by omega) (by simp; have := HB.out.size; omega) (wr.heap.size + 1) (by simp) ?_; intro g cap w9 hown9 hgrow hat hlt9; have HB9 := Lib.hid ((below_al HB.out (.cells #[.string (s.extract fr i)] 9)).grown hgrow (by have := HB.out.size; simp; omega) (fun q hq => (HO.out.lt q hq).1)); have HO9 := Lib.hid hown9; clear hown9 hgrow hat)
        go_roundw
        case rel =>
          refine ⟨i + 1, some ⟨g, 0, none⟩, cap, by omega, by first | go_num | rfl, ?_⟩
          rw [HC.out]
          dsimp only
          exact ⟨by first | go_num | rfl, by simp, by simpa [sl] using HO9.out, HB9.out⟩
        case measure => first | (simp [intOf]; done) | (simp [intOf]; omega)
      · have hlt : i < N := by omega
        have hne : ((i : Int) == (N : Int)) = false := by simp; omega
        by_cases h10 : s.data.toList[i]? = some 47
        · have HC := Lib.hid (HSTi.out (.inr h10))
          have hb := byte_nl (show i < s.size by omega) h10
          clear HSTi HNOi HST HNO h10
          go_wp2_with (refine wpList_append_lies _ rfl _ _ _ rfl w.heap.size 9 i0 _ 1 16 Tryz.underlying29 hi0 hz0 hz1 hz2 rfl (by omega) (.slice A out.length c) out.length (sl out) (by rfl) (HO.out.alloc _) ⟨wr.heap.size, 0, none⟩ 1 1 [.string (s.extract fr i)] (by rfl) (by rfl) (World.news_of_block (cs := #[.string (s.extract fr i)]) (t := 9) (fr := (0, 0)) (heap_alloc_new wr _)) (by simp [Value.oneCell']) (by omega) (by unfold maxLen; omega) (by omega) (by simp; have := HB.out.size; omega) (wr.heap.size + 1) (by simp) ?_; intro g cap w9 hown9 hgrow hat hlt9; have HB9 := Lib.hid ((below_al HB.out (.cells #[.string (s.extract fr i)] 9)).grown hgrow (by have := HB.out.size; simp; omega) (fun q hq => (HO.out.lt q hq).1)); have HO9 := Lib.hid hown9; clear hown9 hgrow hat)
          go_roundw
          case rel =>
            refine ⟨i + 1, some ⟨g, 0, none⟩, cap, by omega, by first | go_num | rfl, ?_⟩
            rw [HC.out]
            dsimp only
            exact ⟨by first | go_num | rfl, by simp, by simpa [sl] using HO9.out, HB9.out⟩
          case measure => first | (simp [intOf]; done) | (simp [intOf]; omega)
        · have HC := Lib.hid (HNOi.out (fun h => h.elim hend h10))
          have hb := byte_no (show i < s.size by omega) h10
          clear HSTi HNOi HST HNO h10
          go_wp2_with fail
          go_roundw
          case rel =>
            refine ⟨i + 1, A, c, by omega, by first | go_num | rfl, ?_⟩
            rw [HC.out]
            exact ⟨rfl, rfl, HO.out, HB.out⟩
          case measure => first | (simp [intOf]; done) | (simp [intOf]; omega)
    · obtain rfl : i = N + 1 := by omega
      go_wp2_with fail
      go_ret
      exact ⟨A, c, rfl, HO.out, HB.out⟩
end Go.Proofs.YtadkpmmbnenemaaGreatDoor.Cx
