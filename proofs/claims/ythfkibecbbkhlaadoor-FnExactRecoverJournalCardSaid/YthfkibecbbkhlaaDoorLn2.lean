/-
  spec.l01Cut at a newline.
-/
import Derived.Test.YthfkibecbbkhlaaDoorProg
import Derived.Test.YthfkibecbbkhlaaDoorMem
import Derived.Test.YthfkibecbbkhlaaDoorOut
import Derived.Test.YthfkibecbbkhlaaDoorLn1
import Derived.Test.YthfkibecbbkhlaaDoorTst
namespace Go.Proofs.YthfkibecbbkhlaaDoor
open Go Go.RowKit

theorem cutB_len (t : ByteArray) : ∀ i, (cutB t i).1.length ≤ i := by
  intro i
  induction i with
  | zero => exact Nat.le_refl _
  | succ i ih =>
    rw [cutB]
    split
    · rw [List.length_append, List.length_singleton]
      omega
    · omega
theorem byte_at {s : ByteArray} {i : Nat} (h : i < s.size) : s.data.toList[i]? = some s[i] := by
  have h' : i < s.data.toList.length := by rw [← Lib.size_eq]; exact h
  rw [List.getElem?_eq_getElem h']
  rfl
theorem byte_nl {s : ByteArray} {i : Nat} (h : i < s.size) (h10 : s.data.toList[i]? = some 10) : (((s[i]'h).toNat : Int) == 10) = true := by
  rw [byte_at h] at h10
  injection h10 with h10
  rw [h10]
  rfl
theorem byte_no {s : ByteArray} {i : Nat} (h : i < s.size) (h10 : ¬ s.data.toList[i]? = some 10) : (((s[i]'h).toNat : Int) == 10) = false := by
  rw [byte_at h] at h10
  refine beq_eq_false_iff_ne.2 fun e => h10 ?_
  have : (s[i]'h).toNat = (10 : UInt8).toNat := by
    show _ = 10
    omega
  rw [UInt8.toNat_inj.1 this]
def cutOut (s : ByteArray) (w : World) (e : Ending) (w' : World) : Prop :=
  ∃ A c, e = .returned (.slice A (cutB s (s.size + 1)).1.length c) ∧ w'.ownsRow w.heap.size 9 1 (.slice A (cutB s (s.size + 1)).1.length c) (cutB s (s.size + 1)).1.length (sl (cutB s (s.size + 1)).1) ∧ Below w.heap.size w w'
set_option maxRecDepth 100000 in
set_option maxHeartbeats 3200000 in
theorem l01Cut_any (s : ByteArray) (w : World) (hs : s.size ≤ 16000) : Calls Tryd.prog 30 #[.string s, .int .u8 10] w (cutOut s w) := by
  obtain ⟨i0, hi0, hz0, hz1, hz2⟩ := info_parts info_str
  have HLE : Hid (∀ i, i ≤ s.size → (cutB s i).2 ≤ i) := Lib.hid fun i hi => (cutB_inv s i hi).1
  have HLN : Hid (∀ i, (cutB s i).1.length ≤ i) := Lib.hid (cutB_len s)
  have HST : Hid (∀ i, i ≤ s.size → (i = s.size ∨ s.data.toList[i]? = some 10) → cutB s (i + 1) = ((cutB s i).1 ++ [s.extract (cutB s i).2 i], i + 1)) := Lib.hid fun i _ h => by rw [cutB, if_pos h]
  have HNO : Hid (∀ i, ¬ (i = s.size ∨ s.data.toList[i]? = some 10) → cutB s (i + 1) = cutB s i) := Lib.hid fun i h => by rw [cutB, if_neg h]
  have H0 : Hid (cutB s 0 = ([], 0)) := Lib.hid rfl
  unfold cutOut
  generalize hN : s.size = N at *
  go_enter Tryd.func30, Tryd.ntmps30
  go_wp2_with fail
  have START : Hid (Below w.heap.size w (w.alloc (.cells #[] 9)) ∧ (w.alloc (.cells #[] 9)).ownsRow w.heap.size 9 1 (.slice (some ⟨w.heap.size, 0, none⟩) 0 0) 0 (sl [])) := Lib.hid ⟨below_al (Below.refl _ _) _, World.ownsRow_made w #[] 0 (Nat.le_refl _) (by unfold maxLen; omega) rfl⟩
  go_loopw [5, 6, 7] (fun v fv iv wr => ∃ i A c, i ≤ N + 1 ∧ iv = .int .i64 (i : Nat) ∧ fv = .int .i64 ((cutB s i).2 : Nat) ∧ v = .slice A (cutB s i).1.length c ∧ wr.ownsRow w.heap.size 9 1 (.slice A (cutB s i).1.length c) (cutB s i).1.length (sl (cutB s i).1) ∧ Below w.heap.size w wr) (fun _ _ iv _ => N + 1 - (intOf iv).toNat)
  case atStart => exact ⟨0, _, _, Nat.zero_le _, rfl, by rw [H0.out]; rfl, by rw [H0.out]; rfl, by rw [H0.out]; exact START.out.2, START.out.1⟩
  case round =>
    obtain ⟨i, A, c, hi, rfl, rfl, rfl, hown, hbw⟩ := hrel
    rename World => wr
    have HO := Lib.hid hown
    have HB := Lib.hid hbw
    have hln := HLN.out i
    clear hown hbw
    by_cases hiN : i ≤ N
    · have hle := HLE.out i hiN
      have HSTi := Lib.hid (HST.out i hiN)
      have HNOi := Lib.hid (HNO.out i)
      generalize hcu : cutB s i = cu at *
      obtain ⟨out, fr⟩ := cu
      dsimp only at *
      have hlo : out.length ≤ i := hln
      by_cases hend : i = N
      · subst hend
        have HC := Lib.hid (HSTi.out (.inl rfl))
        clear HSTi HNOi HST HNO
        go_wp2_with (refine wpList_append_lies _ rfl _ _ _ rfl w.heap.size 9 i0 _ 1 16 Tryd.underlying22 hi0 hz0 hz1 hz2 rfl (by omega) (.slice A out.length c) out.length (sl out) (by rfl) (HO.out.alloc _) ⟨wr.heap.size, 0, none⟩ 1 1 [.string (s.extract fr i)] (by rfl) (by rfl) (World.news_of_block (cs := #[.string (s.extract fr i)]) (t := 9) (fr := (0, 0)) (heap_alloc_new wr _)) (by simp [Value.oneCell']) (by omega) (by unfold maxLen; omega) (by omega) (by simp; have := HB.out.size; omega) (wr.heap.size + 1) (by simp) ?_; intro g cap w9 hown9 hgrow hat hlt9; have HB9 := Lib.hid ((below_al HB.out (.cells #[.string (s.extract fr i)] 9)).grown hgrow (by have := HB.out.size; simp; omega) (fun q hq => (HO.out.lt q hq).1)); have HO9 := Lib.hid hown9; clear hown9 hgrow hat)
        go_roundw
        case rel =>
          refine ⟨i + 1, some ⟨g, 0, none⟩, cap, by omega, by first | go_num | rfl, ?_⟩
          rw [HC.out]
          dsimp only
          exact ⟨by first | go_num | rfl, by simp, by simpa [sl] using HO9.out, HB9.out⟩
        case measure => first | (simp [intOf]; done) | (simp [intOf]; omega)
      · have hlt : i < N := by omega
        have hne : ((i : Int) == (N : Int)) = false := by simp; omega
        by_cases h10 : s.data.toList[i]? = some 10
        · have HC := Lib.hid (HSTi.out (.inr h10))
          have hb := byte_nl (show i < s.size by omega) h10
          clear HSTi HNOi HST HNO h10
          go_wp2_with (refine wpList_append_lies _ rfl _ _ _ rfl w.heap.size 9 i0 _ 1 16 Tryd.underlying22 hi0 hz0 hz1 hz2 rfl (by omega) (.slice A out.length c) out.length (sl out) (by rfl) (HO.out.alloc _) ⟨wr.heap.size, 0, none⟩ 1 1 [.string (s.extract fr i)] (by rfl) (by rfl) (World.news_of_block (cs := #[.string (s.extract fr i)]) (t := 9) (fr := (0, 0)) (heap_alloc_new wr _)) (by simp [Value.oneCell']) (by omega) (by unfold maxLen; omega) (by omega) (by simp; have := HB.out.size; omega) (wr.heap.size + 1) (by simp) ?_; intro g cap w9 hown9 hgrow hat hlt9; have HB9 := Lib.hid ((below_al HB.out (.cells #[.string (s.extract fr i)] 9)).grown hgrow (by have := HB.out.size; simp; omega) (fun q hq => (HO.out.lt q hq).1)); have HO9 := Lib.hid hown9; clear hown9 hgrow hat)
          go_roundw
          case rel =>
            refine ⟨i + 1, some ⟨g, 0, none⟩, cap, by omega, by first | go_num | rfl, ?_⟩
            rw [HC.out]
            dsimp only
            exact ⟨by first | go_num | rfl, by simp, by simpa [sl] using HO9.out, HB9.out⟩
          case measure => first | (simp [intOf]; done) | (simp [intOf]; omega)
        · have HC := Lib.hid (HNOi.out (fun h => h.elim hend h10))
          have hb := byte_no (show i < s.size by omega) h10
          clear HSTi HNOi HST HNO h10
          go_wp2_with fail
          go_roundw
          case rel =>
            refine ⟨i + 1, A, c, by omega, by first | go_num | rfl, ?_⟩
            rw [HC.out]
            exact ⟨rfl, rfl, HO.out, HB.out⟩
          case measure => first | (simp [intOf]; done) | (simp [intOf]; omega)
    · obtain rfl : i = N + 1 := by omega
      go_wp2_with fail
      go_ret
      exact ⟨A, c, rfl, HO.out, HB.out⟩
end Go.Proofs.YthfkibecbbkhlaaDoor
