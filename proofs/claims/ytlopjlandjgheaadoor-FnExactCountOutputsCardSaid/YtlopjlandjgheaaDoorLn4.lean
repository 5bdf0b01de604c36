/-
  impl.linesOf, impl.CountOutputs.
-/
import Derived.Test.YtlopjlandjgheaaDoorLn3
import Derived.Test.YtlopjlandjgheaaDoorShelf
namespace Go.Proofs.YtlopjlandjgheaaDoor
open Go Go.RowKit

theorem getD_bytes (ps : List ByteArray) (q : Nat) : (ps.getD q ByteArray.empty).data.toList = (bytesOf ps).getD q [] := by
  unfold bytesOf
  rw [List.getD_eq_getElem?_getD, List.getD_eq_getElem?_getD, List.getElem?_map]
  cases ps[q]? <;> rfl
theorem piece_bytes (s : ByteArray) (q : Nat) : (pieceAt s q).toList = (Lib.split s.data.toList [10]).getD q [] := by
  rw [Lib.toList_data]
  unfold pieceAt
  rw [getD_bytes, cutB_all]
theorem lineN_eq (s : ByteArray) : lineN s = (Lib.split s.data.toList [10]).length - 1 := by
  unfold lineN
  rw [← cutB_all]
  unfold bytesOf
  rw [List.length_map]
theorem wrong_congr {f g : Nat → ByteArray} : ∀ {m : Nat}, (∀ q, q < m → (f q).toList = (g q).toList) → wrongN f m = wrongN g m := by
  intro m
  induction m with
  | zero => exact fun _ => rfl
  | succ m ih =>
    intro h
    rw [wrongN, wrongN, ih (fun q hq => h q (by omega))]
    unfold wrongB
    rw [h m (by omega)]
def nlS : ByteArray := ⟨#[10]⟩
def bodyOf (s : ByteArray) : ByteArray := ⟨(Lib.trimSuffix s.data.toList nlS.data.toList).toArray⟩
def implP (s : ByteArray) : List ByteArray := Lib.splitB nlS 0 (Lib.countB (bodyOf s) nlS) (bodyOf s)
theorem implP_bytes (s : ByteArray) : bytesOf (implP s) = Lib.split (bodyOf s).data.toList [10] := Lib.splitB_data nlS 0 _ _
theorem implP_len (s : ByteArray) : (implP s).length = Lib.countB (bodyOf s) nlS + 1 := Lib.splitB_all nlS (by decide) 0 _ _ rfl
/-- a text that ends with a newline -/
def endsB (s : ByteArray) : Bool := Lib.hasSuffix s.data.toList nlS.data.toList
theorem ends_body {s : ByteArray} (h : endsB s = true) : s.data.toList = (bodyOf s).data.toList ++ [10] := by
  unfold endsB at h
  have h1 : [10] <:+ s.data.toList := List.isSuffixOf_iff_suffix.1 h
  obtain ⟨b, hb⟩ := h1
  unfold bodyOf Lib.trimSuffix
  rw [if_pos h]
  show s.data.toList = s.data.toList.take (s.data.toList.length - 1) ++ [10]
  rw [← hb]
  simp
theorem ends_split {s : ByteArray} (h : endsB s = true) : Lib.split s.data.toList [10] = bytesOf (implP s) ++ [[]] := by
  rw [implP_bytes, ends_body h]
  exact split_snoc _ _ (Nat.le_refl _)
theorem ends_lineN {s : ByteArray} (h : endsB s = true) : lineN s = (implP s).length := by
  rw [lineN_eq, ends_split h, List.length_append]
  unfold bytesOf
  rw [List.length_map]
  rfl
theorem ends_piece {s : ByteArray} (h : endsB s = true) {q : Nat} (hq : q < (implP s).length) : (pieceAt s q).toList = ((implP s).getD q ByteArray.empty).toList := by
  rw [piece_bytes, ends_split h, Lib.toList_data, getD_bytes, List.getD_eq_getElem?_getD, List.getD_eq_getElem?_getD, List.getElem?_append_left (by unfold bytesOf; rw [List.length_map]; exact hq)]
theorem ends_ok {s : ByteArray} (h : endsB s = true) : okB s = decide (s.size ≤ 16000) := by
  unfold okB
  rw [piece_bytes, ends_lineN h, ends_split h, List.getD_eq_getElem?_getD, List.getElem?_append_right (by unfold bytesOf; rw [List.length_map]; exact Nat.le_refl _)]
  have : (bytesOf (implP s)).length = (implP s).length := by unfold bytesOf; rw [List.length_map]
  rw [this, Nat.sub_self]
  simp
theorem nil_ok {s : ByteArray} (h : s.toList = []) : okB s = true ∧ lineN s = 0 := by
  rw [Lib.toList_data] at h
  have hz : s.size = 0 := by rw [Lib.size_eq, h]; rfl
  have hl : lineN s = 0 := by rw [lineN_eq, h]; rfl
  refine ⟨?_, hl⟩
  unfold okB
  rw [piece_bytes, hl, h, hz]
  rfl
theorem other_no {s : ByteArray} (h : s.toList ≠ []) (he : endsB s = false) : okB s = false := by
  rw [Lib.toList_data] at h
  cases hk : okB s with
  | false => rfl
  | true =>
    exfalso
    unfold okB at hk
    rw [Bool.and_eq_true] at hk
    obtain ⟨-, hk⟩ := hk
    rw [piece_bytes, lineN_eq] at hk
    have hne : Lib.split s.data.toList [10] ≠ [] := fun e => by
      have := cutB_pos s
      have h2 := congrArg List.length (cutB_all s)
      rw [e] at h2
      unfold bytesOf at h2
      rw [List.length_map] at h2
      simp at h2
      rw [h2] at this
      simp at this
    have hl : (Lib.split s.data.toList [10]).getLast? = some [] := by
      rw [List.getLast?_eq_getElem?]
      rw [List.getD_eq_getElem?_getD] at hk
      have hlt : (Lib.split s.data.toList [10]).length - 1 < (Lib.split s.data.toList [10]).length := by
        have := List.length_pos_iff.2 hne
        omega
      rw [List.getElem?_eq_getElem hlt] at hk ⊢
      exact congrArg some (show _ = [] from List.isEmpty_iff.1 hk)
    rcases split_last _ _ (Nat.le_refl _) hl with h' | ⟨b, hb⟩
    · exact h h'
    · unfold endsB Lib.hasSuffix at he
      have : [10] <:+ s.data.toList := ⟨b, hb.symm⟩
      have h3 : nlS.data.toList.isSuffixOf s.data.toList = true := List.isSuffixOf_iff_suffix.2 this
      rw [h3] at he
      cases he
theorem sl_alloc {w : World} {ps : List ByteArray} {q : Nat} (hq : q < ps.length) : (w.alloc (.cells (ps.map Value.string).toArray 9)).cell? ⟨w.heap.size, q, none⟩ = some (.string (ps.getD q ByteArray.empty)) := by
  have : (w.alloc (.cells (ps.map Value.string).toArray 9)).cell? ⟨w.heap.size, q, none⟩ = (ps.map Value.string).toArray[q]? := by simp [go_sem]
  rw [this, List.getElem?_toArray, List.getElem?_map, List.getElem?_eq_getElem hq, List.getD_eq_getElem?_getD, List.getElem?_eq_getElem hq]
  rfl
def lofOut (s : ByteArray) (w : World) (e : Ending) (w' : World) : Prop :=
  e = .returned (.tuple #[.slice (some ⟨w.heap.size, 0, none⟩) (implP s).length (implP s).length, .bool (endsB s && decide (s.size ≤ 16000))]) ∧ (∀ q, q < (implP s).length → w'.cell? ⟨w.heap.size, q, none⟩ = some (.string ((implP s).getD q ByteArray.empty))) ∧ Below w.heap.size w w'
theorem trim_size (s : ByteArray) : (bodyOf s).size ≤ s.size := by
  rw [Lib.size_eq, Lib.size_eq]
  show (Lib.trimSuffix s.data.toList nlS.data.toList).length ≤ _
  unfold Lib.trimSuffix
  split
  · rw [List.length_take]; omega
  · exact Nat.le_refl _
set_option maxRecDepth 100000 in
set_option maxHeartbeats 1600000 in
theorem linesOf_nil (s : ByteArray) (w : World) (h : s.toList.isEmpty = true) : Calls Tryd.prog 7 #[.string s] w (fun e w' => e = .returned (.tuple #[.slice none 0 0, .bool true]) ∧ w = w') := by
  go_enter Tryd.func7, Tryd.ntmps7
  go_wp2_with fail
  refine bodyPost_ret (v := .tuple #[.slice none 0 0, .bool true]) (by simp [results, Tryd.results7, go_sem]) rfl ⟨rfl, rfl⟩
set_option maxRecDepth 100000 in
set_option maxHeartbeats 1600000 in
theorem linesOf_any (s : ByteArray) (w : World) (hs : s.size ≤ 1048576) (mx : Int) (hm : w.cell? ⟨0, 0, none⟩ = some (.int .i64 mx)) (h : s.toList.isEmpty = false) : Calls Tryd.prog 7 #[.string s] w (lofOut s w) := by
  have HC := Lib.hid (Tryd.strings_CutSuffix s nlS w (by omega))
  have HS := Lib.hid (Tryd.strings_Split (bodyOf s) nlS mx w (by have := trim_size s; omega) hm (by decide))
  have hN := Lib.splitB_all nlS (by decide) 0 _ (bodyOf s) rfl
  have HP : Hid (Lib.countB (bodyOf s) nlS + 1 = (implP s).length ∧ Lib.splitB nlS 0 (Lib.countB (bodyOf s) nlS) (bodyOf s) = implP s) := Lib.hid ⟨hN.symm, rfl⟩
  rw [HP.out.1, HP.out.2] at HS
  have HE : Hid (Lib.hasSuffix s.data.toList nlS.data.toList = endsB s ∧ (⟨(Lib.trimSuffix s.data.toList nlS.data.toList).toArray⟩ : ByteArray) = bodyOf s) := Lib.hid ⟨rfl, rfl⟩
  rw [HE.out.1, HE.out.2] at HC
  have HSL : Hid (∀ q, q < (implP s).length → (w.alloc (.cells ((implP s).map Value.string).toArray 9)).cell? ⟨w.heap.size, q, none⟩ = some (.string ((implP s).getD q ByteArray.empty))) := Lib.hid fun q hq => sl_alloc hq
  unfold lofOut
  unfold nlS at HC HS
  clear hN HP HE hm
  generalize endsB s = es at *
  generalize implP s = ps at *
  generalize bodyOf s = bo at *
  cases es with
  | false =>
    go_enter Tryd.func7, Tryd.ntmps7
    go_wp2_with (first
      | (go_at_call 9; refine HC.out.mono ?_; rintro e w2 ⟨rfl, rfl⟩)
      | (go_at_call 10; refine HS.out.mono ?_; rintro e w2 ⟨rfl, rfl⟩))
    refine bodyPost_ret (v := .tuple #[.slice (some ⟨w2.heap.size, 0, none⟩) ps.length ps.length, .bool false]) (by simp [results, Tryd.results7, go_sem]) rfl ⟨rfl, HSL.out, below_al (Below.refl _ _) _⟩
  | true =>
    by_cases h16 : s.size ≤ 16000
    all_goals
      go_enter Tryd.func7, Tryd.ntmps7
      go_wp2_with (first
        | (go_at_call 9; refine HC.out.mono ?_; rintro e w2 ⟨rfl, rfl⟩)
        | (go_at_call 10; refine HS.out.mono ?_; rintro e w2 ⟨rfl, rfl⟩))
      refine bodyPost_ret (v := .tuple #[.slice (some ⟨w2.heap.size, 0, none⟩) ps.length ps.length, .bool (decide (s.size ≤ 16000))]) (by simp [results, Tryd.results7, go_sem, h16]; omega) rfl ⟨by simp [h16], HSL.out, below_al (Below.refl _ _) _⟩
end Go.Proofs.YtlopjlandjgheaaDoor
