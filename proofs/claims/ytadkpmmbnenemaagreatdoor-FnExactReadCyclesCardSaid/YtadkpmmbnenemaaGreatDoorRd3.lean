/-
  Lists of numbers that a text tells: spec.l01Numbers, impl.ReadList.
-/
import Derived.Test.YtadkpmmbnenemaaGreatDoorRd2
import Derived.Test.YtadkpmmbnenemaaGreatDoorCc
import Derived.Lib.SplitLaws
namespace Go.Proofs.YtadkpmmbnenemaaGreatDoor
open Go Go.RowKit

def commaS : ByteArray := ⟨#[44]⟩
/-- the words between commas -/
def wordsOf (s : ByteArray) : List ByteArray := Lib.splitB commaS 0 (Lib.countB s commaS) s
theorem words_bytes (s : ByteArray) : Cc.bytesOf (wordsOf s) = Lib.split s.data.toList [44] := Lib.splitB_data commaS 0 _ _
theorem words_len (s : ByteArray) : (wordsOf s).length = Lib.countB s commaS + 1 := Lib.splitB_all commaS (by decide) 0 _ _ rfl
theorem bytes_inj_list : ∀ {xs ys : List ByteArray}, xs.map (·.data.toList) = ys.map (·.data.toList) → xs = ys := by
  intro xs
  induction xs with
  | nil => intro ys h; cases ys with
    | nil => rfl
    | cons y ys => cases h
  | cons x xs ih =>
    intro ys h
    cases ys with
    | nil => cases h
    | cons y ys =>
      rw [List.map_cons, List.map_cons] at h
      injection h with h1 h2
      rw [WideShapes.bytes_inj h1, ih h2]
theorem cut_words (s : ByteArray) : (Cc.cutB s (s.size + 1)).1 = wordsOf s := bytes_inj_list (by
  have h1 := Cc.cutB_all s
  have h2 := words_bytes s
  unfold Cc.bytesOf at h1 h2
  rw [h1, h2])
theorem cut_sizes (s : ByteArray) : ∀ i, i ≤ s.size + 1 → ∀ p ∈ (Cc.cutB s i).1, p.size ≤ s.size := by
  intro i
  induction i with
  | zero => intro _ p hp; simp [Cc.cutB] at hp
  | succ i ih =>
    intro hi p hp
    rw [Cc.cutB] at hp
    split at hp
    · rcases List.mem_append.1 hp with hp | hp
      · exact ih (by omega) p hp
      · rw [List.mem_singleton] at hp
        subst hp
        rw [Lib.size_eq, Lib.extract_data, Lib.size_eq, List.length_take, List.length_drop]
        omega
    · exact ih (by omega) p hp
theorem word_size {s p : ByteArray} (h : p ∈ wordsOf s) : p.size ≤ s.size := cut_sizes s (s.size + 1) (Nat.le_refl _) p (by rw [cut_words]; exact h)
def okW (p : ByteArray) : Bool := (rdV p.data.toList).2
def numL (ws : List ByteArray) : List Int := ws.map fun p => (rdV p.data.toList).1
/-- the numbers that a text tells, and whether it tells any -/
def nums (s : ByteArray) : List Int × Bool := if s.toList == [110, 111, 110, 101] then ([], true) else if (wordsOf s).length ≤ 64 ∧ (wordsOf s).all okW = true then (numL (wordsOf s), true) else ([], false)
theorem nums_none {s : ByteArray} (h : (s.toList == [110, 111, 110, 101]) = true) : nums s = ([], true) := by unfold nums; rw [if_pos h]
theorem nums_no {s : ByteArray} {i : Nat} (h : (s.toList == [110, 111, 110, 101]) = false) (hi : i < (wordsOf s).length) (hf : okW (wordsOf s)[i] = false) : nums s = ([], false) := by
  unfold nums
  rw [if_neg (by rw [h]; decide), if_neg]
  intro hh
  have := List.all_eq_true.1 hh.2 _ (List.getElem_mem hi)
  rw [hf] at this
  cases this
theorem nums_big {s : ByteArray} (h : (s.toList == [110, 111, 110, 101]) = false) (hi : 64 < (wordsOf s).length) : nums s = ([], false) := by
  unfold nums
  rw [if_neg (by rw [h]; decide), if_neg]
  intro hh
  omega
theorem nums_yes {s : ByteArray} (h : (s.toList == [110, 111, 110, 101]) = false) (hi : (wordsOf s).length ≤ 64) (ha : ((wordsOf s).take (wordsOf s).length).all okW = true) : nums s = (numL ((wordsOf s).take (wordsOf s).length), true) := by
  rw [List.take_length] at ha ⊢
  unfold nums
  rw [if_neg (by rw [h]; decide), if_pos ⟨hi, ha⟩]
theorem num_succ {ws : List ByteArray} {i : Nat} (h : i < ws.length) : il (numL (ws.take (i + 1))) = il (numL (ws.take i)) ++ [.int .i64 (rdV ws[i].data.toList).1] := by
  rw [List.take_succ_eq_append_getElem h]
  unfold numL il
  rw [List.map_append, List.map_append]
  rfl
theorem all_succ {ws : List ByteArray} {i : Nat} (h : i < ws.length) (ha : (ws.take i).all okW = true) (hb : okW ws[i] = true) : (ws.take (i + 1)).all okW = true := by
  rw [List.take_succ_eq_append_getElem h, List.all_append, ha]
  simp [hb]
theorem numL_len (ws : List ByteArray) : (numL ws).length = ws.length := by simp [numL]
def NumsOut (s : ByteArray) (w : World) (e : Ending) (w' : World) : Prop := ∃ A c, e = .returned (.tuple #[.slice A (nums s).1.length c, .bool (nums s).2]) ∧ w'.ownsRow w.heap.size 2 1 (.slice A (nums s).1.length c) (nums s).1.length (il (nums s).1) ∧ Below w.heap.size w w'
theorem grown_cell {w w' : World} {row : Option Nat} (h : w.grownBy w' row) {p : Addr} (hp : p.block < w.heap.size) (hne : some p.block ≠ row) : w'.cell? p = w.cell? p := World.cell?_of_block (a := p) (h.block p.block hp hne)
theorem nil_own (w : World) (base : Nat) : w.ownsRow base 2 1 (.slice none 0 0) 0 (il []) := ⟨rfl, .inl ⟨rfl, rfl⟩⟩
def PartsOut (s : ByteArray) (w : World) (e : Ending) (w' : World) : Prop :=
  ((s.toList == [110, 111, 110, 101]) = true → e = .returned (.slice none 0 0) ∧ w' = w) ∧
  ((s.toList == [110, 111, 110, 101]) = false → e = .returned (.slice (some ⟨w.heap.size, 0, none⟩) (wordsOf s).length (wordsOf s).length) ∧ w' = w.alloc (.cells ((wordsOf s).map Value.string).toArray 9))
theorem partsOrNone_any (s : ByteArray) (w : World) (hs : s.size ≤ 1048576) (mx : Int) (hmx : w.cell? ⟨0, 0, none⟩ = some (.int .i64 mx)) : Calls Tryz.prog 19 #[.string s] w (PartsOut s w) := by
  have HSP := Lib.hid (Tryz.strings_Split s commaS mx w (by omega) hmx (by decide))
  have HWL := words_len s
  have HWC : Hid (Lib.splitB commaS 0 (Lib.countB s commaS) s = wordsOf s) := Lib.hid rfl
  unfold PartsOut
  rw [HWC.out, ← HWL] at HSP
  clear HWL HWC hmx
  have hcm : commaS = ⟨#[44]⟩ := rfl
  rw [hcm] at HSP
  clear hcm
  generalize wordsOf s = ws at *
  go_enter Tryz.func19, Tryz.ntmps19
  cases hnone : (s.toList == [110, 111, 110, 101]) with
  | true =>
    go_wp2_with fail
    go_ret
    first | exact ⟨rfl, rfl⟩ | exact ⟨fun _ => ⟨rfl, rfl⟩, (fun h => by cases h)⟩
  | false =>
    go_wp2_with (go_at_call 10; refine HSP.out.mono ?_; rintro e w1 ⟨rfl, rfl⟩)
    go_ret
    first | exact ⟨rfl, rfl⟩ | exact ⟨(fun h => by cases h), fun _ => ⟨rfl, rfl⟩⟩
theorem word_cell {w : World} {ws : List ByteArray} {k : Nat} (h : k < ws.length) : (w.alloc (.cells (ws.map Value.string).toArray 9)).cell? ⟨w.heap.size, k, none⟩ = some (.string ws[k]) := by
  simp [go_sem, h]
set_option maxRecDepth 100000 in
set_option maxHeartbeats 6400000 in
theorem ReadList_any (s : ByteArray) (w : World) (hs : s.size ≤ 1048576) (he : Env w) : Calls Tryz.prog 11 #[.string s] w (NumsOut s w) := by
  obtain ⟨i0, hi0, hz0, hz1, hz2⟩ := info_parts info_i64
  obtain ⟨_, ⟨mx, hmx⟩, _, _⟩ := id he
  have HP := Lib.hid (partsOrNone_any s w hs mx hmx)
  have HTB := Lib.hid he
  have HNN := Lib.hid (nums_none (s := s))
  have HRD : Hid (∀ i (h : i < (wordsOf s).length) W, Env W → Calls Tryz.prog 20 #[.string (wordsOf s)[i]] W (RdOut (wordsOf s)[i] W)) := Lib.hid fun i h W he => ReadDecimal_any _ W (Nat.le_trans (word_size (List.getElem_mem h)) hs) he
  have HOKD : Hid (∀ i (h : i < (wordsOf s).length), okW (wordsOf s)[i] = (rdV (wordsOf s)[i].data.toList).2) := Lib.hid fun i h => rfl
  have HNO := Lib.hid fun i h h1 h2 => nums_no (s := s) (i := i) h h1 h2
  have HBIG := Lib.hid (nums_big (s := s))
  have HYES := Lib.hid (nums_yes (s := s))
  have HSUC : Hid (∀ i (h : i < (wordsOf s).length), il (numL ((wordsOf s).take (i + 1))) = il (numL ((wordsOf s).take i)) ++ [.int .i64 (rdV (wordsOf s)[i].data.toList).1]) := Lib.hid fun i h => num_succ h
  have HALS : Hid (∀ i (h : i < (wordsOf s).length), ((wordsOf s).take i).all okW = true → okW (wordsOf s)[i] = true → ((wordsOf s).take (i + 1)).all okW = true) := Lib.hid fun i h h1 h2 => all_succ h h1 h2
  have HNL : Hid (∀ i, i ≤ (wordsOf s).length → (numL ((wordsOf s).take i)).length = i) := Lib.hid fun i h => by rw [numL_len, List.length_take]; omega
  have HCL : Lib.countB s commaS ≤ s.size := Lib.countB_le commaS (by decide) _ s (Nat.le_refl _)
  have HWL := words_len s
  have hpos : 0 < (wordsOf s).length := by omega
  have hfew : (wordsOf s).length ≤ 1048577 := by omega
  have HWD : Hid (∀ k (h : k < (wordsOf s).length), (w.alloc (.cells ((wordsOf s).map Value.string).toArray 9)).cell? ⟨w.heap.size, k, none⟩ = some (.string (wordsOf s)[k])) := Lib.hid fun k h => word_cell h
  unfold NumsOut
  unfold RdOut at HRD
  unfold PartsOut at HP
  clear he hmx HWL HCL
  generalize nums s = V at *
  generalize wordsOf s = ws at *
  go_enter Tryz.func11, Tryz.ntmps11
  cases hnone : (s.toList == [110, 111, 110, 101]) with
  | true =>
    have HV := Lib.hid (HNN.out hnone)
    have HN : Hid ((s.toList == [110, 111, 110, 101]) = true) := Lib.hid hnone
    clear hnone
    go_wp2_with fail
    refine HP.out.mono ?_
    intro e w1 hq
    obtain ⟨rfl, rfl⟩ := hq.1 HN.out
    clear hq
    go_wp2_with fail
    go_loopw [5, 15] (fun lv iv wr => iv = .int .i64 (0 : Nat) ∧ lv = .slice (some ⟨w1.heap.size, 0, none⟩) 0 0 ∧ wr = w1.alloc (.cells #[] 2)) (fun _ _ _ => 0)
    case atStart => exact ⟨rfl, rfl, rfl⟩
    case round =>
    obtain ⟨rfl, rfl, rfl⟩ := hrel
    go_wp2_with fail
    go_ret2
    rw [HV.out]
    exact ⟨some ⟨_, 0, none⟩, 0, rfl, World.ownsRow_made _ #[] 0 (Nat.le_refl _) (by unfold maxLen; omega) rfl, below_al (Below.refl _ _) _⟩
  | false =>
    have HN : Hid ((s.toList == [110, 111, 110, 101]) = false) := Lib.hid hnone
    have hnn := hnone
    clear hnone
    go_wp2_with fail
    refine HP.out.mono ?_
    intro e w1 hq
    obtain ⟨rfl, rfl⟩ := hq.2 HN.out
    generalize hW1 : World.alloc w _ = w1 at *
    have hsz1 : w.heap.size < w1.heap.size := by rw [← hW1]; simp
    have B1 : Hid (Below w.heap.size w w1) := Lib.hid (by rw [← hW1]; exact below_al (Below.refl _ _) _)
    clear hW1 hq hnn
    go_wp2_with fail
    have START : Hid ((w1.alloc (.cells #[] 2)).ownsRow w1.heap.size 2 1 (.slice (some ⟨w1.heap.size, 0, none⟩) 0 0) 0 (il (numL (ws.take 0))) ∧ Below w1.heap.size w1 (w1.alloc (.cells #[] 2))) := Lib.hid ⟨World.ownsRow_made w1 #[] 0 (Nat.le_refl _) (by unfold maxLen; omega) rfl, below_al (Below.refl _ _) _⟩
    go_loopw [5, 15] (fun lv iv wr => ∃ (i : Nat) (B : Option Addr) (d : Nat), i ≤ ws.length ∧ (0 < i → ws.length ≤ 64) ∧ iv = .int .i64 i ∧ lv = .slice B i d ∧ wr.ownsRow w1.heap.size 2 1 (.slice B i d) i (il (numL (ws.take i))) ∧ (ws.take i).all okW = true ∧ Below w1.heap.size w1 wr) (fun _ iv _ => ws.length - (intOf iv).toNat)
    case atStart => exact ⟨0, _, 0, Nat.zero_le _, (fun h => by omega), rfl, rfl, START.out.1, rfl, START.out.2⟩
    case round =>
      obtain ⟨i, B, d, hi, h64, rfl, rfl, hown, hall, hbw⟩ := hrel
      rename World => wr
      have HO := Lib.hid hown
      have HB := Lib.hid hbw
      have HALL := Lib.hid hall
      have HSZ : Hid (w1.heap.size ≤ wr.heap.size) := Lib.hid hbw.size
      have H64 := Lib.hid h64
      clear hown hbw hall h64
      by_cases hlt : i < ws.length
      · have hc := (HB.out.cell (p := ⟨w.heap.size, i, none⟩) hsz1).trans (HWD.out i hlt)
        have HRDi := Lib.hid (HRD.out i hlt)
        have HOKi := Lib.hid (HOKD.out i hlt)
        have HNOi := Lib.hid (HNO.out i HN.out hlt)
        have HSi := Lib.hid (HSUC.out i hlt)
        have HAi := Lib.hid (HALS.out i hlt HALL.out)
        have HEN : Hid (Env wr) := Lib.hid ((HTB.out.keep B1.out).keep HB.out)
        clear HRD HOKD HNO HSUC HALS
        generalize ws[i] = p at *
        generalize rdV p.data.toList = Rv at *
        obtain ⟨v, b⟩ := Rv
        dsimp only at HRDi HOKi HSi
        rw [HOKi.out] at HNOi HAi
        cases b with
        | false =>
          have HF := Lib.hid (HNOi.out rfl)
          clear HNOi HAi
          go_wp2_with (go_at_call 20; refine (HRDi.out _ HEN.out).mono ?_; rintro e w4 ⟨rfl, hb4⟩; have HB4 := Lib.hid hb4; clear hb4)
          go_ret2
          rw [HF.out]
          exact ⟨none, 0, rfl, nil_own _ _, below_next B1.out (below_next HB.out HB4.out)⟩
        | true =>
          by_cases hbig : ws.length ≤ 64
          · have HA2 := Lib.hid (HAi.out rfl)
            clear HNOi HAi
            go_wp2_with (first
              | (go_at_call 20; refine (HRDi.out _ HEN.out).mono ?_; rintro e w4 ⟨rfl, hb4⟩; have HB4 := Lib.hid hb4; clear hb4)
              | (refine wpList_append_lies _ rfl _ _ _ rfl w1.heap.size 2 i0 _ 1 8 Tryz.underlying22 hi0 hz0 hz1 hz2 rfl (by omega) (.slice B i d) i (il (numL (ws.take i))) (by rfl) ((own_below HO.out HB4.out).alloc _) ⟨w4.heap.size, 0, none⟩ 1 1 [.int .i64 v] (by rfl) (by rfl) (World.news_of_block (cs := #[.int .i64 v]) (t := 2) (fr := (0, 0)) (heap_alloc_new w4 _)) (by simp [Value.oneCell']) (by omega) (by unfold maxLen; omega) (by omega) (by have := HB4.out.size; have := HSZ.out; simp; omega) (w4.heap.size + 1) (by simp) ?_; intro g cap w9 hown9 hgrow hat hlt9; have HO9 := Lib.hid hown9; have HB9 := Lib.hid ((below_al (below_next HB.out HB4.out) (.cells #[.int .i64 v] 2)).grown hgrow (by have := HB4.out.size; have := HSZ.out; simp; omega) (fun q hq => ((own_below HO.out HB4.out).lt q hq).1)); clear hown9 hgrow hat hlt9))
            go_roundw
            case rel => exact ⟨i + 1, some ⟨g, 0, none⟩, cap, by omega, (fun _ => hbig), by go_num, rfl, by rw [HSi.out]; exact HO9.out, HA2.out, HB9.out⟩
            case measure => simp [intOf]; omega
          · have HF := Lib.hid (HBIG.out HN.out (by omega))
            clear HNOi HAi
            go_wp2_with (go_at_call 20; refine (HRDi.out _ HEN.out).mono ?_; rintro e w4 ⟨rfl, hb4⟩; have HB4 := Lib.hid hb4; clear hb4)
            go_ret2
            rw [HF.out]
            exact ⟨none, 0, rfl, nil_own _ _, below_next B1.out (below_next HB.out HB4.out)⟩
      · obtain rfl : i = ws.length := by omega
        have HV := Lib.hid (HYES.out HN.out (H64.out hpos) HALL.out)
        have HLN := HNL.out ws.length (Nat.le_refl _)
        go_wp2_with fail
        go_ret2
        rw [HV.out]
        dsimp only
        rw [HLN]
        exact ⟨B, d, rfl, own_base HO.out (by omega), below_next B1.out HB.out⟩
set_option maxRecDepth 100000 in
set_option maxHeartbeats 6400000 in
theorem l01Numbers_any (s : ByteArray) (w : World) (hs : s.size ≤ 1048576) : Calls Tryz.prog 15 #[.string s] w (NumsOut s w) := by
  obtain ⟨i0, hi0, hz0, hz1, hz2⟩ := info_parts info_i64
  have HC := Lib.hid fun w => Cc.l01Cut_any s w hs
  have HNN := Lib.hid (nums_none (s := s))
  have HRD : Hid (∀ i (h : i < (wordsOf s).length) W, Calls Tryz.prog 28 #[.string (wordsOf s)[i]] W (RdOut (wordsOf s)[i] W)) := Lib.hid fun i h W => l01Value_any _ W (by have := word_size (List.getElem_mem h); omega)
  have HOKD : Hid (∀ i (h : i < (wordsOf s).length), okW (wordsOf s)[i] = (rdV (wordsOf s)[i].data.toList).2) := Lib.hid fun i h => rfl
  have HNO := Lib.hid fun i h h1 h2 => nums_no (s := s) (i := i) h h1 h2
  have HBIG := Lib.hid (nums_big (s := s))
  have HYES := Lib.hid (nums_yes (s := s))
  have HSUC : Hid (∀ i (h : i < (wordsOf s).length), il (numL ((wordsOf s).take (i + 1))) = il (numL ((wordsOf s).take i)) ++ [.int .i64 (rdV (wordsOf s)[i].data.toList).1]) := Lib.hid fun i h => num_succ h
  have HALS : Hid (∀ i (h : i < (wordsOf s).length), ((wordsOf s).take i).all okW = true → okW (wordsOf s)[i] = true → ((wordsOf s).take (i + 1)).all okW = true) := Lib.hid fun i h h1 h2 => all_succ h h1 h2
  have HNL : Hid (∀ i, i ≤ (wordsOf s).length → (numL ((wordsOf s).take i)).length = i) := Lib.hid fun i h => by rw [numL_len, List.length_take]; omega
  have HCL : Lib.countB s commaS ≤ s.size := Lib.countB_le commaS (by decide) _ s (Nat.le_refl _)
  have HWL := words_len s
  have hpos : 0 < (wordsOf s).length := by omega
  have hfew : (wordsOf s).length ≤ 1048577 := by omega
  unfold NumsOut
  unfold RdOut at HRD
  unfold Cc.cutOut at HC
  rw [cut_words] at HC
  clear HWL HCL
  generalize nums s = V at *
  generalize wordsOf s = ws at *
  go_enter Tryz.func15, Tryz.ntmps15
  cases hnone : (s.toList == [110, 111, 110, 101]) with
  | true =>
    have HV := Lib.hid (HNN.out hnone)
    go_wp2_with fail
    go_ret2
    rw [HV.out]
    exact ⟨some ⟨_, 0, none⟩, 0, rfl, World.ownsRow_made _ #[] 0 (Nat.le_refl _) (by unfold maxLen; omega) rfl, below_al (Below.refl _ _) _⟩
  | false =>
    have HN : Hid ((s.toList == [110, 111, 110, 101]) = false) := Lib.hid hnone
    go_wp2_with fail
    generalize hW1 : World.alloc w _ = w1
    have hsz1 : w1.heap.size = w.heap.size + 1 := by rw [← hW1]; simp
    have B1 : Hid (Below w.heap.size w w1) := Lib.hid (by rw [← hW1]; exact below_al (Below.refl _ _) _)
    have START : Hid (w1.ownsRow w.heap.size 2 1 (.slice (some ⟨w.heap.size, 0, none⟩) 0 0) 0 (il (numL (ws.take 0)))) := Lib.hid (by rw [← hW1]; exact World.ownsRow_made w #[] 0 (Nat.le_refl _) (by unfold maxLen; omega) rfl)
    clear hW1 hnone
    refine (HC.out _).mono ?_
    rintro e w2 ⟨A, c, rfl, ho2, hb2⟩
    cases A with
    | none => have := own_none ho2; omega
    | some a =>
      obtain ⟨g0, rfl, hg0⟩ := own_some ho2
      have hg2 : g0 < w2.heap.size := (ho2.lt g0 rfl).2
      have HWD : Hid (∀ k (h : k < ws.length), w2.cell? ⟨g0, k, none⟩ = some (.string ws[k])) := Lib.hid fun k h => by
        rw [ho2.cellAt k (by omega)]
        unfold sl
        rw [List.getElem?_map, List.getElem?_eq_getElem h]
        rfl
      have B2 := Lib.hid (below_next B1.out hb2)
      have O2 := Lib.hid (own_below START.out hb2)
      clear ho2 hb2 START B1
      by_cases hbig : ws.length ≤ 64
      · go_wp2_with fail
        go_loopw [4, 6] (fun lv iv wr => ∃ (i gb : Nat) (d : Nat), i ≤ ws.length ∧ iv = .int .i64 i ∧ lv = .slice (some ⟨gb, 0, none⟩) i d ∧ (gb = w.heap.size ∨ w2.heap.size ≤ gb) ∧ wr.ownsRow w.heap.size 2 1 (.slice (some ⟨gb, 0, none⟩) i d) i (il (numL (ws.take i))) ∧ (ws.take i).all okW = true ∧ w2.heap.size ≤ wr.heap.size ∧ (∀ k (h : k < ws.length), wr.cell? ⟨g0, k, none⟩ = some (.string ws[k])) ∧ Below w.heap.size w wr) (fun _ iv _ => ws.length - (intOf iv).toNat)
        case atStart => exact ⟨0, _, 0, Nat.zero_le _, rfl, rfl, .inl rfl, O2.out, rfl, Nat.le_refl _, HWD.out, B2.out⟩
        case round =>
          obtain ⟨i, gb, d, hi, rfl, rfl, hgb, hown, hall, hsz, hwd, hbw⟩ := hrel
          rename World => wr
          have HO := Lib.hid hown
          have HB := Lib.hid hbw
          have HALL := Lib.hid hall
          have HWR := Lib.hid hwd
          have HSZ : Hid (w2.heap.size ≤ wr.heap.size) := Lib.hid hsz
          have HGB := Lib.hid hgb
          have HSW : Hid (w.heap.size ≤ w2.heap.size) := Lib.hid B2.out.size
          clear hown hbw hall hwd hgb
          by_cases hlt : i < ws.length
          · have hc := HWR.out i hlt
            have HRDi := Lib.hid (HRD.out i hlt)
            have HOKi := Lib.hid (HOKD.out i hlt)
            have HNOi := Lib.hid (HNO.out i HN.out hlt)
            have HSi := Lib.hid (HSUC.out i hlt)
            have HAi := Lib.hid (HALS.out i hlt HALL.out)
            clear HOKD HNO HSUC HALS
            generalize hp : ws[i] = p at HRDi HOKi HNOi HSi HAi hc
            clear hp
            generalize rdV p.data.toList = Rv at *
            obtain ⟨v, b⟩ := Rv
            dsimp only at HRDi HOKi HSi
            rw [HOKi.out] at HNOi HAi
            cases b with
            | false =>
              have HF := Lib.hid (HNOi.out rfl)
              clear HNOi HAi
              go_wp2_with (go_at_call 28; refine (HRDi.out _).mono ?_; rintro e w4 ⟨rfl, hb4⟩; have HB4 := Lib.hid hb4; clear hb4)
              go_ret2
              rw [HF.out]
              exact ⟨none, 0, rfl, nil_own _ _, below_next HB.out HB4.out⟩
            | true =>
              have HA2 := Lib.hid (HAi.out rfl)
              clear HNOi HAi
              go_wp2_with (first
                | (go_at_call 28; refine (HRDi.out _).mono ?_; rintro e w4 ⟨rfl, hb4⟩; have HB4 := Lib.hid hb4; clear hb4)
                | (refine wpList_append_lies _ rfl _ _ _ rfl w.heap.size 2 i0 _ 1 8 Tryz.underlying22 hi0 hz0 hz1 hz2 rfl (by omega) (.slice (some ⟨gb, 0, none⟩) i d) i (il (numL (ws.take i))) (by rfl) ((own_below HO.out HB4.out).alloc _) ⟨w4.heap.size, 0, none⟩ 1 1 [.int .i64 v] (by rfl) (by rfl) (World.news_of_block (cs := #[.int .i64 v]) (t := 2) (fr := (0, 0)) (heap_alloc_new w4 _)) (by simp [Value.oneCell']) (by omega) (by unfold maxLen; omega) (by omega) (by have := HB4.out.size; have := HSZ.out; have := HSW.out; simp; omega) (w4.heap.size + 1) (by simp) ?_; intro g cap w9 hown9 hgrow hat hlt9; have HO9 := Lib.hid hown9; have HG9 := Lib.hid hgrow; have HAT := Lib.hid hat; have HB9 := Lib.hid ((below_al (below_next HB.out HB4.out) (.cells #[.int .i64 v] 2)).grown hgrow (by have := HB4.out.size; have := HB.out.size; simp; omega) (fun q hq => ((own_below HO.out HB4.out).lt q hq).1)); clear hown9 hgrow hat hlt9))
              go_roundw
              case rel =>
                have hs4 := HB4.out.size
                have hg9 : g = gb ∨ w2.heap.size ≤ g := by
                  rcases HAT.out with h | h
                  · injection h with h; exact .inl h.symm
                  · exact .inr (by have := HSZ.out; omega)
                refine ⟨i + 1, g, cap, by omega, by go_num, rfl, ?_, by rw [HSi.out]; exact HO9.out, HA2.out, ?_, ?_, HB9.out⟩
                · rcases hg9 with h | h
                  · rw [h]; exact HGB.out
                  · exact .inr h
                · have h1 := HG9.out.size
                  rw [World.size_alloc] at h1
                  have := HSZ.out
                  omega
                · intro k hk
                  have h1 := keepC (below_al HB4.out (.cells #[.int .i64 v] 2)) (HWR.out k hk)
                  refine (grown_cell (p := ⟨g0, k, none⟩) HG9.out ?_ ?_).trans h1
                  · have := HSZ.out
                    rw [World.size_alloc]
                    show g0 < _
                    omega
                  · intro e
                    injection e with e
                    change g0 = gb at e
                    rcases HGB.out with h | h <;> omega
              case measure => simp [intOf]; omega
          · obtain rfl : i = ws.length := by omega
            have HV := Lib.hid (HYES.out HN.out hbig HALL.out)
            have HLN := HNL.out ws.length (Nat.le_refl _)
            go_wp2_with fail
            go_ret2
            rw [HV.out]
            dsimp only
            rw [HLN]
            exact ⟨some ⟨gb, 0, none⟩, d, rfl, HO.out, HB.out⟩
      · have HF := Lib.hid (HBIG.out HN.out (by omega))
        go_wp2_with fail
        go_ret2
        rw [HF.out]
        exact ⟨none, 0, rfl, nil_own _ _, B2.out⟩
end Go.Proofs.YtadkpmmbnenemaaGreatDoor
