/-
  Lists of numbers as texts: spec.l01Text, impl.ListText.
-/
import Derived.Test.YtadkpmmbnenemaaGreatDoorCk
import Derived.Test.YtadkpmmbnenemaaGreatDoorDc1
import Derived.Test.YtadkpmmbnenemaaGreatDoorTi
import Derived.Lib.Join
import Derived.WideShapes
import Derived.Deep.RegionHeld3
namespace Go.Proofs.YtadkpmmbnenemaaGreatDoor
open Go Go.RowKit

/-- the table that the numeral is told by -/
def Tab (w : World) : Prop := Lib.TabIs Tryz.prog w "internal/strconv.uint64pow10" .u64 Lib.pow10Tab
theorem Tab.keep {w w' : World} (h : Tab w) (hb : Below w.heap.size w w') : Tab w' := (Lib.tabBelow_of_tabIs h) w' hb
/-- strings as cells -/
def sl (ps : List ByteArray) : List Value := ps.map Value.string
theorem sl_len (ps : List ByteArray) : (sl ps).length = ps.length := by simp [sl]
theorem str_of {s : ByteArray} {l : List UInt8} (h : s.data.toList = l) : s = ⟨l.toArray⟩ := WideShapes.bytes_inj (by rw [h])
theorem app_data (a b : ByteArray) : (a ++ b).data.toList = a.data.toList ++ b.data.toList := by simp [ByteArray.data_append]
/-- words with a comma between, or none -/
def noneOr (ws : List (List UInt8)) : List UInt8 := if ws = [] then [110, 111, 110, 101] else Lib.join ws [44]
def textL (xs : List Int) : List UInt8 := noneOr (xs.map Lib.itoa)
/-- the first of them -/
def jn (xs : List Int) (k : Nat) : List UInt8 := Lib.join ((xs.take k).map Lib.itoa) [44]
theorem join_snoc (l : List (List UInt8)) (x sep : List UInt8) (h : l ≠ []) : Lib.join (l ++ [x]) sep = Lib.join l sep ++ (sep ++ x) := by
  cases l with
  | nil => exact absurd rfl h
  | cons a r =>
    rw [List.cons_append, Lib.join_cons, Lib.join_cons, List.append_assoc]
    congr 1
    unfold Lib.joinTail
    rw [List.map_append, List.flatten_append]
    simp
theorem jn_one {xs : List Int} (h : 0 < xs.length) : jn xs 1 = Lib.itoa xs[0] := by
  unfold jn
  rw [List.take_succ_eq_append_getElem h]
  exact Lib.join_one _ _
theorem jn_succ {xs : List Int} {k : Nat} (h : k < xs.length) (hk : 1 ≤ k) : jn xs (k + 1) = jn xs k ++ ([44] ++ Lib.itoa xs[k]) := by
  unfold jn
  rw [List.take_succ_eq_append_getElem h, List.map_append]
  refine join_snoc _ _ _ ?_
  intro e
  have := congrArg List.length e
  simp only [List.length_map, List.length_take, List.length_nil] at this
  omega
theorem jn_end {xs : List Int} (h : 0 < xs.length) : jn xs xs.length = textL xs := by
  unfold jn textL noneOr
  rw [List.take_length, if_neg]
  intro e
  have := congrArg List.length e
  simp only [List.length_map, List.length_nil] at this
  omega
/-- numbers that the program's values are -/
def valB (n : Int) : Bool := inB n (-1000000000000000) 1000000000000000
def ValAll (xs : List Int) : Prop := ∀ k (h : k < xs.length), valB xs[k] = true
theorem jn_len {xs : List Int} (hv : ValAll xs) : ∀ k, 1 ≤ k → k ≤ xs.length → (jn xs k).length ≤ 22 * k := by
  intro k
  induction k with
  | zero => intro h; omega
  | succ k ih =>
    intro _ h
    have hlt : k < xs.length := by omega
    have hb := inB_of (hv k hlt)
    have hi := (itoa_len (n := xs[k]) (by omega)).2
    rcases Nat.eq_zero_or_pos k with h0 | h0
    · subst h0
      rw [jn_one hlt]
      omega
    · rw [jn_succ hlt h0]
      have := ih h0 (by omega)
      simp
      omega
def StrOut (l : List UInt8) (w : World) (e : Ending) (w' : World) : Prop := e = .returned (.string ⟨l.toArray⟩) ∧ Below w.heap.size w w'
set_option maxRecDepth 100000 in
set_option maxHeartbeats 1600000 in
theorem l01Text_any (A : Option Addr) (xs : List Int) (c : Nat) (w : World) (hx : xs.length ≤ 1048576) (hv : ValAll xs) (h : Rd w w.heap.size A (il xs)) :
    Calls Tryz.prog 32 #[.slice A xs.length c] w (StrOut (textL xs) w) := by
  have HH := Lib.hid h
  have HLEN : Hid (∀ k, 1 ≤ k → k ≤ xs.length → (⟨(jn xs k).toArray⟩ : ByteArray).size ≤ 22 * k) := Lib.hid fun k h1 h2 => by rw [Lib.size_eq]; exact jn_len hv k h1 h2
  have H1 : Hid (∀ h : 0 < xs.length, (⟨(Lib.itoa xs[0]).toArray⟩ : ByteArray) = ⟨(jn xs 1).toArray⟩) := Lib.hid fun h => by rw [jn_one h]
  have HS : Hid (∀ k (h : k < xs.length), 1 ≤ k → (⟨(jn xs k).toArray⟩ : ByteArray) ++ ((⟨#[44]⟩ : ByteArray) ++ ⟨(Lib.itoa xs[k]).toArray⟩) = ⟨(jn xs (k + 1)).toArray⟩) := Lib.hid fun k h hk => str_of (by rw [app_data, app_data, jn_succ h hk])
  have HE : Hid (0 < xs.length → jn xs xs.length = textL xs) := Lib.hid jn_end
  have H0 : Hid (xs.length = 0 → textL xs = [110, 111, 110, 101]) := Lib.hid fun h => by rw [List.length_eq_zero_iff.1 h]; rfl
  have HD : Hid (∀ k (h : k < xs.length) W, Calls Tryz.prog 51 #[.int .i64 xs[k]] W (DecOut xs[k] W)) := Lib.hid fun k h W => l01Dec_any _ W (by have := inB_of (hv k h); omega) (by have := inB_of (hv k h); omega)
  have HIL : Hid (∀ k (h : k < xs.length), (⟨(Lib.itoa xs[k]).toArray⟩ : ByteArray).size ≤ 21) := Lib.hid fun k h => by rw [Lib.size_eq]; exact (itoa_len (by have := inB_of (hv k h); omega)).2
  unfold StrOut
  unfold DecOut at HD
  clear h hv
  generalize textL xs = T at *
  generalize jn xs = J at *
  go_enter Tryz.func32, Tryz.ntmps32
  by_cases hz : xs.length = 0
  · have HT := Lib.hid (H0.out hz)
    have hlz : ((xs.length : Int) == 0) = true := by rw [hz]; rfl
    go_wp2_with fail
    go_ret
    exact ⟨by rw [HT.out]; rfl, Below.refl _ _⟩
  · have hp : 0 < xs.length := by omega
    have hlz : ((xs.length : Int) == 0) = false := by simpa using hz
    have H1' := Lib.hid (H1.out hp)
    have HE' := Lib.hid (HE.out hp)
    have HD0 := Lib.hid (HD.out 0 hp)
    obtain ⟨b, off, rfl, hb, hc⟩ := HH.out.ilAt hp
    clear H0 HE H1 hz
    generalize xs[0] = x0 at *
    generalize (⟨(Lib.itoa x0).toArray⟩ : ByteArray) = o0 at *
    rw [Nat.add_zero] at hc
    go_wp2_with fail
    refine (HD0.out _).mono ?_
    rintro e w1 ⟨rfl, hb1⟩
    have HB1 := Lib.hid hb1
    clear hb1 hc
    go_wp2_with fail
    go_loopw [3, 4] (fun sv iv wr => ∃ k : Nat, 1 ≤ k ∧ k ≤ xs.length ∧ iv = .int .i64 k ∧ sv = .string ⟨(J k).toArray⟩ ∧ Below w.heap.size w wr) (fun _ iv _ => xs.length - (intOf iv).toNat)
    case atStart => exact ⟨1, Nat.le_refl _, hp, rfl, by rw [H1'.out], HB1.out⟩
    case round =>
      obtain ⟨k, hk1, hk, rfl, rfl, hbw⟩ := hrel
      rename World => wr
      have HB := Lib.hid hbw
      clear hbw
      by_cases hlt : k < xs.length
      · have HSk := Lib.hid (HS.out k hlt hk1)
        have HDk := Lib.hid (HD.out k hlt)
        have hl1 := HLEN.out k hk1 hk
        have hl2 := HIL.out k hlt
        have hsz : ((⟨#[44]⟩ : ByteArray) ++ ⟨(Lib.itoa xs[k]).toArray⟩).size ≤ 22 := by rw [ByteArray.size_append]; show 1 + _ ≤ _; omega
        obtain ⟨b2, off2, he, hb2, hc2⟩ := (HH.out.at_ HB.out).ilAt hlt
        injection he with he
        injection he with he1 he2
        subst he1 he2
        generalize xs[k] = x at *
        generalize (⟨(Lib.itoa x).toArray⟩ : ByteArray) = o at *
        generalize hL : (⟨(J k).toArray⟩ : ByteArray) = L at *
        clear hL
        go_wp2_with fail
        refine (HDk.out _).mono ?_
        rintro e w2 ⟨rfl, hb3⟩
        have HB3 := Lib.hid (below_next HB.out hb3)
        clear hb3 hc2
        go_wp2_with fail
        go_roundw
        case rel => exact ⟨k + 1, by omega, by omega, by go_num, by rw [← HSk.out], HB3.out⟩
        case measure => simp [intOf]; omega
      · obtain rfl : k = xs.length := by omega
        go_wp2_with fail
        go_ret
        exact ⟨by rw [← HE'.out]; rfl, HB.out⟩

/-- the words of numbers -/
def wordsT (xs : List Int) : List ByteArray := xs.map fun n => ⟨(Lib.itoa n).toArray⟩
theorem wordsT_data (xs : List Int) : (wordsT xs).map (·.data.toList) = xs.map Lib.itoa := by
  unfold wordsT
  rw [List.map_map]
  rfl
theorem wordsT_len (xs : List Int) : (wordsT xs).length = xs.length := by simp [wordsT]
theorem words_succ {xs : List Int} {k : Nat} (h : k < xs.length) : sl (wordsT (xs.take (k + 1))) = sl (wordsT (xs.take k)) ++ [.string ⟨(Lib.itoa xs[k]).toArray⟩] := by
  unfold sl wordsT
  rw [List.take_succ_eq_append_getElem h, List.map_append, List.map_append]
  rfl
theorem own_words {w : World} {base : Nat} {A : Option Addr} {ps : List ByteArray} {c : Nat} (hp : 0 < ps.length) (h : w.ownsRow base 9 1 (.slice A ps.length c) ps.length (sl ps)) :
    ∃ g, A = some ⟨g, 0, none⟩ ∧ g < w.heap.size ∧ ps.length ≤ c ∧ ∀ (j : Nat) x, ps[j]? = some x → w.cell? ⟨g, 0 + j, none⟩ = some (.string x) := by
  cases A with
  | none => have := own_none h; omega
  | some a =>
    obtain ⟨g, rfl, hg⟩ := own_some h
    refine ⟨g, rfl, (h.lt g rfl).2, ?_, fun j x hx => ?_⟩
    · rcases h.2 with ⟨h1, h2⟩ | ⟨g', cap, cur, hv, _, _, hcap, _⟩
      · omega
      · injection hv with _ _ h3
        omega
    · have hj : j < ps.length := (List.getElem?_eq_some_iff.1 hx).1
      rw [Nat.zero_add, h.cellAt j (by omega)]
      unfold sl
      rw [List.getElem?_map, hx]
      rfl
set_option maxHeartbeats 800000 in
theorem listOrNone_any (A : Option Addr) (base : Nat) (ps : List ByteArray) (c : Nat) (w : World) (hx : ps.length ≤ 1048576) (hl : (Lib.join (ps.map (·.data.toList)) [44]).length ≤ 140737488355328) (h : w.ownsRow base 9 1 (.slice A ps.length c) ps.length (sl ps)) :
    Calls Tryz.prog 46 #[.slice A ps.length c] w (StrOut (noneOr (ps.map (·.data.toList))) w) := by
  have H0 : Hid (ps.length = 0 → noneOr (ps.map (·.data.toList)) = [110, 111, 110, 101]) := Lib.hid fun h => by rw [List.length_eq_zero_iff.1 h]; rfl
  have HY : Hid (0 < ps.length → Lib.join (ps.map (·.data.toList)) [44] = noneOr (ps.map (·.data.toList))) := Lib.hid fun h => by
    unfold noneOr
    rw [if_neg]
    intro e
    have := congrArg List.length e
    simp only [List.length_map, List.length_nil] at this
    omega
  have HO := Lib.hid h
  unfold StrOut
  clear h
  go_enter Tryz.func46, Tryz.ntmps46
  by_cases hz : ps.length = 0
  · have HT := Lib.hid (H0.out hz)
    have hlz : ((ps.length : Int) == 0) = true := by rw [hz]; rfl
    generalize noneOr _ = T at *
    go_wp2_with fail
    go_ret
    exact ⟨by rw [HT.out]; rfl, Below.refl _ _⟩
  · have hp : 0 < ps.length := by omega
    have hlz : ((ps.length : Int) == 0) = false := by simpa using hz
    obtain ⟨g, rfl, hg, hc, hcells⟩ := own_words hp HO.out
    have HJ := Lib.hid (Tryz.strings_Join g 0 c ps ⟨#[44]⟩ w hcells hg (by omega) hc hl)
    have HJY := Lib.hid (HY.out hp)
    have HJ2 : Hid (Lib.join (ps.map (·.data.toList)) (⟨#[44]⟩ : ByteArray).data.toList = noneOr (ps.map (·.data.toList))) := Lib.hid HJY.out
    rw [HJ2.out] at HJ
    clear H0 HY hz hl hcells HJY HJ2
    generalize noneOr _ = T at *
    go_wp2_with fail
    refine HJ.out.mono ?_
    rintro e w1 ⟨rfl, hb⟩
    have HB := Lib.hid hb
    clear hb
    go_wp2_with fail
    go_ret
    exact ⟨rfl, HB.out⟩
theorem isValue_any (n : Int) (w : World) : Calls Tryz.prog 37 #[.int .i64 n] w (SameOut (.bool (valB n)) w) := by
  have H := Lib.hid (within_any n (-1000000000000000) 1000000000000000 w)
  have HD : Hid (valB n = inB n (-1000000000000000) 1000000000000000) := Lib.hid rfl
  unfold SameOut
  rw [HD.out]
  generalize inB n (-1000000000000000) 1000000000000000 = r at *
  go_enter Tryz.func37, Tryz.ntmps37
  go_wp2_with (go_at_call 58; refine H.out.mono ?_; rintro e w1 ⟨rfl, rfl⟩)
  go_ret
  exact ⟨rfl, rfl⟩
theorem info_str : (Tryz.prog.info? 9).map (fun i => (i.zero, i.size, i.bytes)) = some (some (.string ByteArray.empty), 1, 16) := by kernel_rfl
set_option maxRecDepth 100000 in
set_option maxHeartbeats 3200000 in
theorem ListText_any (A : Option Addr) (xs : List Int) (c : Nat) (w : World) (hx : xs.length ≤ 64) (hv : ValAll xs) (ht : Tab w) (h : Rd w w.heap.size A (il xs)) :
    Calls Tryz.prog 26 #[.slice A xs.length c] w (fun e w' => e = .returned (.tuple #[.string ⟨(textL xs).toArray⟩, .bool true]) ∧ Below w.heap.size w w') := by
  obtain ⟨i0, hi0, hz0, hz1, hz2⟩ := info_parts info_str
  have HH := Lib.hid h
  have HTB := Lib.hid ht
  have HV : Hid (∀ k (h : k < xs.length), valB xs[k] = true) := Lib.hid hv
  have HI := Lib.hid fun n w => isValue_any n w
  have HD : Hid (∀ k (h : k < xs.length) W, Tab W → Calls Tryz.prog 38 #[.int .i64 xs[k]] W (DecOut xs[k] W)) := Lib.hid fun k h W ht => Decimal_any _ W (by have := inB_of (hv k h); omega) (by have := inB_of (hv k h); omega) ht
  have HS : Hid (∀ k (h : k < xs.length), sl (wordsT (xs.take (k + 1))) = sl (wordsT (xs.take k)) ++ [.string ⟨(Lib.itoa xs[k]).toArray⟩]) := Lib.hid fun k h => words_succ h
  have HS0 : Hid (sl (wordsT (xs.take 0)) = []) := Lib.hid rfl
  have HL : Hid (∀ A base c W, W.ownsRow base 9 1 (.slice A xs.length c) xs.length (sl (wordsT (xs.take xs.length))) → Calls Tryz.prog 46 #[.slice A xs.length c] W (StrOut (textL xs) W)) := Lib.hid fun A base c W ho => by
    rw [List.take_length] at ho
    have hll := wordsT_len xs
    have hj : (Lib.join ((wordsT xs).map (·.data.toList)) [44]).length ≤ 140737488355328 := by
      rw [wordsT_data]
      rcases Nat.eq_zero_or_pos xs.length with h0 | h0
      · rw [List.length_eq_zero_iff.1 h0]; decide
      · have h1 := jn_len hv xs.length h0 (Nat.le_refl _)
        unfold jn at h1
        rw [List.take_length] at h1
        omega
    have := listOrNone_any A base (wordsT xs) c W (by omega) hj (by rw [hll]; exact ho)
    rw [hll, wordsT_data] at this
    exact this
  unfold StrOut at HL
  unfold DecOut at HD
  unfold SameOut at HI
  clear h hv ht
  generalize textL xs = T at *
  generalize hF : (fun k => sl (wordsT (xs.take k))) = F at *
  have hF' : ∀ k, sl (wordsT (xs.take k)) = F k := fun k => by rw [← hF]
  simp only [hF'] at HS HS0 HL
  clear hF hF'
  go_enter Tryz.func26, Tryz.ntmps26
  go_wp2_with fail
  have START : Hid (Below w.heap.size w (w.alloc (.cells #[] 9)) ∧ (w.alloc (.cells #[] 9)).ownsRow w.heap.size 9 1 (.slice (some ⟨w.heap.size, 0, none⟩) 0 0) 0 (F 0)) := Lib.hid ⟨below_al (Below.refl _ _) _, by rw [HS0.out]; exact World.ownsRow_made w #[] 0 (Nat.le_refl _) (by unfold maxLen; omega) rfl⟩
  go_loopw [4, 10] (fun lv iv wr => ∃ (i : Nat) (B : Option Addr) (d : Nat), i ≤ xs.length ∧ iv = .int .i64 i ∧ lv = .slice B i d ∧ wr.ownsRow w.heap.size 9 1 (.slice B i d) i (F i) ∧ Below w.heap.size w wr)
    (fun _ iv _ => xs.length - (intOf iv).toNat)
  case atStart => exact ⟨0, _, 0, Nat.zero_le _, rfl, rfl, START.out.2, START.out.1⟩
  case round =>
    obtain ⟨i, B, d, hi, rfl, rfl, hown, hbw⟩ := hrel
    rename World => wr
    have HO := Lib.hid hown
    have HB := Lib.hid hbw
    clear hown hbw
    by_cases hlt : i < xs.length
    · obtain ⟨b, off, rfl, hb, hc⟩ := (HH.out.at_ HB.out).ilAt hlt
      have HVi := Lib.hid (HV.out i hlt)
      have HSi := Lib.hid (HS.out i hlt)
      have HDi := Lib.hid (HD.out i hlt)
      clear HS HD
      generalize xs[i] = x at *
      generalize (⟨(Lib.itoa x).toArray⟩ : ByteArray) = R at *
      go_wp2_with (first
        | (go_at_call 37; (with_reducible refine (HI.out _ _).mono ?_); rw [HVi.out]; rintro e w3 ⟨rfl, rfl⟩)
        | (go_at_call 38; refine (HDi.out _ (HTB.out.keep HB.out)).mono ?_; rintro e w4 ⟨rfl, hb4⟩; have HB4 := Lib.hid hb4; clear hb4)
        | (refine wpList_append_lies _ rfl _ _ _ rfl w.heap.size 9 i0 _ 1 16 Tryz.underlying29 hi0 hz0 hz1 hz2 rfl (by omega) (.slice B i d) i (F i) (by rfl) ((own_below HO.out HB4.out).alloc _) ⟨w4.heap.size, 0, none⟩ 1 1 [.string R] (by rfl) (by rfl) (World.news_of_block (cs := #[.string R]) (t := 9) (fr := (0, 0)) (heap_alloc_new w4 _)) (by simp [Value.oneCell']) (by omega) (by unfold maxLen; omega) (by omega) (by have := HB4.out.size; have := HB.out.size; simp; omega) (w4.heap.size + 1) (by simp) ?_; intro g cap w9 hown9 hgrow hat hlt9; have HB9 := Lib.hid ((below_al (below_next HB.out HB4.out) (.cells #[.string R] 9)).grown hgrow (by have := HB4.out.size; have := HB.out.size; simp; omega) (fun q hq => ((own_below HO.out HB4.out).lt q hq).1)); have HO9 := Lib.hid hown9; clear hown9 hgrow hat))
      go_roundw
      case rel => exact ⟨i + 1, some ⟨g, 0, none⟩, cap, by omega, by go_num, rfl, by rw [HSi.out]; exact HO9.out, HB9.out⟩
      case measure => simp [intOf]; omega
    · obtain rfl : i = xs.length := by omega
      go_wp2_with fail
      refine (HL.out _ _ _ _ HO.out).mono ?_
      rintro e w5 ⟨rfl, hb5⟩
      have HB5 := Lib.hid (below_next HB.out hb5)
      clear hb5
      go_wp2_with fail
      go_ret2
      exact ⟨rfl, HB5.out⟩
end Go.Proofs.YtadkpmmbnenemaaGreatDoor

