/-
  Cycles as texts: impl.CyclesText, spec.l08Order, spec.CyclesText.
-/
import Derived.Test.YtadkpmmbnenemaaGreatDoorCy2
import Derived.Test.YtadkpmmbnenemaaGreatDoorTb2
namespace Go.Proofs.YtadkpmmbnenemaaGreatDoor
open Go Go.RowKit

/-- the cycles' texts with strokes between -/
def ordT (xs : List Int) : List (List UInt8) := (cycs xs).map textL
def ordJ (xs : List Int) (k : Nat) : List UInt8 := Lib.join ((ordT xs).take k) [47]
def ordL (xs : List Int) : List UInt8 := Lib.join (ordT xs) [47]
theorem ordT_len (xs : List Int) : (ordT xs).length = (cycs xs).length := by simp [ordT]
theorem ordT_get {xs : List Int} {i : Nat} (h : i < (ordT xs).length) : (ordT xs)[i] = textL ((cycs xs)[i]'(by rw [← ordT_len]; exact h)) := by simp [ordT]
theorem ordJ_one {xs : List Int} (h : 0 < (ordT xs).length) : ordJ xs 1 = (ordT xs)[0] := by
  unfold ordJ
  rw [List.take_succ_eq_append_getElem h]
  exact Lib.join_one _ _
theorem ordJ_succ {xs : List Int} {k : Nat} (h : k < (ordT xs).length) (hk : 1 ≤ k) : ordJ xs (k + 1) = ordJ xs k ++ ([47] ++ (ordT xs)[k]) := by
  unfold ordJ
  rw [List.take_succ_eq_append_getElem h]
  refine join_snoc _ _ _ ?_
  intro e
  have := congrArg List.length e
  simp only [List.length_take, List.length_nil] at this
  omega
theorem val_of {xs : List Int} {m : Nat} (hm : m ≤ 64) (h : ∀ x ∈ xs, 0 ≤ x ∧ x < m) : ValAll xs := fun k hk => by
  have := h _ (List.getElem_mem hk)
  exact inB_yes (by omega) (by omega)
theorem text_len {xs : List Int} (h0 : 0 < xs.length) (hv : ValAll xs) : (textL xs).length ≤ 22 * xs.length := by
  rw [← jn_end h0]
  exact jn_len hv _ h0 (Nat.le_refl _)
theorem ordT_all {xs : List Int} (h : ordB xs = true) : (ordT xs).length ≤ 64 ∧ ∀ t ∈ ordT xs, t.length ≤ 1408 := by
  obtain ⟨n1, n2, hok⟩ := ordB_facts h
  obtain ⟨h1, h2⟩ := cycs_all hok
  refine ⟨by rw [ordT_len]; omega, fun t ht => ?_⟩
  unfold ordT at ht
  rw [List.mem_map] at ht
  obtain ⟨c, hc, rfl⟩ := ht
  obtain ⟨h3, h4, h5⟩ := h2 c hc
  have := text_len h3 (val_of n2 h5)
  omega
theorem ordJ_len {xs : List Int} (h : ordB xs = true) : ∀ k, k ≤ (ordT xs).length → (ordJ xs k).length ≤ 1409 * k := by
  obtain ⟨h1, h2⟩ := ordT_all h
  intro k
  induction k with
  | zero => intro _; exact Nat.le_refl _
  | succ k ih =>
    intro hk
    have hlt : k < (ordT xs).length := hk
    have ht := h2 _ (List.getElem_mem hlt)
    rcases Nat.eq_zero_or_pos k with h0 | h0
    · subst h0
      rw [ordJ_one hlt]
      omega
    · rw [ordJ_succ hlt h0]
      have := ih (by omega)
      simp only [List.length_append, List.length_cons, List.length_nil]
      omega
theorem ordJ_end (xs : List Int) : ordJ xs (ordT xs).length = ordL xs := by unfold ordJ ordL; rw [List.take_length]
/-- what is known of the rows that the cycles lie in -/
theorem rows_of {xs : List Int} {rs : List (List Int × Value)} (h : ordB xs = true) (hrs : rs.map (·.1) = cycs xs) : rs.length = (ordT xs).length ∧ ∀ i (hi : i < rs.length) (hj : i < (ordT xs).length), rs[i].1.length ≤ 64 ∧ ValAll rs[i].1 ∧ textL rs[i].1 = (ordT xs)[i] := by
  obtain ⟨n1, n2, hok⟩ := ordB_facts h
  obtain ⟨h1, h2⟩ := cycs_all hok
  have hl : rs.length = (cycs xs).length := by rw [← hrs, List.length_map]
  refine ⟨by rw [ordT_len, hl], fun i hi hj => ?_⟩
  have e : rs[i].1 = (cycs xs)[i]'(by omega) := by
    have h3 : (rs.map (·.1))[i]'(by rw [List.length_map]; exact hi) = rs[i].1 := List.getElem_map _
    rw [← h3]
    exact List.getElem_of_eq hrs _
  obtain ⟨h3, h4, h5⟩ := h2 rs[i].1 (by rw [e]; exact List.getElem_mem _)
  refine ⟨by omega, val_of n2 h5, ?_⟩
  rw [ordT_get hj, e]
def ctT (xs : List Int) : List UInt8 := if ordB xs = true then ordL xs else []
def CtOut (xs : List Int) (w : World) (e : Ending) (w' : World) : Prop := e = .returned (.tuple #[.string ⟨(ctT xs).toArray⟩, .bool (ordB xs)]) ∧ Below w.heap.size w w'
/-- the words as cells -/
def wdC (xs : List Int) (k : Nat) : List Value := ((ordT xs).take k).map fun t => .string ⟨t.toArray⟩
theorem wdC_succ {xs : List Int} {k : Nat} (h : k < (ordT xs).length) : wdC xs (k + 1) = wdC xs k ++ [.string ⟨((ordT xs)[k]).toArray⟩] := by
  unfold wdC
  rw [List.take_succ_eq_append_getElem h, List.map_append]
  rfl
def wdS (xs : List Int) : List ByteArray := (ordT xs).map fun t => ⟨t.toArray⟩
theorem wdS_len (xs : List Int) : (wdS xs).length = (ordT xs).length := by simp [wdS]
theorem wdC_sl (xs : List Int) : wdC xs (ordT xs).length = sl (wdS xs) := by
  unfold wdC sl wdS
  rw [List.take_length, List.map_map]
  rfl
theorem wdS_data (xs : List Int) : (wdS xs).map (·.data.toList) = ordT xs := by
  unfold wdS
  rw [List.map_map]
  conv => rhs; rw [← List.map_id (ordT xs)]
  exact List.map_congr_left fun t _ => rfl
set_option maxRecDepth 100000 in
set_option maxHeartbeats 3200000 in
theorem CyclesText_any (A : Option Addr) (xs : List Int) (c : Nat) (w : World) (hx : xs.length ≤ 1048576) (ht : Tab w) (h : Rd w w.heap.size A (il xs)) : Calls Tryz.prog 13 #[.slice A xs.length c] w (CtOut xs w) := by
  cases hb : ordB xs with
  | false =>
    have HN := Lib.hid (CyclesOf_bad A xs c w hx h hb)
    have HT : Hid (ctT xs = []) := Lib.hid (by unfold ctT; rw [hb]; rfl)
    have HJ := Lib.hid fun a c sep w => Tryz.strings_Join_none a c sep w
    unfold CyNo at HN
    unfold CtOut
    rw [HT.out, hb]
    clear hb h ht
    go_enter Tryz.func13, Tryz.ntmps13
    go_wp2_with fail
    refine HN.out.mono ?_
    rintro e w1 ⟨rfl, hb1⟩
    have B1 := Lib.hid hb1
    clear hb1
    go_wp2_with fail
    go_loopw [6, 19] (fun lv iv wr => lv = .slice (some ⟨w1.heap.size, 0, none⟩) 0 0 ∧ iv = .int .i64 0 ∧ Below w1.heap.size w1 wr) (fun _ _ _ => 0)
    case atStart => exact ⟨rfl, rfl, below_al (Below.refl _ _) _⟩
    case round =>
      obtain ⟨rfl, rfl, hbw⟩ := hrel
      rename World => wr
      have B2 := Lib.hid (below_next B1.out hbw)
      clear hbw
      go_wp2_with fail
      refine (HJ.out _ _ _ _).mono ?_
      rintro e w2 ⟨rfl, rfl⟩
      go_wp2_with fail
      go_ret2
      exact ⟨rfl, B2.out⟩
  | true =>
    have HN := Lib.hid (CyclesOf_ok A xs c w h hb)
    have HT : Hid (ctT xs = ordL xs) := Lib.hid (by unfold ctT; rw [hb]; rfl)
    obtain ⟨o1, o2⟩ := ordT_all hb
    have HRW := Lib.hid fun rs hrs => rows_of (rs := rs) hb hrs
    have HJO : Hid (∀ (B : Option Addr) (base c : Nat) (W : World), W.ownsRow base 9 1 (.slice B (ordT xs).length c) (ordT xs).length (wdC xs (ordT xs).length) → Calls Tryz.prog 27 #[.slice B (ordT xs).length c, .string ⟨#[47]⟩] W (fun e w' => e = .returned (.string ⟨(ordL xs).toArray⟩) ∧ Below W.heap.size W w')) := Lib.hid fun B base c W ho => by
      have hj := ordJ_len hb (ordT xs).length (Nat.le_refl _)
      rw [ordJ_end] at hj
      have hjl : (Lib.join ((wdS xs).map (·.data.toList)) (⟨#[47]⟩ : ByteArray).data.toList).length ≤ 140737488355328 := by
        rw [wdS_data]
        show (ordL xs).length ≤ _
        omega
      rw [wdC_sl, ← wdS_len] at ho
      rcases Nat.eq_zero_or_pos (wdS xs).length with h0 | h0
      · have e0 : (ordT xs).length = 0 := by rw [← wdS_len]; exact h0
        have e1 : ordL xs = [] := by unfold ordL; rw [List.length_eq_zero_iff.1 e0]; rfl
        rw [e0, e1]
        refine (Tryz.strings_Join_none B c _ W).mono ?_
        rintro e w' ⟨rfl, rfl⟩
        exact ⟨rfl, Below.refl _ _⟩
      · obtain ⟨g, rfl, hg, hc, hcells⟩ := own_words h0 ho
        have := Tryz.strings_Join g 0 c (wdS xs) ⟨#[47]⟩ W hcells hg (by rw [wdS_len]; omega) hc hjl
        rw [wdS_len, wdS_data] at this
        exact this
    have HWS : Hid (∀ k (h : k < (ordT xs).length), wdC xs (k + 1) = wdC xs k ++ [.string ⟨((ordT xs)[k]).toArray⟩]) := Lib.hid fun k h => wdC_succ h
    have HW0 : Hid (wdC xs 0 = []) := Lib.hid rfl
    have HTB := Lib.hid ht
    have HLT := Lib.hid fun A ys c w h1 h2 h3 h4 => ListText_any A ys c w h1 h2 h3 h4
    obtain ⟨i0, hi0, hz0, hz1, hz2⟩ := info_parts info_str
    unfold CyOut at HN
    unfold CtOut
    rw [HT.out, hb]
    clear hb h ht o2 HT
    generalize wdC xs = F at *
    generalize ordL xs = T at *
    generalize ordT xs = OT at *
    go_enter Tryz.func13, Tryz.ntmps13
    go_wp2_with fail
    refine HN.out.mono ?_
    rintro e w1 ⟨A', c', rs, rfl, hrs, hlr, hb1⟩
    obtain ⟨hrl, hro⟩ := HRW.out rs hrs
    have L1 := Lib.hid hlr
    have B1 := Lib.hid hb1
    have HRO := Lib.hid hro
    have HRL := Lib.hid hrl
    have hrn : rs.length ≤ 64 := by omega
    clear hrs hlr hb1 hro HRW hrl
    go_wp2_with fail
    have START : Hid (Below w1.heap.size w1 (w1.alloc (.cells #[] 9)) ∧ (w1.alloc (.cells #[] 9)).ownsRow w1.heap.size 9 1 (.slice (some ⟨w1.heap.size, 0, none⟩) 0 0) 0 (F 0)) := Lib.hid ⟨below_al (Below.refl _ _) _, by rw [HW0.out]; exact World.ownsRow_made w1 #[] 0 (Nat.le_refl _) (by unfold maxLen; omega) rfl⟩
    go_loopw [6, 19] (fun lv iv wr => ∃ (i : Nat) (B : Option Addr) (d : Nat), i ≤ rs.length ∧ iv = .int .i64 i ∧ lv = .slice B i d ∧ wr.ownsRow w1.heap.size 9 1 (.slice B i d) i (F i) ∧ Below w1.heap.size w1 wr) (fun _ iv _ => rs.length - (intOf iv).toNat)
    case atStart => exact ⟨0, _, 0, Nat.zero_le _, rfl, rfl, START.out.2, START.out.1⟩
    case round =>
      obtain ⟨i, B, d, hi, rfl, rfl, hown, hbw⟩ := hrel
      rename World => wr
      have HO := Lib.hid hown
      have HB := Lib.hid hbw
      clear hown START hbw
      by_cases hlt : i < rs.length
      · obtain ⟨g, cap, A2, c2, hv, hcl, hrow⟩ := (L1.out.keep HB.out).at_ hlt
        injection hv with hA' hB' hC'
        subst hA'
        clear hB' hC'
        obtain ⟨q1, q2, q3⟩ := HRO.out i hlt (by have := HRL.out; omega)
        have HRd : Hid (Rd wr wr.heap.size A2 (il rs[i].1)) := Lib.hid (Rd.of_own hrow)
        have HSi := Lib.hid (HWS.out i (by have := HRL.out; omega))
        rw [← q3] at HSi
        have HLTi := Lib.hid fun c w (h3 : Tab w) (h4 : Rd w w.heap.size A2 (il rs[i].1)) => HLT.out A2 rs[i].1 c w q1 q2 h3 h4
        have hlt' : (i : Int) < (rs.length : Int) := by omega
        have hwz := HB.out.size
        clear hrow q1 q2 q3 HWS HLT HRO
        generalize rs[i].1 = ys at *
        generalize (⟨(textL ys).toArray⟩ : ByteArray) = R at *
        go_wp2_with (first
          | (go_at_call 26; refine (HLTi.out _ _ (HTB.out.keep (below_next B1.out HB.out)) HRd.out).mono ?_; rintro e w4 ⟨rfl, hb4⟩; have HB4 := Lib.hid hb4; clear hb4)
          | (refine wpList_append_lies _ rfl _ _ _ rfl w1.heap.size 9 i0 _ 1 16 Tryz.underlying29 hi0 hz0 hz1 hz2 rfl (by omega) (.slice B i d) i (F i) (by rfl) ((own_below HO.out HB4.out).alloc _) ⟨w4.heap.size, 0, none⟩ 1 1 [.string R] (by rfl) (by rfl) (World.news_of_block (cs := #[.string R]) (t := 9) (fr := (0, 0)) (heap_alloc_new w4 _)) (by simp [Value.oneCell']) (by omega) (by unfold maxLen; omega) (by omega) (by have := HB4.out.size; simp; omega) (w4.heap.size + 1) (by simp) ?_; intro g9 cap9 w9 hown9 hgrow hat hlt9; have HB9 := Lib.hid ((below_al (below_next HB.out HB4.out) (.cells #[.string R] 9)).grown hgrow (by have := HB4.out.size; simp; omega) (fun q hq => ((own_below HO.out HB4.out).lt q hq).1)); have HO9 := Lib.hid hown9; clear hown9 hgrow hat))
        go_roundw
        case rel => exact ⟨i + 1, some ⟨g9, 0, none⟩, cap9, by omega, by go_num, rfl, by rw [HSi.out]; exact HO9.out, HB9.out⟩
        case measure => simp [intOf]; omega
      · obtain rfl : i = rs.length := by omega
        have HJr := HJO.out B w1.heap.size d wr
        rw [← HRL.out] at HJr
        have HJ2 := Lib.hid (HJr HO.out)
        clear HJr HJO HLT HWS HRO
        go_wp2_with fail
        refine HJ2.out.mono ?_
        rintro e w5 ⟨rfl, hb5⟩
        have HB5 := Lib.hid (below_next (below_next B1.out HB.out) hb5)
        clear hb5
        go_wp2_with fail
        go_ret2
        exact ⟨rfl, HB5.out⟩
set_option maxRecDepth 100000 in
set_option maxHeartbeats 3200000 in
theorem l08Order_any (A : Option Addr) (xs : List Int) (c : Nat) (w : World) (h : Rd w w.heap.size A (il xs)) (hb : ordB xs = true) : Calls Tryz.prog 17 #[.slice A xs.length c] w (StrOut (ordL xs) w) := by
  have HN := Lib.hid (specCyclesOf_ok A xs c w h hb)
  obtain ⟨o1, o2⟩ := ordT_all hb
  have HRW := Lib.hid fun rs hrs => rows_of (rs := rs) hb hrs
  have HLEN : Hid (∀ k, k ≤ (ordT xs).length → (⟨(ordJ xs k).toArray⟩ : ByteArray).size ≤ 1409 * k) := Lib.hid fun k hk => by rw [Lib.size_eq]; exact ordJ_len hb k hk
  have HTL : Hid (∀ k (h : k < (ordT xs).length), (⟨((ordT xs)[k]).toArray⟩ : ByteArray).size ≤ 1408) := Lib.hid fun k h => by rw [Lib.size_eq]; exact o2 _ (List.getElem_mem h)
  have H0 : Hid (∀ h : 0 < (ordT xs).length, (⟨(ordJ xs 0).toArray⟩ : ByteArray) ++ ⟨((ordT xs)[0]).toArray⟩ = ⟨(ordJ xs 1).toArray⟩) := Lib.hid fun h => str_of (by rw [app_data, ordJ_one h]; rfl)
  have HS : Hid (∀ k (h : k < (ordT xs).length), 1 ≤ k → ((⟨(ordJ xs k).toArray⟩ : ByteArray) ++ (⟨#[47]⟩ : ByteArray)) ++ ⟨((ordT xs)[k]).toArray⟩ = ⟨(ordJ xs (k + 1)).toArray⟩) := Lib.hid fun k h hk => str_of (by rw [app_data, app_data, ordJ_succ h hk, List.append_assoc])
  have HJ0 : Hid ((⟨(ordJ xs 0).toArray⟩ : ByteArray) = ⟨#[]⟩) := Lib.hid rfl
  have HE : Hid (ordJ xs (ordT xs).length = ordL xs) := Lib.hid (ordJ_end xs)
  have HLT := Lib.hid fun A ys c w h1 h2 h3 => l01Text_any A ys c w h1 h2 h3
  unfold CyOut at HN
  unfold StrOut at HLT ⊢
  clear hb h o2
  generalize ordL xs = T at *
  generalize ordJ xs = J at *
  generalize ordT xs = OT at *
  go_enter Tryz.func17, Tryz.ntmps17
  go_wp2_with fail
  refine HN.out.mono ?_
  rintro e w1 ⟨A', c', rs, rfl, hrs, hlr, hb1⟩
  obtain ⟨hrl, hro⟩ := HRW.out rs hrs
  have L1 := Lib.hid hlr
  have B1 := Lib.hid hb1
  have HRO := Lib.hid hro
  have HRL := Lib.hid hrl
  have hrn : rs.length ≤ 64 := by omega
  clear hrs hlr hb1 hro HRW hrl
  go_wp2_with fail
  go_loopw [5, 6] (fun sv iv wr => ∃ k : Nat, k ≤ rs.length ∧ iv = .int .i64 k ∧ sv = .string ⟨(J k).toArray⟩ ∧ Below w1.heap.size w1 wr) (fun _ iv _ => rs.length - (intOf iv).toNat)
  case atStart => exact ⟨0, Nat.zero_le _, rfl, by rw [HJ0.out], Below.refl _ _⟩
  case round =>
    obtain ⟨k, hk, rfl, rfl, hbw⟩ := hrel
    rename World => wr
    have HB := Lib.hid hbw
    clear hbw
    by_cases hlt : k < rs.length
    · obtain ⟨g, cap, A2, c2, hv, hcl, hrow⟩ := (L1.out.keep HB.out).at_ hlt
      injection hv with hA' hB' hC'
      subst hA'
      clear hB' hC'
      obtain ⟨q1, q2, q3⟩ := HRO.out k hlt (by have := HRL.out; omega)
      have HRd : Hid (Rd wr wr.heap.size A2 (il rs[k].1)) := Lib.hid (Rd.of_own hrow)
      have hl1 := HLEN.out k (by have := HRL.out; omega)
      have hl2 := HTL.out k (by have := HRL.out; omega)
      have HLTi := Lib.hid fun c w (h3 : Rd w w.heap.size A2 (il rs[k].1)) => HLT.out A2 rs[k].1 c w (Nat.le_trans q1 (by decide)) q2 h3
      have hlt' : (k : Int) < (rs.length : Int) := by omega
      rw [q3] at HLTi
      clear hrow q1 q2 q3 HLT HRO
      generalize rs[k].1 = ys at *
      by_cases hk0 : k = 0
      · subst hk0
        have HSk := Lib.hid (H0.out (by have := HRL.out; omega))
        clear HS H0
        generalize (⟨(OT[0]).toArray⟩ : ByteArray) = o at *
        generalize hL : (⟨(J 0).toArray⟩ : ByteArray) = L at *
        clear hL
        go_wp2_with (go_at_call 32; refine (HLTi.out _ _ HRd.out).mono ?_; rintro e w4 ⟨rfl, hb4⟩; have HB4 := Lib.hid (below_next HB.out hb4); clear hb4)
        go_roundw
        case rel => exact ⟨1, by omega, by go_num, by rw [← HSk.out], HB4.out⟩
        case measure => simp [intOf]; omega
      · have HSk := Lib.hid (HS.out k (by have := HRL.out; omega) (by omega))
        have hkp : (0 : Int) < (k : Int) := by omega
        clear HS H0 hk0
        generalize (⟨(OT[k]).toArray⟩ : ByteArray) = o at *
        generalize hL : (⟨(J k).toArray⟩ : ByteArray) = L at *
        clear hL
        have hsz : (L ++ (⟨#[47]⟩ : ByteArray)).size ≤ 1409 * k + 1 := by rw [ByteArray.size_append]; show _ + 1 ≤ _; omega
        go_wp2_with (go_at_call 32; refine (HLTi.out _ _ HRd.out).mono ?_; rintro e w4 ⟨rfl, hb4⟩; have HB4 := Lib.hid (below_next HB.out hb4); clear hb4)
        go_roundw
        case rel => exact ⟨k + 1, by omega, by go_num, by rw [← HSk.out], HB4.out⟩
        case measure => simp [intOf]; omega
    · obtain rfl : k = rs.length := by omega
      have hEe := HE.out
      rw [← HRL.out] at hEe
      have HEE := Lib.hid hEe
      clear hEe
      go_wp2_with fail
      go_ret
      exact ⟨by rw [← HEE.out]; rfl, below_next B1.out HB.out⟩
end Go.Proofs.YtadkpmmbnenemaaGreatDoor

