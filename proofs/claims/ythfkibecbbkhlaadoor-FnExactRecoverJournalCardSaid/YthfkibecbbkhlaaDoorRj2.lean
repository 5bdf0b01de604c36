/-
  Journals that are recovered: impl.recoverLines, impl.RecoverJournal.
-/
import Derived.Test.YthfkibecbbkhlaaDoorRj1
namespace Go.Proofs.YthfkibecbbkhlaaDoor
open Go Go.RowKit

theorem Cut_any (x : ByteArray) (b : UInt8) (p r : List UInt8) (f : Bool) (w : World) (mx : Int) (hx : x.size ≤ 1048576) (hm : w.cell? ⟨0, 0, none⟩ = some (.int .i64 mx)) (hc : Lib.cut x.data.toList [b] = (p, r, f)) :
    Calls Tryd.prog 26 #[.string x, .string ⟨#[b]⟩] w (fun e w' => e = .returned (.tuple #[.string ⟨p.toArray⟩, .string ⟨r.toArray⟩, .bool f]) ∧ Below w.heap.size w w') := by
  have h := Tryd.strings_Cut x ⟨#[b]⟩ mx w (by omega) hm
  have e : (⟨#[b]⟩ : ByteArray).data.toList = [b] := rfl
  rw [e, hc] at h
  refine Calls.mono h ?_
  rintro e w' ⟨rfl, n, rfl⟩
  exact ⟨rfl, below_dn (Below.refl _ _) n⟩
def RecOut (s : ByteArray) (N : Nat) (w : World) (e : Ending) (w' : World) : Prop :=
  ∃ A c, e = .returned (.tuple #[.slice A N c, .int .i64 (offP s N : Nat)]) ∧ w'.ownsRow w.heap.size 9 1 (.slice A N c) N (sl (outR s N)) ∧ Below w.heap.size w w'
theorem ext_data (s : ByteArray) {a : Nat} (h : a ≤ s.size) : (s.extract a s.size).data.toList = s.data.toList.drop a := by
  rw [Lib.extract_data]
  exact List.take_of_length_le (by rw [List.length_drop, ← Lib.size_eq]; omega)
theorem ext_size (s : ByteArray) {a : Nat} (h : a ≤ s.size) : (s.extract a s.size).size ≤ s.size := by
  rw [Lib.size_eq, ext_data s h, List.length_drop, ← Lib.size_eq]
  omega
theorem mk_data (l : List UInt8) : (⟨l.toArray⟩ : ByteArray).data.toList = l := rfl
theorem mk_size (l : List UInt8) : (⟨l.toArray⟩ : ByteArray).size = l.length := Lib.size_eq _
theorem lnP_len (s : ByteArray) {i : Nat} (h : i ≤ lineN s) : (lnP s i).length ≤ s.size := by
  obtain ⟨h1, h2⟩ := text_from s i h
  have hc := text_cut s h
  have : (lnP s i).length ≤ (s.data.toList.drop (offP s i)).length := by
    have e : (Lib.cut (s.data.toList.drop (offP s i)) [10]).1 = lnP s i := by rw [hc]; split <;> rfl
    rw [← e]
    unfold Lib.cut
    split
    · simp
      omega
    · exact Nat.le_refl _
  rw [List.length_drop, ← Lib.size_eq] at this
  omega
set_option maxRecDepth 100000 in
set_option maxHeartbeats 6400000 in
theorem recoverLines_any (s : ByteArray) (N : Nat) (hN : isStop s N) (w : World) (mx : Int) (hs : s.size ≤ 16000) (hm : w.cell? ⟨0, 0, none⟩ = some (.int .i64 mx)) (ht : Tab w) :
    Calls Tryd.prog 18 #[.string s] w (RecOut s N w) := by
  obtain ⟨i0, hi0, hz0, hz1, hz2⟩ := info_parts info_str
  have HTX : Hid (∀ i, i ≤ lineN s → offP s i ≤ s.size) := Lib.hid fun i hi => (text_from s i hi).1
  have HCUT : Hid (∀ i, i ≤ lineN s → Lib.cut (s.extract (offP s i) s.size).data.toList [10] = (if i < lineN s then (lnP s i, s.data.toList.drop (offP s (i + 1)), true) else (lnP s i, [], false))) := Lib.hid fun i hi => by rw [ext_data s (text_from s i hi).1]; exact text_cut s hi
  have HXS : Hid (∀ i, i ≤ lineN s → (s.extract (offP s i) s.size).size ≤ 1048576) := Lib.hid fun i hi => by have := ext_size s (text_from s i hi).1; omega
  have HSP : Hid (∀ i, Lib.cut (⟨(lnP s i).toArray⟩ : ByteArray).data.toList [32] = if spB (lnP s i) then (preL (lnP s i), restL (lnP s i), true) else (lnP s i, [], false)) := Lib.hid fun i => cut_sp _
  have HPS : Hid (∀ i, i ≤ lineN s → (⟨(lnP s i).toArray⟩ : ByteArray).size ≤ 16000) := Lib.hid fun i hi => by rw [mk_size]; exact Nat.le_trans (lnP_len s hi) hs
  have HRS : Hid (∀ i, i ≤ lineN s → (⟨(restL (lnP s i)).toArray⟩ : ByteArray).size ≤ 16000) := Lib.hid fun i hi => by
    rw [mk_size]
    have := lnP_len s hi
    unfold restL
    rw [List.length_drop]
    omega
  have HCR : Hid (∀ i, 0 ≤ cst s i ∧ cst s i < 65003) := Lib.hid (cst_range s)
  have HCS : Hid (∀ i, chk (cst s i) (⟨(restL (lnP s i)).toArray⟩ : ByteArray).data.toList = cst s (i + 1)) := Lib.hid fun i => rfl
  have HLI : Hid (∀ i, spB (lnP s i) = true → (lineJ (cst s (i + 1)) (⟨(restL (lnP s i)).toArray⟩ : ByteArray).data.toList = lnP s i ++ [10] ↔ okR s i = true)) := Lib.hid fun i h => line_iff s i h
  have HOK : Hid (∀ i, i < N → okR s i = true) := Lib.hid hN.2.1
  have HNS : Hid (N ≤ lineN s ∧ (N = lineN s ∨ okR s N = false)) := Lib.hid ⟨hN.1, hN.2.2⟩
  have HNSP : Hid (∀ i, spB (lnP s i) = false → okR s i = false) := Lib.hid fun i h => by unfold okR; rw [h]; rfl
  have HOS : Hid (∀ i, sl (outR s (i + 1)) = sl (outR s i) ++ [.string ⟨(restL (lnP s i)).toArray⟩]) := Lib.hid fun i => by rw [outR_succ]; simp [sl, restB]
  have HO0 : Hid (sl (outR s 0) = [] ∧ cst s 0 = 0 ∧ offP s 0 = 0) := Lib.hid ⟨rfl, rfl, rfl⟩
  have HOF : Hid (∀ i, offP s (i + 1) = offP s i + (lnP s i).length + 1) := Lib.hid fun i => rfl
  have HOL : Hid (∀ i, (sl (outR s i)).length = i) := Lib.hid fun i => by rw [sl_len, outR_len]
  have HM := Lib.hid hm
  have HTB := Lib.hid ht
  have hN2 : N ≤ 16000 := by
    have h1 := hN.1
    have h2 := cutB_len s (s.size + 1)
    have h3 := cutB_pos s
    unfold lineN at h1
    omega
  unfold RecOut
  clear hm ht hN
  go_enter Tryd.func18, Tryd.ntmps18
  go_wp2_with fail
  have START : Hid (Below w.heap.size w (w.alloc (.cells #[] 9)) ∧ (w.alloc (.cells #[] 9)).ownsRow w.heap.size 9 1 (.slice (some ⟨w.heap.size, 0, none⟩) 0 0) 0 (sl (outR s 0))) := Lib.hid ⟨below_al (Below.refl _ _) _, by rw [HO0.out.1]; exact World.ownsRow_made w #[] 0 (Nat.le_refl _) (by unfold maxLen; omega) rfl⟩
  go_loopw [4, 5, 6] (fun lv cv sv wr => ∃ (i : Nat) (A : Option Addr) (c : Nat), i ≤ N ∧ lv = .slice A i c ∧ cv = .int .i64 (cst s i) ∧ sv = .int .i64 (offP s i : Nat) ∧ wr.ownsRow w.heap.size 9 1 (.slice A i c) i (sl (outR s i)) ∧ Below w.heap.size w wr)
    (fun lv _ _ _ => N - (match lv with | .slice _ n _ => n | _ => 0))
  case atStart => exact ⟨0, _, 0, Nat.zero_le _, rfl, by rw [HO0.out.2.1], by rw [HO0.out.2.2]; rfl, START.out.2, START.out.1⟩
  case round =>
    obtain ⟨i, A, c, hi, rfl, rfl, rfl, hown, hbw⟩ := hrel
    rename World => wr
    have HO := Lib.hid hown
    have HB := Lib.hid hbw
    have hmr := keepC hbw HM.out
    have hsz := hbw.size
    have HMR := Lib.hid hmr
    have htr := Lib.hid (HTB.out.keep hbw)
    have hil : i ≤ lineN s := Nat.le_trans hi HNS.out.1
    have hox := HTX.out i hil
    have HXSi := Lib.hid (HXS.out i hil)
    have hpsz := HPS.out i hil
    have hrsz := HRS.out i hil
    have HCUTi := Lib.hid (HCUT.out i hil)
    have HSPi := Lib.hid (HSP.out i)
    have HCRi := HCR.out i
    have HCSi := Lib.hid (HCS.out i)
    have HLIi := Lib.hid (HLI.out i)
    have HOKi := Lib.hid (HOK.out i)
    have HNSPi := Lib.hid (HNSP.out i)
    have HOSi := Lib.hid (HOS.out i)
    have HOFi := Lib.hid (HOF.out i)
    have HPL : Hid ((⟨(lnP s i).toArray⟩ : ByteArray).size = (lnP s i).length ∧ (⟨(lnP s i).toArray⟩ : ByteArray).data.toList = lnP s i) := Lib.hid ⟨mk_size _, rfl⟩
    have hox0 : (0 : Int) ≤ (offP s i : Int) := by omega
    have hox1 : (offP s i : Int) ≤ (s.size : Int) := by omega
    clear hown hbw hmr HTX HCUT HXS HSP HPS HRS HCR HCS HLI HOK HNSP HOS HOF
    have HO10 : Hid ((⟨(lnP s i).toArray⟩ ++ ⟨#[10]⟩ : ByteArray).toList = lnP s i ++ [10]) := Lib.hid (by rw [Lib.toList_data, app_data])
    by_cases hend : i < lineN s
    · have HCUT2 : Hid (Lib.cut (s.extract (offP s i) s.size).data.toList [10] = (lnP s i, s.data.toList.drop (offP s (i + 1)), true)) := Lib.hid (by rw [HCUTi.out, if_pos hend])
      have HC1 := Lib.hid (Cut_any _ 10 _ _ _ wr mx HXSi.out HMR.out HCUT2.out)
      cases hsp : spB (lnP s i) with
      | true =>
        have HSP2 : Hid (Lib.cut (⟨(lnP s i).toArray⟩ : ByteArray).data.toList [32] = (preL (lnP s i), restL (lnP s i), true)) := Lib.hid (by rw [HSPi.out, if_pos hsp])
        have HC2 := Lib.hid fun W hm => Cut_any _ 32 _ _ _ W mx (by omega) hm HSP2.out
        have HJL := Lib.hid fun W ht => journalLine_any (cst s i) ⟨(restL (lnP s i)).toArray⟩ W HCRi (by omega) ht
        unfold LineOut at HJL
        rw [HCSi.out] at HJL
        have HLI2 := Lib.hid (HLIi.out hsp)
        generalize lineJ (cst s (i + 1)) (⟨(restL (lnP s i)).toArray⟩ : ByteArray).data.toList = L at *
        have HOD : Hid ((⟨L.toArray⟩ : ByteArray).toList = L ∧ (⟨L.toArray⟩ : ByteArray).size = L.length) := Lib.hid ⟨by rw [Lib.toList_data], mk_size L⟩
        have HOLi := Lib.hid (HOL.out i)
        have HOF2 : Hid (L = lnP s i ++ [10] → (⟨L.toArray⟩ : ByteArray).size = (lnP s i).length + 1) := Lib.hid fun h => by rw [mk_size, h, List.length_append]; rfl
        by_cases hgo : L = lnP s i ++ [10]
        · have hok := HLI2.out.1 hgo
          have hlt : i < N := by
            rcases Nat.lt_or_ge i N with h1 | h1
            · exact h1
            · obtain rfl : i = N := by omega
              rcases HNS.out.2 with h2 | h2
              · omega
              · rw [hok] at h2; cases h2
          have hcmp : ((⟨L.toArray⟩ : ByteArray).toList == (⟨(lnP s i).toArray⟩ ++ ⟨#[10]⟩ : ByteArray).toList) = true := by rw [HOD.out.1, HO10.out, hgo]; exact beq_self_eq_true _
          have hosz := HOF2.out hgo
          have hpl2 : (⟨(lnP s i).toArray⟩ : ByteArray).size = (lnP s i).length := HPL.out.1
          have hll : (lnP s i).length ≤ 16000 := by omega
          have HOSZ := Lib.hid hosz
          clear HOL hok hsp hend hgo HOD HOF2 HO10 HLI2 HLIi HOKi HNSPi HCSi HPL hosz hpl2
          generalize hLN : (lnP s i).length = ll at *
          generalize (⟨(lnP s i).toArray⟩ : ByteArray) = P at *
          generalize (⟨(restL (lnP s i)).toArray⟩ : ByteArray) = R at *
          generalize (⟨L.toArray⟩ : ByteArray) = O at *
          have hob : O.size ≤ 16001 := by rw [HOSZ.out]; omega
          go_wp2_with fail
          refine HC1.out.mono ?_
          rintro e w2 ⟨rfl, hb2⟩
          have HB2 := Lib.hid hb2
          clear hb2
          go_wp2_with fail
          refine (HC2.out _ (keepC HB2.out HMR.out)).mono ?_
          rintro e w3 ⟨rfl, hb3⟩
          have HB3 := Lib.hid (below_next HB2.out hb3)
          clear hb3
          go_wp2_with fail
          refine (HJL.out _ (htr.out.keep HB3.out)).mono ?_
          rintro e w4 ⟨rfl, hb4⟩
          have HB4 := Lib.hid (below_next HB3.out hb4)
          clear hb4
          go_wp2_with (refine wpList_append_lies _ rfl _ _ _ rfl w.heap.size 9 i0 _ 1 16 Tryd.underlying22 hi0 hz0 hz1 hz2 rfl (by omega) (.slice A i c) i (sl (outR s i)) (by rfl) ((own_below HO.out HB4.out).alloc _) ⟨w4.heap.size, 0, none⟩ 1 1 [.string R] (by rfl) (by rfl) (World.news_of_block (cs := #[.string R]) (t := 9) (fr := (0, 0)) (heap_alloc_new w4 _)) (by simp [Value.oneCell']) (by omega) (by unfold maxLen; omega) (by omega) (by have := HB4.out.size; simp; omega) (w4.heap.size + 1) (by simp) ?_; intro g cap w9 hown9 hgrow hat hlt9; have HB9 := Lib.hid ((below_al (below_next HB.out HB4.out) (.cells #[.string R] 9)).grown hgrow (by have := HB4.out.size; simp; omega) (fun q hq => ((own_below HO.out HB4.out).lt q hq).1)); have HO9 := Lib.hid hown9; clear hown9 hgrow hat)
          go_roundw
          case rel => exact ⟨i + 1, some ⟨g, 0, none⟩, cap, by omega, rfl, rfl, by rw [HOFi.out, HOSZ.out]; go_num, by rw [HOSi.out]; exact HO9.out, HB9.out⟩
          case measure => simp; omega
        · have hok : okR s i = false := by
            cases h : okR s i with
            | false => rfl
            | true => exact absurd (HLI2.out.2 h) hgo
          have hiN : i = N := by
            rcases Nat.lt_or_ge i N with h1 | h1
            · rw [HOKi.out h1] at hok; cases hok
            · omega
          have hcmp : ((⟨L.toArray⟩ : ByteArray).toList == (⟨(lnP s i).toArray⟩ ++ ⟨#[10]⟩ : ByteArray).toList) = false := by rw [HOD.out.1, HO10.out]; exact beq_eq_false_iff_ne.2 hgo
          subst hiN
          clear HOL hok hsp hend hgo HOD HOF2 HO10 HLI2 HLIi HOKi HNSPi HCSi HPL
          generalize (⟨(lnP s i).toArray⟩ : ByteArray) = P at *
          generalize (⟨(restL (lnP s i)).toArray⟩ : ByteArray) = R at *
          generalize (⟨L.toArray⟩ : ByteArray) = O at *
          go_wp2_with fail
          refine HC1.out.mono ?_
          rintro e w2 ⟨rfl, hb2⟩
          have HB2 := Lib.hid hb2
          clear hb2
          go_wp2_with fail
          refine (HC2.out _ (keepC HB2.out HMR.out)).mono ?_
          rintro e w3 ⟨rfl, hb3⟩
          have HB3 := Lib.hid (below_next HB2.out hb3)
          clear hb3
          go_wp2_with fail
          refine (HJL.out _ (htr.out.keep HB3.out)).mono ?_
          rintro e w4 ⟨rfl, hb4⟩
          have HB4 := Lib.hid (below_next HB3.out hb4)
          clear hb4
          go_wp2_with fail
          refine bodyPost_ret (v := .tuple #[.slice A i c, .int .i64 (offP s i : Nat)]) (by simp [results, Tryd.results18, go_sem]) rfl ⟨A, c, rfl, own_below HO.out HB4.out, below_next HB.out HB4.out⟩
      | false =>
        have hok := HNSPi.out hsp
        have hiN : i = N := by
          rcases Nat.lt_or_ge i N with h1 | h1
          · rw [HOKi.out h1] at hok; cases hok
          · omega
        have HSP2 : Hid (Lib.cut (⟨(lnP s i).toArray⟩ : ByteArray).data.toList [32] = (lnP s i, [], false)) := Lib.hid (by rw [HSPi.out, hsp]; rfl)
        have HC2 := Lib.hid fun W hm => Cut_any _ 32 _ _ _ W mx (by omega) hm HSP2.out
        have HJL := Lib.hid fun W ht => journalLine_any (cst s i) ⟨([] : List UInt8).toArray⟩ W HCRi (by decide) ht
        unfold LineOut at HJL
        subst hiN
        clear HOL hok hsp hend HO10 HLIi HOKi HNSPi HCSi HPL
        generalize lineJ _ _ = L at *
        generalize chk _ _ = d at *
        generalize (⟨(lnP s i).toArray⟩ : ByteArray) = P at *
        generalize (⟨L.toArray⟩ : ByteArray) = O at *
        go_wp2_with fail
        refine HC1.out.mono ?_
        rintro e w2 ⟨rfl, hb2⟩
        have HB2 := Lib.hid hb2
        clear hb2
        go_wp2_with fail
        refine (HC2.out _ (keepC HB2.out HMR.out)).mono ?_
        rintro e w3 ⟨rfl, hb3⟩
        have HB3 := Lib.hid (below_next HB2.out hb3)
        clear hb3
        go_wp2_with fail
        refine (HJL.out _ (htr.out.keep HB3.out)).mono ?_
        rintro e w4 ⟨rfl, hb4⟩
        have HB4 := Lib.hid (below_next HB3.out hb4)
        clear hb4
        go_wp2_with fail
        refine bodyPost_ret (v := .tuple #[.slice A i c, .int .i64 (offP s i : Nat)]) (by simp [results, Tryd.results18, go_sem]) rfl ⟨A, c, rfl, own_below HO.out HB4.out, below_next HB.out HB4.out⟩
    · have hiN : i = N := by have := HNS.out.1; rcases HNS.out.2 with h2 | h2; omega; (rcases Nat.lt_or_ge i N with h1 | h1; omega; omega)
      subst hiN
      have HCUT2 : Hid (Lib.cut (s.extract (offP s i) s.size).data.toList [10] = (lnP s i, [], false)) := Lib.hid (by rw [HCUTi.out, if_neg hend])
      have HC1 := Lib.hid (Cut_any _ 10 _ _ _ wr mx HXSi.out HMR.out HCUT2.out)
      have hrz : ∀ r : List UInt8, r = restL (lnP s i) ∨ r = [] → (⟨r.toArray⟩ : ByteArray).size ≤ 16000 := fun r h => by
        rcases h with rfl | rfl
        · exact hrsz
        · decide
      obtain ⟨p2, r2, f2, hcc, hr2⟩ : ∃ p2 r2 f2, Lib.cut (⟨(lnP s i).toArray⟩ : ByteArray).data.toList [32] = (p2, r2, f2) ∧ (r2 = restL (lnP s i) ∨ r2 = []) := by
        rw [HSPi.out]
        split
        · exact ⟨_, _, _, rfl, .inl rfl⟩
        · exact ⟨_, _, _, rfl, .inr rfl⟩
      have hr3 := hrz r2 hr2
      have HC2 := Lib.hid fun W hm => Cut_any _ 32 _ _ _ W mx (by omega) hm hcc
      have HJL := Lib.hid fun W ht => journalLine_any (cst s i) ⟨r2.toArray⟩ W HCRi (by omega) ht
      unfold LineOut at HJL
      clear HOL hend HO10 HLIi HOKi HNSPi HCSi HPL hrz hcc hr2 hr3
      generalize lineJ _ _ = L at *
      generalize chk _ _ = d at *
      generalize (⟨(lnP s i).toArray⟩ : ByteArray) = P at *
      generalize (⟨L.toArray⟩ : ByteArray) = O at *
      go_wp2_with fail
      refine HC1.out.mono ?_
      rintro e w2 ⟨rfl, hb2⟩
      have HB2 := Lib.hid hb2
      clear hb2
      go_wp2_with fail
      refine (HC2.out _ (keepC HB2.out HMR.out)).mono ?_
      rintro e w3 ⟨rfl, hb3⟩
      have HB3 := Lib.hid (below_next HB2.out hb3)
      clear hb3
      go_wp2_with fail
      refine (HJL.out _ (htr.out.keep HB3.out)).mono ?_
      rintro e w4 ⟨rfl, hb4⟩
      have HB4 := Lib.hid (below_next HB3.out hb4)
      clear hb4
      go_wp2_with fail
      refine bodyPost_ret (v := .tuple #[.slice A i c, .int .i64 (offP s i : Nat)]) (by simp [results, Tryd.results18, go_sem]) rfl ⟨A, c, rfl, own_below HO.out HB4.out, below_next HB.out HB4.out⟩
end Go.Proofs.YthfkibecbbkhlaaDoor
