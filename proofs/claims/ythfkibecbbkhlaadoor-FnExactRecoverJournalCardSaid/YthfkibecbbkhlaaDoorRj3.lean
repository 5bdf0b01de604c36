/-
  Journals that are recovered: spec.l08Recover.
-/
import Derived.Test.YthfkibecbbkhlaaDoorRj2
import Derived.Test.YthfkibecbbkhlaaDoorJr3
namespace Go.Proofs.YthfkibecbbkhlaaDoor
open Go Go.RowKit

theorem tw_true {q : UInt8 → Bool} : ∀ {l : List UInt8} {x : UInt8}, x ∈ l.takeWhile q → q x = true := by
  intro l
  induction l with
  | nil => intro x h; simp at h
  | cons b l ih =>
    intro x h
    rw [List.takeWhile_cons] at h
    split at h
    · rcases List.mem_cons.1 h with rfl | h
      · assumption
      · exact ih h
    · simp at h
theorem pre_before {p : ByteArray} {j : Nat} (h : j < (preL p.data.toList).length) (hj : j < p.size) : p[j] ≠ 32 := by
  have h2 : ((preL p.data.toList)[j] != 32) = true := tw_true (q := fun x => x != 32) (l := p.data.toList) (List.getElem_mem h)
  have h3 : (preL p.data.toList)[j] = p[j] := by
    have hp := (List.takeWhile_prefix (l := p.data.toList) (· != 32)).getElem (i := j) h
    exact hp
  intro e
  rw [h3, e] at h2
  cases h2
theorem pre_at {p : ByteArray} {j : Nat} (h : j = (preL p.data.toList).length) (hj : j < p.size) : p[j] = 32 := by
  have hs : spB p.data.toList = true := decide_eq_true (by rw [← h, ← Lib.size_eq]; exact hj)
  have e := sp_split hs
  have h1 : p.data.toList[j]? = some 32 := by
    rw [e, h]
    simp
  have h2 : p.data.toList[j]? = some p[j] := by
    rw [List.getElem?_eq_getElem (by rw [← Lib.size_eq]; exact hj)]
    rfl
  rw [h2] at h1
  injection h1
theorem b32_yes {b : UInt8} (h : b = 32) : ((b.toNat : Int) == 32) = true := by rw [h]; rfl
theorem b32_not {b : UInt8} (h : b ≠ 32) : ((b.toNat : Int) == 32) = false := by
  refine beq_eq_false_iff_ne.2 fun e => h ?_
  have : b.toNat = (32 : UInt8).toNat := by
    show _ = 32
    omega
  exact UInt8.toNat_inj.1 this
theorem rest_ext (p : ByteArray) (h : (preL p.data.toList).length < p.size) : p.extract ((preL p.data.toList).length + 1) p.size = ⟨(restL p.data.toList).toArray⟩ := by
  refine str_of ?_
  rw [ext_data p (by omega)]
  rfl
theorem pre_ext (p : ByteArray) : (p.extract 0 (preL p.data.toList).length).toList = preL p.data.toList := by
  rw [Lib.toList_data, Lib.extract_data, List.drop_zero, Nat.sub_zero]
  exact (List.prefix_iff_eq_take.1 (List.takeWhile_prefix _)).symm
set_option maxRecDepth 100000 in
set_option maxHeartbeats 6400000 in
theorem l08Recover_any (s : ByteArray) (N : Nat) (hN : isStop s N) (w : World) (hs : s.size ≤ 16000) :
    Calls Tryd.prog 17 #[.string s] w (RecOut s N w) := by
  obtain ⟨i0, hi0, hz0, hz1, hz2⟩ := info_parts info_str
  have HLN := Lib.hid (l08Lines_any s w hs)
  have HPSZ : Hid (∀ i, i ≤ lineN s → (pieceAt s i).size ≤ 16000) := Lib.hid fun i hi => by rw [Lib.size_eq]; exact Nat.le_trans (lnP_len s hi) hs
  have HCR : Hid (∀ i, 0 ≤ cst s i ∧ cst s i < 65003) := Lib.hid (cst_range s)
  have HCS : Hid (∀ i, chk (cst s i) (⟨(restL (pieceAt s i).data.toList).toArray⟩ : ByteArray).data.toList = cst s (i + 1)) := Lib.hid fun i => rfl
  have HOK : Hid (∀ i, i < N → okR s i = true) := Lib.hid hN.2.1
  have HNS : Hid (N ≤ lineN s ∧ (N = lineN s ∨ okR s N = false)) := Lib.hid ⟨hN.1, hN.2.2⟩
  have HNSP : Hid (∀ i, spB (pieceAt s i).data.toList = false → okR s i = false) := Lib.hid fun i h => by unfold okR lnP; rw [h]; rfl
  have HYSP : Hid (∀ i, spB (pieceAt s i).data.toList = true → okR s i = decide (preL (pieceAt s i).data.toList = Lib.itoa (cst s (i + 1)))) := Lib.hid fun i h => by unfold okR lnP; rw [h, Bool.true_and]
  have HOS : Hid (∀ i, sl (outR s (i + 1)) = sl (outR s i) ++ [.string ⟨(restL (pieceAt s i).data.toList).toArray⟩]) := Lib.hid fun i => by rw [outR_succ]; simp [sl, restB, lnP]
  have HO0 : Hid (sl (outR s 0) = [] ∧ cst s 0 = 0 ∧ offP s 0 = 0) := Lib.hid ⟨rfl, rfl, rfl⟩
  have HOF : Hid (∀ i, offP s (i + 1) = offP s i + (pieceAt s i).size + 1) := Lib.hid fun i => by rw [Lib.size_eq]; rfl
  have HOFL : Hid (∀ i, i ≤ lineN s → offP s i ≤ 16000) := Lib.hid fun i hi => Nat.le_trans (text_from s i hi).1 hs
  have HLL : Hid (lineN s ≤ 16001) := Lib.hid (by
    have h2 := cutB_len s (s.size + 1)
    unfold lineN
    omega)
  unfold RecOut
  unfold linesOut at HLN
  clear hN
  generalize lineN s = m at *
  have hm := HLL.out
  go_enter Tryd.func17, Tryd.ntmps17
  go_wp2_with fail
  refine HLN.out.mono ?_
  rintro e w1 ⟨g0, c0, rfl, hcell, hb1⟩
  have HC := Lib.hid hcell
  have HB1 := Lib.hid hb1
  clear hcell hb1
  go_wp2_with fail
  have START : Hid (Below w.heap.size w (w1.alloc (.cells #[] 9)) ∧ (w1.alloc (.cells #[] 9)).ownsRow w1.heap.size 9 1 (.slice (some ⟨w1.heap.size, 0, none⟩) 0 0) 0 (sl (outR s 0)) ∧ Below w1.heap.size w1 (w1.alloc (.cells #[] 9))) := Lib.hid ⟨below_al HB1.out _, by rw [HO0.out.1]; exact World.ownsRow_made w1 #[] 0 (Nat.le_refl _) (by unfold maxLen; omega) rfl, below_al (Below.refl _ _) _⟩
  go_loopw [6, 7, 8, 9, 10, 11] (fun lv cv sv iv _ _ wr => ∃ (i : Nat) (A : Option Addr) (c : Nat), i ≤ N ∧ iv = .int .i64 i ∧ lv = .slice A i c ∧ cv = .int .i64 (cst s i) ∧ sv = .int .i64 (offP s i : Nat) ∧ wr.ownsRow w1.heap.size 9 1 (.slice A i c) i (sl (outR s i)) ∧ Below w.heap.size w wr ∧ Below w1.heap.size w1 wr)
    (fun _ _ _ iv _ _ _ => N + 1 - (intOf iv).toNat)
  case atStart => exact ⟨0, _, 0, Nat.zero_le _, rfl, rfl, by rw [HO0.out.2.1], by rw [HO0.out.2.2]; rfl, START.out.2.1, START.out.1, START.out.2.2⟩
  case round =>
    obtain ⟨i, A, c, hi, rfl, rfl, rfl, rfl, hown, hbw, hbw1⟩ := hrel
    rename World => wr
    have HO := Lib.hid hown
    have HB := Lib.hid hbw
    have HBW1 := Lib.hid hbw1
    have hil : i ≤ m := Nat.le_trans hi HNS.out.1
    have hCR := HCR.out i
    have HCRi := Lib.hid hCR
    have hof := HOFL.out i hil
    have HEND : Hid (w1.heap.size ≥ w.heap.size) := Lib.hid HB1.out.size
    clear hown hbw hbw1 hCR
    by_cases hlt : i < m
    · have hcl := keepC HBW1.out (HC.out i hlt)
      have HCG := Lib.hid (HC.out i hlt)
      have hps := HPSZ.out i hil
      have HCSi := Lib.hid (HCS.out i)
      have HOKi := Lib.hid (HOK.out i)
      have HNSPi := Lib.hid (HNSP.out i)
      have HYSPi := Lib.hid (HYSP.out i)
      have HOSi := Lib.hid (HOS.out i)
      have HOFi := Lib.hid (HOF.out i)
      have HCR1 := Lib.hid (HCR.out (i + 1))
      clear HC HPSZ HCS HOK HNSP HYSP HOS HOF HOFL
      generalize pieceAt s i = p at *
      have hple : (preL p.data.toList).length ≤ p.size := by rw [Lib.size_eq]; exact preL_le _
      have HPB : Hid (∀ j (h : j < p.size), j < (preL p.data.toList).length → p[j] ≠ 32) := Lib.hid fun j h h1 => pre_before h1 h
      have HPA : Hid (∀ j (h : j < p.size), j = (preL p.data.toList).length → p[j] = 32) := Lib.hid fun j h h1 => pre_at h1 h
      have HSPB : Hid (spB p.data.toList = decide ((preL p.data.toList).length < p.size)) := Lib.hid (by unfold spB; rw [Lib.size_eq])
      have HRE : Hid ((preL p.data.toList).length < p.size → p.extract ((preL p.data.toList).length + 1) p.size = ⟨(restL p.data.toList).toArray⟩) := Lib.hid (rest_ext p)
      have HPE : Hid ((p.extract 0 (preL p.data.toList).length).toList = preL p.data.toList) := Lib.hid (pre_ext p)
      generalize hX : (preL p.data.toList).length = X at *
      clear hX
      go_wp2_with fail
      go_loop [10] (fun jv => ∃ j : Nat, j ≤ X ∧ jv = .int .i64 j) (fun jv => X - (intOf jv).toNat)
      case atStart => exact ⟨0, Nat.zero_le _, rfl⟩
      case round =>
        obtain ⟨j, hj, rfl⟩ := hrel
        by_cases hjX : j < X
        · have hjs : j < p.size := by omega
          have hby := b32_not (HPB.out j hjs hjX)
          go_wp2_with fail
          go_round
          case rel => exact ⟨j + 1, by omega, by go_num⟩
          case measure => simp [intOf]; omega
        · obtain rfl : j = X := by omega
          by_cases hjs : j < p.size
          · have hby := b32_yes (HPA.out j hjs rfl)
            have HY := Lib.hid (HYSPi.out (by rw [HSPB.out]; exact decide_eq_true hjs))
            have HRB := Lib.hid (HRE.out hjs)
            have hrz : (⟨(restL p.data.toList).toArray⟩ : ByteArray).size ≤ 16000 := by
              rw [← HRB.out]
              have := ext_size p (a := j + 1) (by omega)
              omega
            have HCK := Lib.hid fun W => l01Check_any (cst s i) ⟨(restL p.data.toList).toArray⟩ W HCRi.out (by omega)
            rw [HCSi.out] at HCK
            have HD := Lib.hid fun W => l01Dec_any (cst s (i + 1)) W (by have := HCR1.out; omega) (by have := HCR1.out; omega)
            unfold DecOut at HD
            have hj0 : (0 : Int) ≤ (j : Int) := by omega
            have hj1 : (j : Int) ≤ (p.size : Int) := by omega
            have HM : Hid (∀ W, Below wr.heap.size wr W → W.cell? ⟨g0, i, none⟩ = some (.string p)) := Lib.hid fun W hW => keepC hW hcl
            have hi0' : (0 : Int) ≤ (i : Int) := by omega
            have hi1' : (i : Int) < (m : Int) := by omega
            clear HPB HPA HRE HSPB HCSi HNSPi HYSPi
            have hrb := HRB.out
            have HIT : Hid ((⟨(Lib.itoa (cst s (i + 1))).toArray⟩ : ByteArray).toList = Lib.itoa (cst s (i + 1))) := Lib.hid (by rw [Lib.toList_data])
            generalize (⟨(restL p.data.toList).toArray⟩ : ByteArray) = R at *
            generalize (⟨(Lib.itoa (cst s (i + 1))).toArray⟩ : ByteArray) = O at *
            have HPE2 : Hid (((p.extract 0 j).toList == O.toList) = okR s i) := Lib.hid (by rw [HPE.out, HIT.out, HY.out]; exact Bool.eq_iff_iff.2 (by simp))
            clear HY HPE HIT
            cases hok : okR s i with
            | true =>
              rw [hok] at HPE2
              have hcmp := HPE2.out
              have hlt2 : i < N := by
                rcases Nat.lt_or_ge i N with h1 | h1
                · exact h1
                · obtain rfl : i = N := by omega
                  rcases HNS.out.2 with h2 | h2
                  · omega
                  · rw [hok] at h2; cases h2
              clear hok
              go_wp2_with fail
              refine (HCK.out _).mono ?_
              rintro e w2 ⟨rfl, rfl⟩
              go_wp2_with fail
              go_region_held3 (fun W => W.cell? ⟨g0, i, none⟩ = some (.string p))
                (first | exact HM.out _ (Below.refl _ _) | exact HM.out _ (below_dr (Below.refl _ _)) | exact HM.out _ bk)
                (first
                  | (go_at_call 21; refine (HD.out _).mono ?_; rintro e w3 ⟨rfl, hb3⟩; have bk : Below wr.heap.size wr w3 := below_next (below_dr (Below.refl _ _)) hb3; have HB3 := Lib.hid bk; clear hb3))
              have hc3 := HM.out _ HB3.out
              have hsz3 := HB3.out.size
              have hlt3 : g0 < w3.heap.size := lt_of_cell (a := ⟨g0, i, none⟩) hc3
              clear bk
              go_wp2_with (refine wpList_append_lies _ rfl _ _ _ rfl w1.heap.size 9 i0 _ 1 16 Tryd.underlying22 hi0 hz0 hz1 hz2 rfl (by omega) (.slice A i c) i (sl (outR s i)) (by rfl) ((own_below HO.out HB3.out).alloc _) ⟨w3.heap.size, 0, none⟩ 1 1 [.string R] (by rfl) (by rfl) (World.news_of_block (cs := #[.string R]) (t := 9) (fr := (0, 0)) (heap_alloc_new w3 _)) (by simp [Value.oneCell']) (by omega) (by unfold maxLen; omega) (by omega) (by have := HB3.out.size; have := HBW1.out.size; simp; omega) (w3.heap.size + 1) (by simp) ?_; intro g cap w9 hown9 hgrow hat hlt9; have HB9 := Lib.hid ((below_al (below_next HB.out HB3.out) (.cells #[.string R] 9)).grown hgrow (by have := HB3.out.size; have := HB.out.size; simp; omega) (fun q hq => by have := ((own_below HO.out HB3.out).lt q hq).1; have := HEND.out; omega)); have HB9' := Lib.hid ((below_al (below_next HBW1.out HB3.out) (.cells #[.string R] 9)).grown hgrow (by have := HB3.out.size; have := HBW1.out.size; simp; omega) (fun q hq => ((own_below HO.out HB3.out).lt q hq).1)); have hc9 := keepC HB9'.out (HCG.out); have HO9 := Lib.hid hown9; clear hown9 hgrow hat)
              go_roundw
              case rel => exact ⟨i + 1, some ⟨g, 0, none⟩, cap, by omega, by go_num, rfl, rfl, by rw [HOFi.out]; go_num, by rw [HOSi.out]; exact HO9.out, HB9.out, HB9'.out⟩
              case measure => simp [intOf]; omega
            | false =>
              rw [hok] at HPE2
              have hcmp := HPE2.out
              have hiN : i = N := by
                rcases Nat.lt_or_ge i N with h1 | h1
                · have := HOKi.out h1
                  rw [hok] at this
                  cases this
                · omega
              subst hiN
              clear hok
              go_wp2_with fail
              refine (HCK.out _).mono ?_
              rintro e w2 ⟨rfl, rfl⟩
              go_wp2_with fail
              go_region_held3 (fun W => W.cell? ⟨g0, i, none⟩ = some (.string p))
                (first | exact HM.out _ (Below.refl _ _) | exact HM.out _ (below_dr (Below.refl _ _)) | exact HM.out _ bk)
                (first
                  | (go_at_call 21; refine (HD.out _).mono ?_; rintro e w3 ⟨rfl, hb3⟩; have bk : Below wr.heap.size wr w3 := below_next (below_dr (Below.refl _ _)) hb3; have HB3 := Lib.hid bk; clear hb3))
              clear bk
              go_wp2_with fail
              refine bodyPost_ret (v := .tuple #[.slice A i c, .int .i64 (offP s i : Nat)]) (by simp [results, Tryd.results17, go_sem]) rfl ⟨A, c, rfl, own_base (own_below HO.out HB3.out) HEND.out, below_next HB.out HB3.out⟩
          · have HF : Hid (okR s i = false) := Lib.hid (HNSPi.out (by rw [HSPB.out]; exact decide_eq_false hjs))
            have hiN : i = N := by
              rcases Nat.lt_or_ge i N with h1 | h1
              · have := HOKi.out h1
                rw [HF.out] at this
                cases this
              · omega
            subst hiN
            obtain hje : j = p.size := by omega
            subst hje
            go_wp2_with fail
            refine bodyPost_ret (v := .tuple #[.slice A i c, .int .i64 (offP s i : Nat)]) (by simp [results, Tryd.results17, go_sem]) rfl ⟨A, c, rfl, own_base HO.out HEND.out, HB.out⟩
    · have hiN : i = N := by have := HNS.out.1; omega
      have hiM : i = m := by omega
      subst hiN
      go_wp2_with fail
      refine bodyPost_ret (v := .tuple #[.slice A i c, .int .i64 (offP s i : Nat)]) (by simp [results, Tryd.results17, go_sem]) rfl ⟨A, c, rfl, own_base HO.out HEND.out, HB.out⟩
end Go.Proofs.YthfkibecbbkhlaaDoor
