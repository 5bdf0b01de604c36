/-
  Journals: impl.journalLine, impl.JournalOf.
-/
import Derived.Test.YthfkibecbbkhlaaDoorJr1
namespace Go.Proofs.YthfkibecbbkhlaaDoor
open Go Go.RowKit

/-- the table that the numeral is told by -/
def Tab (w : World) : Prop := Lib.TabIs Tryd.prog w "internal/strconv.uint64pow10" .u64 Lib.pow10Tab
theorem Tab.keep {w w' : World} (h : Tab w) (hb : Below w.heap.size w w') : Tab w' := (Lib.tabBelow_of_tabIs h) w' hb
def LineOut (c : Int) (p : List UInt8) (w : World) (e : Ending) (w' : World) : Prop := e = .returned (.tuple #[.string ⟨(lineJ (chk c p) p).toArray⟩, .int .i64 (chk c p)]) ∧ Below w.heap.size w w'
set_option maxHeartbeats 800000 in
theorem journalLine_any (c : Int) (s : ByteArray) (w : World) (hc : 0 ≤ c ∧ c < 65003) (hs : s.size ≤ 1048576) (ht : Tab w) : Calls Tryd.prog 15 #[.int .i64 c, .string s] w (LineOut c s.data.toList w) := by
  unfold LineOut
  have HC := Lib.hid (CheckOf_any c s w hc (by omega))
  have hr := chk_range s.data.toList c hc
  have HL : Hid (∀ o : ByteArray, o.data.toList = Lib.itoa (chk c s.data.toList) → (((o ++ ⟨#[32]⟩) ++ s) ++ ⟨#[10]⟩ : ByteArray) = ⟨(lineJ (chk c s.data.toList) s.data.toList).toArray⟩) := Lib.hid fun o ho => str_of (by rw [app_data, app_data, app_data, ho]; rfl)
  generalize chk c s.data.toList = d at *
  have HD := Lib.hid (Decimal_any d w (by omega) (by omega) ht)
  have HLD := Lib.hid (HL.out ⟨(Lib.itoa d).toArray⟩ rfl)
  have hos : (⟨(Lib.itoa d).toArray⟩ : ByteArray).size ≤ 21 := by rw [Lib.size_eq]; exact (itoa_len (n := d) (by omega)).2
  unfold DecOut at HD
  clear hc ht HL
  generalize (⟨(Lib.itoa d).toArray⟩ : ByteArray) = o at *
  generalize (lineJ d s.data.toList).toArray = L at *
  go_enter Tryd.func15, Tryd.ntmps15
  go_wp2_with fail
  refine HC.out.mono ?_
  rintro e w1 ⟨rfl, rfl⟩
  go_wp2_with fail
  refine HD.out.mono ?_
  rintro e w2 ⟨rfl, hb⟩
  have HB := Lib.hid hb
  clear hb
  go_wp2_with fail
  go_ret2
  exact ⟨by rw [HLD.out]; rfl, HB.out⟩
def JOut (ps : List ByteArray) (w : World) (e : Ending) (w' : World) : Prop := e = .returned (.tuple #[.string (textJ ps), .bool (okJ ps)]) ∧ Below w.heap.size w w'
set_option maxRecDepth 100000 in
set_option maxHeartbeats 3200000 in
theorem JournalOf_any (A : Option Addr) (ps : List ByteArray) (c : Nat) (w : World) (hn : ps.length ≤ 1048576) (hps : ∀ k, (ps.getD k ByteArray.empty).size ≤ 1048576) (ht : Tab w) (h : Rd w w.heap.size A (sl ps)) :
    Calls Tryd.prog 8 #[.slice A ps.length c] w (JOut ps w) := by
  have HJ0 : Hid ((jst ps 0).1 = [] ∧ (jst ps 0).2 = 0) := Lib.hid ⟨rfl, rfl⟩
  have HJ : Hid (∀ k, (jst ps (k + 1)).1 = (jst ps k).1 ++ lineJ (chk (jst ps k).2 (ln ps k)) (ln ps k) ∧ (jst ps (k + 1)).2 = chk (jst ps k).2 (ln ps k)) := Lib.hid fun k => ⟨rfl, rfl⟩
  have HR : Hid (∀ k, 0 ≤ (jst ps k).2 ∧ (jst ps k).2 < 65003) := Lib.hid (jst_range ps)
  have HLL : Hid (∀ k, (lineJ (chk (jst ps k).2 (ln ps k)) (ln ps k)).length ≤ (ps.getD k ByteArray.empty).size + 23) := Lib.hid fun k => by
    have := (lineJ_len (chk_range (ln ps k) _ (jst_range ps k)) (ln ps k)).2
    rw [show (ps.getD k ByteArray.empty).size = (ln ps k).length from Lib.size_eq _]
    exact this
  have HNL : Hid (∀ k, k < ps.length → nlB (ln ps k) = true → okJ ps = false) := Lib.hid fun k h1 h2 => okJ_nl h1 h2
  have HLG : Hid (∀ k, k ≤ ps.length → 16000 < (jst ps k).1.length → okJ ps = false) := Lib.hid fun k h1 h2 => okJ_long h1 h2
  have HEN : Hid ((∀ k, k < ps.length → nlB (ln ps k) = false) → okJ ps = decide ((jst ps ps.length).1.length ≤ 16000)) := Lib.hid okJ_end
  have HTN : Hid (okJ ps = false → textJ ps = ⟨#[]⟩) := Lib.hid textJ_no
  have HTY : Hid (okJ ps = true → textJ ps = ⟨(jst ps ps.length).1.toArray⟩) := Lib.hid textJ_yes
  have HNB : Hid (∀ k, decide (0 ≤ Lib.indexByte (ps.getD k ByteArray.empty).data.toList 10) = nlB (ln ps k)) := Lib.hid fun k => rfl
  have HLN : Hid (∀ k, (ps.getD k ByteArray.empty).data.toList = ln ps k) := Lib.hid fun k => rfl
  have HPS := Lib.hid hps
  have HH := Lib.hid h
  have HTB := Lib.hid ht
  unfold JOut
  generalize okJ ps = R at *
  generalize textJ ps = T at *
  clear h hps ht
  go_enter Tryd.func8, Tryd.ntmps8
  go_wp2_with fail
  go_loopw [4, 5, 7, 8, 11] (fun tv cv _ _ iv wr => ∃ (k : Nat) (s : ByteArray), k ≤ ps.length ∧ iv = .int .i64 k ∧ tv = .string s ∧ s.data.toList = (jst ps k).1 ∧ cv = .int .i64 (jst ps k).2 ∧ Below w.heap.size w wr ∧ (∀ j, j < k → nlB (ln ps j) = false) ∧ s.size ≤ 16000) (fun _ _ _ _ iv _ => ps.length - (intOf iv).toNat)
  case atStart => exact ⟨0, ⟨#[]⟩, Nat.zero_le _, rfl, rfl, HJ0.out.1.symm, by rw [HJ0.out.2], Below.refl _ _, fun j hj => by omega, by decide⟩
  case round =>
    obtain ⟨k, s, hk, rfl, rfl, hs, rfl, hbw, hall, hsz⟩ := hrel
    rename World => wr
    have HS := Lib.hid hs
    have HB := Lib.hid hbw
    have HA := Lib.hid hall
    clear hs hbw hall
    have HRk := HR.out k
    by_cases hlt : k < ps.length
    · obtain ⟨b, off, rfl, hb, hc⟩ := (HH.out.at_ HB.out).slAt hlt
      have hpk := HPS.out k
      have HJk := Lib.hid (HJ.out k)
      have HLLk := HLL.out k
      have HNLk := Lib.hid (HNL.out k hlt)
      have HLGk := Lib.hid (HLG.out (k + 1) hlt)
      have HNBk := Lib.hid (HNB.out k)
      have HL := Lib.hid (journalLine_any (jst ps k).2 (ps.getD k ByteArray.empty) wr HRk hpk (HTB.out.keep HB.out))
      rw [HLN.out k] at HL
      have HCN := Lib.hid fun W => Tryd.strings_Contains_one (ps.getD k ByteArray.empty) 10 W
      unfold LineOut at HL
      clear HJ HR HLL HNL HLG HNB HLN HPS
      generalize ps.getD k ByteArray.empty = p at *
      generalize lineJ (chk (jst ps k).2 (ln ps k)) (ln ps k) = L at *
      generalize chk (jst ps k).2 (ln ps k) = d at *
      have hLs : (⟨L.toArray⟩ : ByteArray).size = L.length := Lib.size_eq _
      have HLD : Hid ((⟨L.toArray⟩ : ByteArray).data.toList = L) := Lib.hid rfl
      have hLm : (⟨L.toArray⟩ : ByteArray).size ≤ p.size + 23 := by rw [hLs]; exact HLLk
      have HLS := Lib.hid hLs
      clear hLs HLLk
      generalize (⟨L.toArray⟩ : ByteArray) = o at *
      have HN1 : Hid ((s ++ o).data.toList = (jst ps (k + 1)).1) := Lib.hid (by rw [app_data, HS.out, HLD.out, HJk.out.1])
      have HN2 : Hid ((jst ps (k + 1)).1.length = s.size + o.size) := Lib.hid (by rw [← HN1.out, ← Lib.size_eq, ByteArray.size_append])
      cases hnl : nlB (ln ps k) with
      | true =>
        have HNN := Lib.hid hnl
        have HF := Lib.hid (HNLk.out hnl)
        clear hnl
        go_wp2_with fail
        refine HL.out.mono ?_
        rintro e w2 ⟨rfl, hb2⟩
        have HB2 := Lib.hid (below_next HB.out hb2)
        clear hb2
        go_wp2_with fail
        refine (HCN.out _).mono ?_
        rw [HNBk.out, HNN.out]
        rintro e w3 ⟨rfl, rfl⟩
        go_wp2_with fail
        go_ret2
        rw [HTN.out HF.out, HF.out]
        exact ⟨rfl, HB2.out⟩
      | false =>
        have HNN := Lib.hid hnl
        clear hnl
        by_cases hlong : 16000 < s.size + o.size
        · have HF : Hid (R = false) := Lib.hid (HLGk.out (by rw [HN2.out]; exact hlong))
          go_wp2_with fail
          refine HL.out.mono ?_
          rintro e w2 ⟨rfl, hb2⟩
          have HB2 := Lib.hid (below_next HB.out hb2)
          clear hb2
          go_wp2_with fail
          refine (HCN.out _).mono ?_
          rw [HNBk.out, HNN.out]
          rintro e w3 ⟨rfl, rfl⟩
          go_wp2_with fail
          go_ret2
          rw [HTN.out HF.out, HF.out]
          exact ⟨rfl, HB2.out⟩
        · go_wp2_with fail
          refine HL.out.mono ?_
          rintro e w2 ⟨rfl, hb2⟩
          have HB2 := Lib.hid (below_next HB.out hb2)
          clear hb2
          go_wp2_with fail
          refine (HCN.out _).mono ?_
          rw [HNBk.out, HNN.out]
          rintro e w3 ⟨rfl, rfl⟩
          go_wp2_with fail
          go_roundw
          case rel => exact ⟨k + 1, s ++ o, by omega, by go_num, rfl, HN1.out, by rw [HJk.out.2], HB2.out, fun j hj => (by rcases Nat.lt_or_ge j k with h1 | h1; exact HA.out j h1; obtain rfl : j = k := (by omega); exact HNN.out), by rw [ByteArray.size_append]; omega⟩
          case measure => simp [intOf]; omega
    · obtain rfl : k = ps.length := by omega
      have HF : Hid (R = true) := Lib.hid (by
        rw [HEN.out HA.out]
        refine decide_eq_true ?_
        rw [← HS.out, ← Lib.size_eq]
        exact hsz)
      have HT : Hid (T = s) := Lib.hid (by rw [HTY.out HF.out]; exact (str_of HS.out).symm)
      go_wp2_with fail
      go_ret2
      rw [HT.out, HF.out]
      exact ⟨rfl, HB.out⟩
end Go.Proofs.YthfkibecbbkhlaaDoor
