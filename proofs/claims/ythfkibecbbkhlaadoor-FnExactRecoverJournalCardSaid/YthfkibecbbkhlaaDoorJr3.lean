/-
  Journals: spec.l08Journal, spec.JournalOf.
-/
import Derived.Test.YthfkibecbbkhlaaDoorJr2
import Derived.Deep.RegionHeld3
namespace Go.Proofs.YthfkibecbbkhlaaDoor
open Go Go.RowKit

def TextOut (l : List UInt8) (w : World) (e : Ending) (w' : World) : Prop := e = .returned (.string ⟨l.toArray⟩) ∧ Below w.heap.size w w'
set_option maxRecDepth 100000 in
set_option maxHeartbeats 3200000 in
theorem l08Journal_any (A : Option Addr) (ps : List ByteArray) (c : Nat) (w : World) (hps : ∀ k, (ps.getD k ByteArray.empty).size ≤ 1048576) (hbig : totJ ps ps.length ≤ 16000) (hnn : ps.length ≤ 1048576) (h : Rd w w.heap.size A (sl ps)) :
    Calls Tryd.prog 14 #[.slice A ps.length c] w (TextOut (jst ps ps.length).1 w) := by
  have HJ0 : Hid ((jst ps 0).1 = [] ∧ (jst ps 0).2 = 0) := Lib.hid ⟨rfl, rfl⟩
  have HJ : Hid (∀ k, (jst ps (k + 1)).1 = (jst ps k).1 ++ lineJ (chk (jst ps k).2 (ln ps k)) (ln ps k) ∧ (jst ps (k + 1)).2 = chk (jst ps k).2 (ln ps k)) := Lib.hid fun k => ⟨rfl, rfl⟩
  have HR : Hid (∀ k, 0 ≤ (jst ps k).2 ∧ (jst ps k).2 < 65003) := Lib.hid (jst_range ps)
  have HLEN : Hid (∀ k, k ≤ ps.length → (jst ps k).1.length ≤ 16000 + 20 * k) := Lib.hid fun k hk => by
    have h1 : (jst ps k).1.length ≤ totJ ps k + 20 * k := by
      clear hk
      induction k with
      | zero => exact Nat.le_refl _
      | succ k ih =>
        have h2 := (lineJ_len (chk_range (ln ps k) _ (jst_range ps k)) (ln ps k)).2
        have h3 : (ps.getD k ByteArray.empty).size = (ln ps k).length := Lib.size_eq _
        show ((jst ps k).1 ++ _).length ≤ totJ ps k + _ + _
        rw [List.length_append]
        omega
    have := tot_mono ps hk
    omega
  have HCR : Hid (∀ k, 0 ≤ chk (jst ps k).2 (ln ps k) ∧ chk (jst ps k).2 (ln ps k) < 65003) := Lib.hid fun k => chk_range _ _ (jst_range ps k)
  have HLN : Hid (∀ k, (ps.getD k ByteArray.empty).data.toList = ln ps k) := Lib.hid fun k => rfl
  have HPS := Lib.hid hps
  have HH := Lib.hid h
  unfold TextOut
  clear h hps hbig
  generalize hLL : (jst ps ps.length).1 = LL
  have HLL := Lib.hid hLL
  clear hLL
  go_enter Tryd.func14, Tryd.ntmps14
  go_wp2_with fail
  go_loopw [3, 4, 5] (fun tv cv iv wr => ∃ (k : Nat) (s : ByteArray), k ≤ ps.length ∧ iv = .int .i64 k ∧ tv = .string s ∧ s.data.toList = (jst ps k).1 ∧ cv = .int .i64 (jst ps k).2 ∧ Below w.heap.size w wr) (fun _ _ iv _ => ps.length - (intOf iv).toNat)
  case atStart => exact ⟨0, ⟨#[]⟩, Nat.zero_le _, rfl, rfl, HJ0.out.1.symm, by rw [HJ0.out.2], Below.refl _ _⟩
  case round =>
    obtain ⟨k, s, hk, rfl, rfl, hs, rfl, hbw⟩ := hrel
    rename World => wr
    have HS := Lib.hid hs
    have HB := Lib.hid hbw
    have hsz : s.size ≤ 16000 + 20 * k := by rw [Lib.size_eq, hs]; exact HLEN.out k hk
    clear hs hbw
    have HRk := HR.out k
    by_cases hlt : k < ps.length
    · obtain ⟨b, off, rfl, hb, hc⟩ := (HH.out.at_ HB.out).slAt hlt
      have hpk := HPS.out k
      have HJk := Lib.hid (HJ.out k)
      have HCRk := HCR.out k
      have HCK := Lib.hid (l01Check_any (jst ps k).2 (ps.getD k ByteArray.empty) wr HRk (by omega))
      rw [HLN.out k] at HCK
      have HLNk := Lib.hid (HLN.out k)
      have hk0 : (0 : Int) ≤ (k : Int) := by omega
      have hk1 : (k : Int) < (ps.length : Int) := by omega
      clear HJ HR HLEN HCR HLN HPS
      generalize ps.getD k ByteArray.empty = p at *
      have HLJ : Hid (∀ o : ByteArray, o.data.toList = Lib.itoa (chk (jst ps k).2 (ln ps k)) → (s ++ (((o ++ ⟨#[32]⟩) ++ p) ++ ⟨#[10]⟩) : ByteArray).data.toList = (jst ps (k + 1)).1) := Lib.hid fun o ho => by
        rw [app_data, app_data, app_data, app_data, ho, HLNk.out, HJk.out.1, HS.out]
        rfl
      generalize chk (jst ps k).2 (ln ps k) = d at *
      have HD := Lib.hid fun W => l01Dec_any d W (by omega) (by omega)
      have hos : (⟨(Lib.itoa d).toArray⟩ : ByteArray).size ≤ 21 := by rw [Lib.size_eq]; exact (itoa_len (n := d) (by omega)).2
      have HLJ2 := Lib.hid (HLJ.out ⟨(Lib.itoa d).toArray⟩ rfl)
      unfold DecOut at HD
      clear HLJ
      generalize (⟨(Lib.itoa d).toArray⟩ : ByteArray) = o at *
      have HM : Hid (∀ W, Below wr.heap.size wr W → W.cell? ⟨b, off + k, none⟩ = some (.string p)) := Lib.hid fun W hW => keepC hW hc
      go_wp2_with fail
      refine HCK.out.mono ?_
      rintro e w2 ⟨rfl, rfl⟩
      go_wp2_with fail
      have q1 : ¬ 9223372036854775807 < o.size + 1 := by omega
      have q2 : ¬ 9223372036854775807 < o.size + 1 + p.size := by omega
      have q3 : ¬ 9223372036854775807 < o.size + 1 + p.size + 1 := by omega
      have q4 : ¬ 9223372036854775807 < s.size + (o.size + 1 + p.size + 1) := by omega
      go_region_held3 (fun W => W.cell? ⟨b, off + k, none⟩ = some (.string p))
        (first | exact HM.out _ (Below.refl _ _) | exact HM.out _ (below_dr (Below.refl _ _)) | exact HM.out _ bk)
        (first
          | (go_at_call 21; refine (HD.out _).mono ?_; rintro e w3 ⟨rfl, hb3⟩; have bk : Below wr.heap.size wr w3 := below_next (below_dr (Below.refl _ _)) hb3; have HB3 := Lib.hid (below_next (below_dr HB.out) hb3); clear hb3))
      go_wp2_with fail
      go_roundw
      case rel => exact ⟨k + 1, _, by omega, by go_num, rfl, HLJ2.out, by rw [HJk.out.2], HB3.out⟩
      case measure => simp [intOf]; omega
    · obtain rfl : k = ps.length := by omega
      have HT : Hid (s = ⟨LL.toArray⟩) := Lib.hid (by rw [← HLL.out]; exact str_of HS.out)
      go_wp2_with fail
      go_ret
      rw [HT.out]
      exact ⟨rfl, HB.out⟩
theorem any_step {s : ByteArray} {k : Nat} (h : k < s.size) : (s.data.toList.take (k + 1)).any (· == 10) = ((s.data.toList.take k).any (· == 10) || s[k] == 10) := by
  rw [take_byte h, List.any_append]
  simp
theorem any_hit {s : ByteArray} {k : Nat} (h : k < s.size) (hb : s[k] = 10) : nlB s.data.toList = true := by
  rw [nlB_any, List.any_eq_true]
  have h' : k < s.data.toList.length := by rw [← Lib.size_eq]; exact h
  exact ⟨s[k], List.getElem_mem h', by rw [hb]; rfl⟩
theorem byte_yes {b : UInt8} (h : b = 10) : ((b.toNat : Int) == 10) = true := by rw [h]; rfl
theorem byte_not {b : UInt8} (h : b ≠ 10) : ((b.toNat : Int) == 10) = false := by
  refine beq_eq_false_iff_ne.2 fun e => h ?_
  have : b.toNat = (10 : UInt8).toNat := by
    show _ = 10
    omega
  exact UInt8.toNat_inj.1 this
set_option maxRecDepth 100000 in
set_option maxHeartbeats 3200000 in
theorem specJournalOf_any (A : Option Addr) (ps : List ByteArray) (c : Nat) (w : World) (hn : ps.length ≤ 1048576) (hps : ∀ k, (ps.getD k ByteArray.empty).size ≤ 1048576) (h : Rd w w.heap.size A (sl ps)) :
    Calls Tryd.prog 6 #[.slice A ps.length c] w (JOut ps w) := by
  have HT0 : Hid (totJ ps 0 = 0) := Lib.hid rfl
  have HT : Hid (∀ k, totJ ps (k + 1) = totJ ps k + ((ps.getD k ByteArray.empty).size + 3)) := Lib.hid fun k => rfl
  have HNL : Hid (∀ k, k < ps.length → nlB (ln ps k) = true → okJ ps = false) := Lib.hid fun k h1 h2 => okJ_nl h1 h2
  have HLG : Hid (∀ k, k ≤ ps.length → 16000 < totJ ps k → okJ ps = false) := Lib.hid fun k h1 h2 => okJ_tot h1 h2
  have HEN : Hid ((∀ k, k < ps.length → nlB (ln ps k) = false) → okJ ps = decide ((jst ps ps.length).1.length ≤ 16000)) := Lib.hid okJ_end
  have HTN : Hid (okJ ps = false → textJ ps = ⟨#[]⟩) := Lib.hid textJ_no
  have HTY : Hid (okJ ps = true → textJ ps = ⟨(jst ps ps.length).1.toArray⟩) := Lib.hid textJ_yes
  have HLN : Hid (∀ k, nlB (ps.getD k ByteArray.empty).data.toList = nlB (ln ps k)) := Lib.hid fun k => rfl
  have HJR : Hid (totJ ps ps.length ≤ 16000 → Calls Tryd.prog 14 #[.slice A ps.length c] w (TextOut (jst ps ps.length).1 w)) := Lib.hid fun hb => l08Journal_any A ps c w hps hb hn h
  have HPS := Lib.hid hps
  have HH := Lib.hid h
  unfold JOut
  unfold TextOut at HJR
  generalize okJ ps = R at *
  generalize textJ ps = T at *
  generalize (jst ps ps.length).1 = LL at *
  clear h hps
  go_enter Tryd.func6, Tryd.ntmps6
  go_wp2_with fail
  go_loop [4, 5, 6] (fun tv iv _ => ∃ k : Nat, k ≤ ps.length ∧ iv = .int .i64 k ∧ tv = .int .i64 (totJ ps k : Nat) ∧ totJ ps k ≤ 16000 ∧ ∀ j, j < k → nlB (ln ps j) = false) (fun _ iv _ => ps.length - (intOf iv).toNat)
  case atStart => exact ⟨0, Nat.zero_le _, rfl, by rw [HT0.out]; rfl, by rw [HT0.out]; omega, fun j hj => by omega⟩
  case round =>
    obtain ⟨k, hk, rfl, rfl, htot, hall⟩ := hrel
    have HA := Lib.hid hall
    clear hall
    by_cases hlt : k < ps.length
    · obtain ⟨b, off, rfl, hb, hc⟩ := HH.out.slAt hlt
      have hpk := HPS.out k
      have HTk := Lib.hid (HT.out k)
      have HNLk := Lib.hid (HNL.out k hlt)
      have HLGk := Lib.hid (HLG.out (k + 1) hlt)
      have HLNk := Lib.hid (HLN.out k)
      clear HT HNL HLG HLN HPS HJR
      generalize ps.getD k ByteArray.empty = p at *
      generalize totJ ps k = t0 at *
      by_cases hlong : 16000 < t0 + (p.size + 3)
      · have HF : Hid (R = false) := Lib.hid (HLGk.out (by rw [HTk.out]; exact hlong))
        go_wp2_with fail
        go_ret2
        rw [HTN.out HF.out, HF.out]
        exact ⟨rfl, Below.refl _ _⟩
      · have HST : Hid (∀ j (h : j < p.size), (p.data.toList.take (j + 1)).any (· == 10) = ((p.data.toList.take j).any (· == 10) || p[j] == 10)) := Lib.hid fun j h => any_step h
        have HHT : Hid (∀ j (h : j < p.size), p[j] = 10 → nlB p.data.toList = true) := Lib.hid fun j h hb => any_hit h hb
        have HAL : Hid ((p.data.toList.take p.size).any (· == 10) = false → nlB p.data.toList = false) := Lib.hid fun h => by rw [take_all] at h; rw [nlB_any]; exact h
        go_wp2_with fail
        go_loop [6] (fun jv => ∃ j : Nat, j ≤ p.size ∧ jv = .int .i64 j ∧ (p.data.toList.take j).any (· == 10) = false) (fun jv => p.size - (intOf jv).toNat)
        case atStart => exact ⟨0, Nat.zero_le _, rfl, rfl⟩
        case round =>
          obtain ⟨j, hj, rfl, hany⟩ := hrel
          have HY := Lib.hid hany
          clear hany
          by_cases hjt : j < p.size
          · by_cases h10 : p[j] = 10
            · have hby := byte_yes h10
              have HF : Hid (R = false) := Lib.hid (HNLk.out (by rw [← HLNk.out]; exact HHT.out j hjt h10))
              clear h10 HST HHT
              go_wp2_with fail
              go_ret2
              rw [HTN.out HF.out, HF.out]
              exact ⟨rfl, Below.refl _ _⟩
            · have hby := byte_not h10
              have HN : Hid ((p.data.toList.take (j + 1)).any (· == 10) = false) := Lib.hid (by rw [HST.out j hjt, HY.out, Bool.false_or]; exact beq_eq_false_iff_ne.2 h10)
              clear h10 HST HHT
              go_wp2_with fail
              go_round
              case rel => exact ⟨j + 1, by omega, by go_num, HN.out⟩
              case measure => simp [intOf]; omega
          · obtain rfl : j = p.size := by omega
            have HNB : Hid (nlB (ln ps k) = false) := Lib.hid (by rw [← HLNk.out]; exact HAL.out HY.out)
            go_wp2_with fail
            go_round
            case rel => exact ⟨k + 1, by omega, by go_num, by rw [HTk.out]; go_num, by rw [HTk.out]; omega, fun i hi => (by rcases Nat.lt_or_ge i k with h1 | h1; exact HA.out i h1; obtain rfl : i = k := (by omega); exact HNB.out)⟩
            case measure => simp [intOf]; omega
    · obtain rfl : k = ps.length := by omega
      have HJ := Lib.hid (HJR.out htot)
      have HD := Lib.hid (HEN.out HA.out)
      have hsz : (⟨LL.toArray⟩ : ByteArray).size = LL.length := Lib.size_eq _
      have HSZ := Lib.hid hsz
      clear hsz
      by_cases hl : LL.length ≤ 16000
      · have HF : Hid (R = true) := Lib.hid (by rw [HD.out]; exact decide_eq_true hl)
        have hl2 : (⟨LL.toArray⟩ : ByteArray).size ≤ 16000 := by rw [HSZ.out]; exact hl
        have HTT := Lib.hid (HTY.out HF.out)
        generalize (⟨LL.toArray⟩ : ByteArray) = o at *
        go_wp2_with fail
        refine HJ.out.mono ?_
        rintro e w2 ⟨rfl, hb2⟩
        have HB2 := Lib.hid hb2
        clear hb2
        go_wp2_with fail
        go_ret2
        rw [HTT.out, HF.out]
        exact ⟨rfl, HB2.out⟩
      · have HF : Hid (R = false) := Lib.hid (by rw [HD.out]; exact decide_eq_false hl)
        have hl2 : 16000 < (⟨LL.toArray⟩ : ByteArray).size := by rw [HSZ.out]; omega
        generalize (⟨LL.toArray⟩ : ByteArray) = o at *
        go_wp2_with fail
        refine HJ.out.mono ?_
        rintro e w2 ⟨rfl, hb2⟩
        have HB2 := Lib.hid hb2
        clear hb2
        go_wp2_with fail
        go_ret2
        rw [HTN.out HF.out, HF.out]
        exact ⟨rfl, HB2.out⟩
end Go.Proofs.YthfkibecbbkhlaaDoor
