/-
  spec.ReadCycles.
-/
import Derived.Test.YtadkpmmbnenemaaGreatDoorOc6
namespace Go.Proofs.YtadkpmmbnenemaaGreatDoor
open Go Go.RowKit

set_option maxRecDepth 100000 in
set_option maxHeartbeats 6400000 in
theorem l08ReadOrder_any (s : ByteArray) (w : World) (hs : s.size ≤ 1048576) : Calls Tryz.prog 9 #[.string s] w (RcyOut s w) := by
  obtain ⟨l0, hl0, hx0, hx1, hx2⟩ := info_parts info_i64ss
  have HSP : Hid (Calls Tryz.prog 14 #[.string s, .int .u8 47] w (fun e w' => ∃ A c, e = .returned (.slice A (piecesOf s).length c) ∧ w'.ownsRow w.heap.size 9 1 (.slice A (piecesOf s).length c) (piecesOf s).length (sl (piecesOf s)) ∧ Below w.heap.size w w')) := Lib.hid (by
    have h1 := Cx.l01Cut_any s w hs
    unfold Cx.cutOut at h1
    rw [cut_pieces] at h1
    exact h1)
  have HRL : Hid (∀ i (h : i < (piecesOf s).length) W, Calls Tryz.prog 15 #[.string (piecesOf s)[i]] W (NumsOut (piecesOf s)[i] W)) := Lib.hid fun i h W => l01Numbers_any _ W (Nat.le_trans (piece_size (List.getElem_mem h)) hs)
  have hpl : (piecesOf s).length ≤ 1048577 := by
    have := pieces_len s
    have := Lib.countB_le strokeS (by decide) _ s (Nat.le_refl _)
    omega
  have hp1 : 1 ≤ (piecesOf s).length := by
    have := pieces_len s
    omega
  have HCS : Hid (∀ i (h : i < (piecesOf s).length), cyL ((piecesOf s).take (i + 1)) = cyL ((piecesOf s).take i) ++ [(nums (piecesOf s)[i]).1]) := Lib.hid fun i h => cyL_snoc h
  have HFL : Hid (∀ i, cyM (piecesOf s) i ≤ 67108928) := Lib.hid fun i => cyM_few hpl
  have HMS : Hid (∀ i (h : i < (piecesOf s).length), cyM (piecesOf s) (i + 1) = cyM (piecesOf s) i + (nums (piecesOf s)[i]).1.length) := Lib.hid fun i h => cyM_succ h
  have HM0 : Hid (cyM (piecesOf s) 0 = 0) := Lib.hid rfl
  have HMD : Hid (∀ i, (cyL ((piecesOf s).take i)).flatten.length = cyM (piecesOf s) i) := Lib.hid fun i => rfl
  have HBAD := Lib.hid fun i (h : i < (piecesOf s).length) => rc_piece (s := s) h
  have HNO := Lib.hid fun (h : rcOk s = false) w' (hb : Below w.heap.size w w') => RcyOut.no (s := s) h hb
  have HRO : Hid ((piecesOf s).all okP = true → rcOk s = (ocOkC (cyL (piecesOf s)) && decide (ctT (ocXC (cyL (piecesOf s))) = s.data.toList)) ∧ rcX s = if rcOk s = true then ocXC (cyL (piecesOf s)) else []) := Lib.hid fun h => by
    refine ⟨?_, rfl⟩
    unfold rcOk
    rw [h, Bool.true_and]
  generalize hQ : RcyOut s w = Q at *
  have HQ := Lib.hid hQ
  clear hQ
  generalize cyM (piecesOf s) = cm at *
  generalize piecesOf s = ps at *
  go_enter Tryz.func9, Tryz.ntmps9
  go_wp2_with fail
  refine HSP.out.mono ?_
  rintro e w1 ⟨A0, c0, rfl, ho1, hb1⟩
  obtain ⟨g0, rfl, hg0, hc0, hcells⟩ := own_words (by omega) ho1
  have HPC : Hid (∀ W, Below w1.heap.size w1 W → ∀ k (h : k < ps.length), W.cell? ⟨g0, k, none⟩ = some (.string ps[k])) := Lib.hid fun W hW k h => keepC hW (by have := hcells k ps[k] (List.getElem?_eq_getElem h); rwa [Nat.zero_add] at this)
  have B1 := Lib.hid hb1
  clear ho1 hb1 hcells HSP hc0
  go_upto_region 3 with fail
  generalize hW2 : World.alloc w1 _ = w2
  have t2 : LT w2 w1.heap.size (.slice (some ⟨w1.heap.size, 0, none⟩) 0 0) [] ∧ Below w1.heap.size w1 w2 := by rw [← hW2]; exact ⟨LT.start w1, below_al (Below.refl _ _) _⟩
  have T2 := Lib.hid t2
  clear hW2 t2
  go_wp2_with fail
  go_loopw [5, 6, 7] (fun cv mv iv wr => ∃ (i : Nat) (A' : Option Addr) (c' : Nat) (rs : List (List Int × Value)), i ≤ ps.length ∧ iv = .int .i64 i ∧ cv = .slice A' rs.length c' ∧ mv = .int .i64 (cm i : Nat) ∧ rs.length = i ∧ csO rs = cyL (ps.take i) ∧ (ps.take i).all okP = true ∧ LT wr w1.heap.size (.slice A' rs.length c') rs ∧ Below w1.heap.size w1 wr) (fun _ _ iv _ => ps.length - (intOf iv).toNat)
  case atStart => exact ⟨0, _, 0, [], Nat.zero_le _, rfl, rfl, by rw [HM0.out]; rfl, rfl, rfl, rfl, T2.out.1, T2.out.2⟩
  case round =>
    obtain ⟨i, A', c', rs, hi, rfl, rfl, rfl, hrl, hcs, hall, hlt, hbw⟩ := hrel
    rename World => wr
    have T := Lib.hid hlt
    have B := Lib.hid hbw
    have CS := Lib.hid hcs
    have ALL := Lib.hid hall
    have RL := Lib.hid hrl
    have hfl := HFL.out i
    have hrs : rs.length ≤ 1048577 := by omega
    have hpc := HPC.out wr hbw
    clear hlt hbw hcs hall T2 hrl
    by_cases hip : i < ps.length
    · have hcp := hpc i hip
      have HCSi := Lib.hid (HCS.out i hip)
      have HRLi := Lib.hid (HRL.out i hip)
      have HBi := Lib.hid (HBAD.out i hip)
      have HALN : Hid (okP ps[i] = true → (ps.take (i + 1)).all okP = true) := Lib.hid fun h => by rw [List.take_succ_eq_append_getElem hip, List.all_append, ALL.out]; simp [h]
      have HFN := Lib.hid (HFL.out (i + 1))
      have HFS := Lib.hid (HMS.out i hip)
      have hip' : (i : Int) < (ps.length : Int) := by omega
      unfold okP at HBi HALN
      unfold NumsOut at HRLi
      clear hpc HCS HRL HBAD HFL HRO HMS HM0 HMD
      generalize hp : ps[i] = p at *
      clear hp
      generalize nums p = NP at *
      obtain ⟨ys, ok⟩ := NP
      dsimp only at *
      cases ok with
      | false =>
        have HF := Lib.hid fun w' hb => HNO.out (HBi.out (by trivial)) w' hb
        go_wp2_with fail
        refine (HRLi.out _).mono ?_
        rintro e w4 ⟨A5, c5, rfl, ho4, hb4⟩
        have B4 := Lib.hid (below_next (below_next B1.out B.out) hb4)
        clear ho4 hb4
        go_wp2_with fail
        exact HF.out _ B4.out
      | true =>
        have HAL := Lib.hid (HALN.out (by trivial))
        go_wp2_with fail
        refine (HRLi.out _).mono ?_
        rintro e w4 ⟨A5, c5, rfl, ho4, hb4⟩
        have B4 := Lib.hid (below_next B.out hb4)
        have T4 := Lib.hid (T.out.keep hb4)
        have O4 := Lib.hid ho4
        have hz4 := hb4.size
        have hzb := B.out.size
        have HUV : Hid (∀ j, (Value.slice A5 ys.length c5).ownBlock = some j → (Value.slice A' rs.length c').ownBlock ≠ some j) := Lib.hid fun j hj e => by
          have := (ho4.lt j hj).1
          have := (T.out.m.lt j e).2
          omega
        have hcsn : csO (rs ++ [(ys, Value.slice A5 ys.length c5)]) = cyL (ps.take (i + 1)) := by rw [csO_snoc, CS.out, HCSi.out]
        have CSN := Lib.hid hcsn
        have hsum : cm i + ys.length ≤ 67108928 := by rw [← HFS.out]; exact HFN.out
        have hw1 : IntKind.i64.wrap ((cm i : Nat) + (ys.length : Nat) : Int) = ((cm i + ys.length : Nat) : Int) := by rw [show ((cm i : Nat) + (ys.length : Nat) : Int) = ((cm i + ys.length : Nat) : Int) by push_cast; rfl]; exact IntWalk.i64_in _ (by omega)
        clear ho4 hb4 hcsn T B HALN HBi HRLi HNO
        generalize hci : cm i = M at *
        go_wp2_with (refine wpList_append_lies _ rfl _ _ _ rfl w1.heap.size 22 l0 _ 1 24 Tryz.underlying28 hl0 hx0 hx1 hx2 rfl (by omega) (.slice A' rs.length c') rs.length (rs.map (·.2)) (by rfl) (T4.out.m.alloc _) ⟨w4.heap.size, 0, none⟩ 1 1 [.slice A5 ys.length c5] (by rfl) (by rfl) (World.news_of_block (cs := #[.slice A5 ys.length c5]) (t := 22) (fr := (0, 0)) (heap_alloc_new w4 _)) (by simp [Value.oneCell']) (by omega) (by unfold maxLen; omega) (by omega) (by simp; omega) (w4.heap.size + 1) (by simp) ?_; intro g9 cap9 w9 hown9 hgrow hat hlt9; have T9 := Lib.hid (T4.out.push rfl hzb O4.out HUV.out hgrow hown9 hat); have B9 := Lib.hid (T4.out.push_below B4.out (Nat.le_refl _) hgrow); clear hown9 hgrow hat)
        go_roundw
        case rel => exact ⟨i + 1, some ⟨g9, 0, none⟩, cap9, rs ++ [(ys, Value.slice A5 ys.length c5)], by omega, by go_num, by rw [List.length_append]; rfl, by rw [HFS.out, Int.natCast_add], by rw [List.length_append, RL.out]; rfl, CSN.out, HAL.out, by rw [List.length_append]; exact T9.out, B9.out⟩
        case measure => simp [intOf]; omega
    · obtain rfl : i = ps.length := by omega
      have hall := ALL.out
      have hcs := CS.out
      rw [List.take_length] at hall hcs
      obtain ⟨hro, hrx⟩ := HRO.out hall
      have hfe : (csO rs).flatten.length = cm ps.length := by rw [CS.out]; exact HMD.out _
      have HOC := Lib.hid (specOrderOfCycles_any A' c' rs w1.heap.size wr (by omega) (by omega) T.out.lr)
      have hxl := ocXC_len (csO rs)
      unfold OcOut at HOC
      rw [hfe, ocOk_C, ocX_C, hcs] at HOC
      rw [hcs] at hxl
      have HCT : Hid (∀ A c W, Rd W W.heap.size A (il (ocXC (cyL ps))) → Calls Tryz.prog 17 #[.slice A (ocXC (cyL ps)).length c] W (StrOut (ctT (ocXC (cyL ps))) W)) := Lib.hid fun A c W h => l08Order_gen A _ c W (by omega) h
      have HSE := Lib.hid (str_eq_iff (⟨(ctT (ocXC (cyL ps))).toArray⟩ : ByteArray) s)
      have HRO2 := Lib.hid hro
      have HRX2 := Lib.hid hrx
      unfold StrOut at HCT
      clear hall hcs hro hrx HRO hpc HFL HCS HRL HBAD HPC hfe HMD HMS HM0
      generalize ocXC (cyL ps) = X at *
      generalize ocOkC (cyL ps) = OKC at *
      generalize cm ps.length = M at *
      go_wp2_with fail
      refine HOC.out.mono ?_
      rintro e w5 ⟨A6, c6, rfl, ho5, hb5⟩
      have O5 := Lib.hid ho5
      have B5 := Lib.hid (below_next (below_next B1.out B.out) hb5)
      have hzz : w.heap.size ≤ wr.heap.size := (below_next B1.out B.out).size
      clear ho5 hb5 HOC
      have HRE : Hid (rcOk s = (OKC && decide (ctT X = s.data.toList))) := HRO2
      have hse : ((⟨(ctT X).toArray⟩ : ByteArray).toList == s.toList) = decide (ctT X = s.data.toList) := HSE.out
      have HS1 := Lib.hid hse
      clear hse HSE HRO2 hxl
      generalize ctT X = TX at *
      generalize hTB : (⟨TX.toArray⟩ : ByteArray) = TB at *
      clear hTB
      cases OKC with
      | false =>
        have HF := Lib.hid (HNO.out (by rw [HRE.out]; rfl) _ B5.out)
        go_wp2_with fail
        exact HF.out
      | true =>
        by_cases heq : TX = s.data.toList
        · have hse := HS1.out
          rw [decide_eq_true heq] at hse
          have HOK : Hid (rcOk s = true) := Lib.hid (by rw [HRE.out, decide_eq_true heq]; rfl)
          have HXX : Hid (rcX s = X) := Lib.hid (by rw [HRX2.out, HOK.out]; rfl)
          clear heq HS1
          go_wp2_with (go_at_call 17; refine (HCT.out _ _ _ (Rd.of_own O5.out)).mono ?_; rintro e w6 ⟨rfl, hb6⟩; have O6 := Lib.hid (own_below O5.out hb6); have B6 := Lib.hid (below_next B5.out hb6); clear hb6)
          rw [← HQ.out]
          unfold RcyOut
          rw [HXX.out, HOK.out]
          exact ⟨A6, c6, rfl, own_base O6.out hzz, B6.out⟩
        · have HF := Lib.hid fun w' hb => HNO.out (by rw [HRE.out, decide_eq_false heq]; rfl) w' hb
          have hse := HS1.out
          rw [decide_eq_false heq] at hse
          clear heq HS1
          go_wp2_with (go_at_call 17; refine (HCT.out _ _ _ (Rd.of_own O5.out)).mono ?_; rintro e w6 ⟨rfl, hb6⟩; have B6 := Lib.hid (below_next B5.out hb6); clear hb6)
          exact HF.out _ B6.out
theorem specReadCycles_any (s : ByteArray) (w : World) (hs : s.size ≤ 1048576) : Calls Tryz.prog 4 #[.string s] w (RcyOut s w) := by
  have HL := Lib.hid (l08ReadOrder_any s w hs)
  unfold RcyOut at HL ⊢
  generalize rcX s = X at *
  generalize rcOk s = R at *
  go_enter Tryz.func4, Tryz.ntmps4
  go_wp2_with fail
  refine HL.out.mono ?_
  rintro e w1 ⟨A, c, rfl, ho, hb⟩
  have O := Lib.hid ho
  have B := Lib.hid hb
  clear ho hb
  go_wp2_with fail
  go_ret2
  exact ⟨A, c, rfl, O.out, B.out⟩
end Go.Proofs.YtadkpmmbnenemaaGreatDoor
