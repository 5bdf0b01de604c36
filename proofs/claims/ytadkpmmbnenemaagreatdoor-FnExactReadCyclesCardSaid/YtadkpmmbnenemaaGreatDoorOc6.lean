/-
  impl.ReadCycles.
-/
import Derived.Test.YtadkpmmbnenemaaGreatDoorOc5
namespace Go.Proofs.YtadkpmmbnenemaaGreatDoor
open Go Go.RowKit

theorem info_i64ss : (Tryz.prog.info? 22).map (fun i => (i.zero, i.size, i.bytes)) = some (some (.slice none 0 0), 1, 24) := by kernel_rfl
theorem own_not {g n c p z : Nat} {v : Value} (hne : ∀ j, v.ownBlock = some j → j ≠ p) (hat : v.ownBlock = some g ∨ g = z + 1) (hp : p < z) : ∀ j, (Value.slice (some ⟨g, 0, none⟩) n c).ownBlock = some j → j ≠ p := fun j hj e => by
  have hj : g = j := Option.some.inj hj
  subst hj
  rcases hat with hat | hat
  · exact hne _ hat e
  · omega
set_option maxRecDepth 100000 in
set_option maxHeartbeats 6400000 in
theorem ReadCycles_any (s : ByteArray) (w : World) (hs : s.size ≤ 1048576) (he : Env w) : Calls Tryz.prog 5 #[.string s] w (RcyOut s w) := by
  obtain ⟨_, ⟨mx, hmx⟩, _, _⟩ := id he
  obtain ⟨l0, hl0, hx0, hx1, hx2⟩ := info_parts info_i64ss
  have HSP : Hid (∀ W, W.cell? ⟨0, 0, none⟩ = some (.int .i64 mx) → Calls Tryz.prog 10 #[.string s, .string ⟨#[47]⟩] W (fun e w' => e = .returned (.slice (some ⟨W.heap.size, 0, none⟩) (piecesOf s).length (piecesOf s).length) ∧ w' = W.alloc (.cells ((piecesOf s).map Value.string).toArray 9))) := Lib.hid fun W h => by
    have h1 := Tryz.strings_Split s strokeS mx W (by omega) h (by decide)
    rw [← pieces_len s] at h1
    exact h1
  have HRL : Hid (∀ i (h : i < (piecesOf s).length) W, Env W → Calls Tryz.prog 11 #[.string (piecesOf s)[i]] W (NumsOut (piecesOf s)[i] W)) := Lib.hid fun i h W he => ReadList_any _ W (Nat.le_trans (piece_size (List.getElem_mem h)) hs) he
  have HWC : Hid (∀ (W : World) k (h : k < (piecesOf s).length), (W.alloc (.cells ((piecesOf s).map Value.string).toArray 9)).cell? ⟨W.heap.size, k, none⟩ = some (.string (piecesOf s)[k])) := Lib.hid fun W k h => word_cell h
  have hpl : (piecesOf s).length ≤ 1048577 := by
    have := pieces_len s
    have := Lib.countB_le strokeS (by decide) _ s (Nat.le_refl _)
    omega
  have HCS : Hid (∀ i (h : i < (piecesOf s).length), cyL ((piecesOf s).take (i + 1)) = cyL ((piecesOf s).take i) ++ [(nums (piecesOf s)[i]).1]) := Lib.hid fun i h => cyL_snoc h
  have HFL : Hid (∀ i, cyM (piecesOf s) i ≤ 67108928) := Lib.hid fun i => cyM_few hpl
  have HMS : Hid (∀ i (h : i < (piecesOf s).length), cyM (piecesOf s) (i + 1) = cyM (piecesOf s) i + (nums (piecesOf s)[i]).1.length) := Lib.hid fun i h => cyM_succ h
  have HM0 : Hid (cyM (piecesOf s) 0 = 0) := Lib.hid rfl
  have HMD : Hid (∀ i, (cyL ((piecesOf s).take i)).flatten.length = cyM (piecesOf s) i) := Lib.hid fun i => rfl
  have HBAD := Lib.hid fun i (h : i < (piecesOf s).length) => rc_piece (s := s) h
  have HNO := Lib.hid fun (h : rcOk s = false) w' (hb : Below w.heap.size w w') => RcyOut.no (s := s) h hb
  have HEN := Lib.hid he
  have HT := Lib.hid (rc_text (s := s))
  have HRO : Hid ((piecesOf s).all okP = true → rcOk s = (ocOkC (cyL (piecesOf s)) && decide (ctT (ocXC (cyL (piecesOf s))) = s.data.toList)) ∧ rcX s = if rcOk s = true then ocXC (cyL (piecesOf s)) else []) := Lib.hid fun h => by
    refine ⟨?_, rfl⟩
    unfold rcOk
    rw [h, Bool.true_and]
  clear he
  generalize hQ : RcyOut s w = Q at *
  have HQ := Lib.hid hQ
  clear hQ
  generalize cyM (piecesOf s) = cm at *
  generalize piecesOf s = ps at *
  go_enter Tryz.func5, Tryz.ntmps5
  go_wp2_with fail
  generalize hW1 : World.alloc w _ = w1
  have hb1 : Below w.heap.size w w1 := by rw [← hW1]; exact below_al (Below.refl _ _) _
  have T1 : LT w1 w.heap.size (.slice (some ⟨w.heap.size, 0, none⟩) 0 0) [] := by rw [← hW1]; exact LT.start w
  clear hW1
  refine (HSP.out _ (keepC hb1 hmx)).mono ?_
  rintro e w2 ⟨rfl, hw2⟩
  have hb2 : Below w1.heap.size w1 w2 := by rw [hw2]; exact below_al (Below.refl _ _) _
  have HPC : Hid (∀ k (h : k < ps.length), w2.cell? ⟨w1.heap.size, k, none⟩ = some (.string ps[k])) := Lib.hid fun k h => by rw [hw2]; exact HWC.out w1 k h
  have T2 := Lib.hid (T1.keep hb2)
  have B2 := Lib.hid (below_next hb1 hb2)
  have hz01 : w.heap.size < w1.heap.size := ((T1.m.lt w.heap.size rfl).2)
  have hz12 : w1.heap.size < w2.heap.size := by rw [hw2]; simp
  clear hb1 T1 hb2 hw2 HSP HWC hmx
  go_wp2_with fail
  go_loopw [4, 5, 18] (fun cv mv iv wr => ∃ (i : Nat) (A' : Option Addr) (c' : Nat) (rs : List (List Int × Value)), i ≤ ps.length ∧ iv = .int .i64 i ∧ cv = .slice A' rs.length c' ∧ mv = .int .i64 (cm i : Nat) ∧ rs.length = i ∧ csO rs = cyL (ps.take i) ∧ (ps.take i).all okP = true ∧ LT wr w.heap.size (.slice A' rs.length c') rs ∧ Below w.heap.size w wr ∧ (∀ k (h : k < ps.length), wr.cell? ⟨w1.heap.size, k, none⟩ = some (.string ps[k])) ∧ w1.heap.size < wr.heap.size ∧ (∀ j, (Value.slice A' rs.length c').ownBlock = some j → j ≠ w1.heap.size)) (fun _ _ iv _ => ps.length - (intOf iv).toNat)
  case atStart => exact ⟨0, _, 0, [], Nat.zero_le _, rfl, rfl, by rw [HM0.out]; rfl, rfl, rfl, rfl, T2.out, B2.out, HPC.out, hz12, fun j hj e => by
    have hj : w.heap.size = j := Option.some.inj hj
    omega⟩
  case round =>
    obtain ⟨i, A', c', rs, hi, rfl, rfl, rfl, hrl, hcs, hall, hlt, hbw, hpc, hzr, hne⟩ := hrel
    rename World => wr
    have T := Lib.hid hlt
    have B := Lib.hid hbw
    have CS := Lib.hid hcs
    have ALL := Lib.hid hall
    have PC := Lib.hid hpc
    have NE := Lib.hid hne
    have RL := Lib.hid hrl
    have hfl := HFL.out i
    have hrs : rs.length ≤ 1048577 := by omega
    clear hlt hbw hcs hall hne T2 B2 HPC hrl
    by_cases hip : i < ps.length
    · have hcp := hpc i hip
      have HCSi := Lib.hid (HCS.out i hip)
      have HRLi := Lib.hid (HRL.out i hip)
      have HBi := Lib.hid (HBAD.out i hip)
      have HALN : Hid (okP ps[i] = true → (ps.take (i + 1)).all okP = true) := Lib.hid fun h => by rw [List.take_succ_eq_append_getElem hip, List.all_append, ALL.out]; simp [h]
      have HFN := Lib.hid (HFL.out (i + 1))
      have HFS := Lib.hid (HMS.out i hip)
      have hip' : (i : Int) < (ps.length : Int) := by omega
      unfold okP at HBi HALN
      unfold NumsOut at HRLi
      clear hpc HCS HRL HBAD HFL HRO HT HMS HM0 HMD
      generalize hp : ps[i] = p at *
      clear hp
      generalize nums p = NP at *
      obtain ⟨ys, ok⟩ := NP
      dsimp only at *
      cases ok with
      | false =>
        have HF := Lib.hid fun w' hb => HNO.out (HBi.out (by trivial)) w' hb
        go_wp2_with fail
        refine (HRLi.out _ (HEN.out.keep B.out)).mono ?_
        rintro e w4 ⟨A5, c5, rfl, ho4, hb4⟩
        have B4 := Lib.hid (below_next B.out hb4)
        clear ho4 hb4
        go_wp2_with fail
        exact HF.out _ B4.out
      | true =>
        have HAL := Lib.hid (HALN.out (by trivial))
        go_wp2_with fail
        refine (HRLi.out _ (HEN.out.keep B.out)).mono ?_
        rintro e w4 ⟨A5, c5, rfl, ho4, hb4⟩
        have B4 := Lib.hid (below_next B.out hb4)
        have T4 := Lib.hid (T.out.keep hb4)
        have O4 := Lib.hid ho4
        have PC4 : Hid (∀ k (h : k < ps.length), w4.cell? ⟨w1.heap.size, k, none⟩ = some (.string ps[k])) := Lib.hid fun k h => keepC hb4 (PC.out k h)
        have hz4 := hb4.size
        have hzb := B.out.size
        have HUV : Hid (∀ j, (Value.slice A5 ys.length c5).ownBlock = some j → (Value.slice A' rs.length c').ownBlock ≠ some j) := Lib.hid fun j hj e => by
          have := (ho4.lt j hj).1
          have := (T.out.m.lt j e).2
          omega
        have hcsn : csO (rs ++ [(ys, Value.slice A5 ys.length c5)]) = cyL (ps.take (i + 1)) := by rw [csO_snoc, CS.out, HCSi.out]
        have CSN := Lib.hid hcsn
        have hsum : cm i + ys.length ≤ 67108928 := by rw [← HFS.out]; exact HFN.out
        have hw1 : IntKind.i64.wrap ((cm i : Nat) + (ys.length : Nat) : Int) = ((cm i + ys.length : Nat) : Int) := by rw [show ((cm i : Nat) + (ys.length : Nat) : Int) = ((cm i + ys.length : Nat) : Int) by push_cast; rfl]; exact IntWalk.i64_in _ (by omega)
        clear ho4 hb4 hcsn T B PC HALN HBi HRLi HNO
        generalize hci : cm i = M at *
        go_wp2_with (refine wpList_append_lies _ rfl _ _ _ rfl w.heap.size 22 l0 _ 1 24 Tryz.underlying28 hl0 hx0 hx1 hx2 rfl (by omega) (.slice A' rs.length c') rs.length (rs.map (·.2)) (by rfl) (T4.out.m.alloc _) ⟨w4.heap.size, 0, none⟩ 1 1 [.slice A5 ys.length c5] (by rfl) (by rfl) (World.news_of_block (cs := #[.slice A5 ys.length c5]) (t := 22) (fr := (0, 0)) (heap_alloc_new w4 _)) (by simp [Value.oneCell']) (by omega) (by unfold maxLen; omega) (by omega) (by simp; omega) (w4.heap.size + 1) (by simp) ?_; intro g9 cap9 w9 hown9 hgrow hat hlt9; have T9 := Lib.hid (T4.out.push rfl hzb O4.out HUV.out hgrow hown9 hat); have B9 := Lib.hid (T4.out.push_below B4.out (Nat.le_refl _) hgrow); have P9 : Hid (∀ k (h : k < ps.length), w9.cell? ⟨w1.heap.size, k, none⟩ = some (.string ps[k])) := Lib.hid fun k h => (grown_cell hgrow (by simp; omega) (fun e => NE.out _ e.symm rfl)).trans (keepC (below_al (Below.refl _ _) _) (PC4.out k h)); have N9 : Hid (∀ j, (Value.slice (some ⟨g9, 0, none⟩) (rs.length + 1) cap9).ownBlock = some j → j ≠ w1.heap.size) := Lib.hid (own_not NE.out hat (by omega)); have Z9 := Lib.hid (hgrow.size); clear hown9 hgrow hat)
        go_roundw
        case rel => exact ⟨i + 1, some ⟨g9, 0, none⟩, cap9, rs ++ [(ys, Value.slice A5 ys.length c5)], by omega, by go_num, by rw [List.length_append]; rfl, by rw [HFS.out, Int.natCast_add], by rw [List.length_append, RL.out]; rfl, CSN.out, HAL.out, by rw [List.length_append]; exact T9.out, B9.out, P9.out, by have := Z9.out; simp at this; omega, by rw [List.length_append]; exact N9.out⟩
        case measure => simp [intOf]; omega
    · obtain rfl : i = ps.length := by omega
      have hall := ALL.out
      have hcs := CS.out
      rw [List.take_length] at hall hcs
      obtain ⟨hro, hrx⟩ := HRO.out hall
      have HT2 := Lib.hid (HT.out hall)
      have hfe : (csO rs).flatten.length = cm ps.length := by rw [CS.out]; exact HMD.out _
      have HOC := Lib.hid (OrderOfCycles_any A' c' rs w.heap.size wr (by omega) (by omega) T.out.lr)
      have hxl := ocXC_len (csO rs)
      unfold OcOut at HOC
      rw [hfe, ocOk_C, ocX_C, hcs] at HOC
      rw [hcs] at hxl
      have HCT : Hid (∀ A c W, Tab W → Rd W W.heap.size A (il (ocXC (cyL ps))) → Calls Tryz.prog 13 #[.slice A (ocXC (cyL ps)).length c] W (CtOut (ocXC (cyL ps)) W)) := Lib.hid fun A c W ht h => CyclesText_any A _ c W (by omega) ht h
      have HCO : Hid (ctT (ocXC (cyL ps)) = s.data.toList → ordB (ocXC (cyL ps)) = true) := Lib.hid fun h => ct_ord h HT2.out
      have HSE := Lib.hid (str_eq_iff (⟨(ctT (ocXC (cyL ps))).toArray⟩ : ByteArray) s)
      have HRO2 := Lib.hid hro
      have HRX2 := Lib.hid hrx
      have hqq := HQ.out
      unfold CtOut at HCT
      clear hall hcs hro hrx HRO HT hpc HFL HCS HRL HBAD PC
      generalize ocXC (cyL ps) = X at *
      generalize ocOkC (cyL ps) = OKC at *
      clear hfe HMD HMS HM0
      generalize cm ps.length = M at *
      go_wp2_with fail
      refine HOC.out.mono ?_
      rintro e w5 ⟨A6, c6, rfl, ho5, hb5⟩
      have O5 := Lib.hid ho5
      have B5 := Lib.hid (below_next B.out hb5)
      clear ho5 hb5 HOC
      go_wp2_with fail
      refine (HCT.out _ _ _ (HEN.out.1.keep B5.out) (Rd.of_own O5.out)).mono ?_
      rintro e w6 ⟨rfl, hb6⟩
      have O6 := Lib.hid (own_below O5.out hb6)
      have B6 := Lib.hid (below_next B5.out hb6)
      clear hb6 HCT O5
      have HRE : Hid (rcOk s = (OKC && decide (ctT X = s.data.toList))) := HRO2
      have hse : ((⟨(ctT X).toArray⟩ : ByteArray).toList == s.toList) = decide (ctT X = s.data.toList) := HSE.out
      have HS1 := Lib.hid hse
      clear hse HSE HRO2 hxl
      generalize ctT X = TX at *
      generalize hRX : ordB X = RX at *
      clear hRX
      generalize hTB : (⟨TX.toArray⟩ : ByteArray) = TB at *
      clear hTB
      cases OKC with
      | false =>
        have HF := Lib.hid (HNO.out (by rw [HRE.out]; rfl) _ B6.out)
        go_wp2_with fail
        exact HF.out
      | true =>
        by_cases heq : TX = s.data.toList
        · obtain rfl : RX = true := HCO.out heq
          have hse := HS1.out
          rw [decide_eq_true heq] at hse
          have HOK : Hid (rcOk s = true) := Lib.hid (by rw [HRE.out, decide_eq_true heq]; rfl)
          have HXX : Hid (rcX s = X) := Lib.hid (by rw [HRX2.out, HOK.out]; rfl)
          clear heq HCO HS1
          go_wp2_with fail
          rw [← HQ.out]
          unfold RcyOut
          rw [HXX.out, HOK.out]
          exact ⟨A6, c6, rfl, own_base O6.out B.out.size, B6.out⟩
        · have HF := Lib.hid (HNO.out (by rw [HRE.out, decide_eq_false heq]; rfl) _ B6.out)
          have hse := HS1.out
          rw [decide_eq_false heq] at hse
          clear heq HCO HS1
          cases RX with
          | false =>
            go_wp2_with fail
            exact HF.out
          | true =>
            go_wp2_with fail
            exact HF.out
end Go.Proofs.YtadkpmmbnenemaaGreatDoor
