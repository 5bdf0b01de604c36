/-
  impl.OrderOfCycles and spec.OrderOfCycles.
-/
import Derived.Test.YtadkpmmbnenemaaGreatDoorOc3
import Derived.RegionTactic
namespace Go.Proofs.YtadkpmmbnenemaaGreatDoor
open Go Go.RowKit

theorem ocOk_iff (rs : List (List Int × Value)) : ocOk rs = (ordB (csO rs).flatten && !rs.any emptyB) := rfl
theorem ordN_row {w : World} {p base n : Nat} {f : Nat → Int} (h : w.rowIs p 2 n (fun q => .int .i64 (f q))) (hb : base ≤ p) (hm : n ≤ maxLen) : w.ownsRow base 2 1 (.slice (some ⟨p, 0, none⟩) n n) n (il ((List.range n).map f)) := by
  have := own_rowIs h hb hm
  unfold il
  rw [List.map_map]
  exact this
set_option maxRecDepth 100000 in
set_option maxHeartbeats 6400000 in
theorem OrderOfCycles_any (A : Option Addr) (c : Nat) (rs : List (List Int × Value)) (base : Nat) (w : World) (hl : (csO rs).flatten.length ≤ 134217728) (hn : rs.length ≤ 134217728) (h : LR w base (.slice A rs.length c) rs) :
    Calls Tryz.prog 12 #[.slice A rs.length c, .int .i64 ((csO rs).flatten.length : Nat)] w (OcOut rs w) := by
  have HCC := Lib.hid (Concat_any A c rs base w h hl hn)
  have HIO := Lib.hid fun A c w h => IsOrder_any A (csO rs).flatten c w hl h
  have HCF := Lib.hid fun w h => ContainsFunc_cyc A c rs base w hn h
  have L0 := Lib.hid h
  unfold BoolOut at HIO
  unfold SameOut at HCF
  clear h
  cases ho : ordB (csO rs).flatten with
  | false =>
    have HNO := Lib.hid fun w' (hb : Below w.heap.size w w') => OcOut.no (rs := rs) (by rw [ocOk_iff, ho]; rfl) hb
    rw [ho] at HIO
    clear ho
    generalize (csO rs).flatten = FL at *
    go_enter Tryz.func12, Tryz.ntmps12
    go_wp2_with fail
    refine HCC.out.mono ?_
    rintro e w1 ⟨A1, c1, rfl, ho1, hb1⟩
    have O1 := Lib.hid (Rd.of_own ho1)
    have B1 := Lib.hid hb1
    clear ho1 hb1
    go_wp2_with (go_at_call 22; refine (HIO.out _ _ _ O1.out).mono ?_; rintro e w2 ⟨rfl, hb2⟩; have B2 := Lib.hid (below_next B1.out hb2); clear hb2)
    refine bodyPost_ret (v := .tuple #[.slice none 0 0, .bool false]) (by simp [results, Tryz.results12, go_sem]) rfl (HNO.out _ B2.out)
  | true =>
    rw [ho] at HIO
    cases he : rs.any emptyB with
    | true =>
      have HNO := Lib.hid fun w' (hb : Below w.heap.size w w') => OcOut.no (rs := rs) (by rw [ocOk_iff, ho, he]; rfl) hb
      rw [he] at HCF
      clear ho he
      generalize (csO rs).flatten = FL at *
      go_enter Tryz.func12, Tryz.ntmps12
      go_wp2_with fail
      refine HCC.out.mono ?_
      rintro e w1 ⟨A1, c1, rfl, ho1, hb1⟩
      have O1 := Lib.hid (Rd.of_own ho1)
      have B1 := Lib.hid hb1
      clear ho1 hb1
      go_wp2_with (first
        | (go_at_call 22; refine (HIO.out _ _ _ O1.out).mono ?_; rintro e w2 ⟨rfl, hb2⟩; have B2 := Lib.hid (below_next B1.out hb2); clear hb2)
        | (go_at_call 23; refine (HCF.out _ (L0.out.keep B2.out)).mono ?_; rintro e w3 ⟨rfl, rfl⟩))
      refine bodyPost_ret (v := .tuple #[.slice none 0 0, .bool false]) (by simp [results, Tryz.results12, go_sem]) rfl (HNO.out _ B2.out)
    | false =>
      rw [he] at HCF
      have HX : Hid (ocX rs = (List.range (csO rs).flatten.length).map (stA (csO rs) rs.length)) := Lib.hid (by
        unfold ocX
        rw [ocOk_iff, ho, he]
        show ordN (csO rs) = _
        unfold ordN
        rw [csO_len])
      have HXL : Hid ((ocX rs).length = (csO rs).flatten.length) := Lib.hid (by rw [HX.out]; simp)
      have HOK : Hid (ocOk rs = true) := Lib.hid (by rw [ocOk_iff, ho, he]; rfl)
      have HCL := Lib.hid fun k i hk hi => cyc_lt (rs := rs) ho (k := k) (i := i) hk hi
      have HSA := Lib.hid fun k hk => stA_succ (rs := rs) (k := k) hk
      have HS0 : Hid (stA (csO rs) 0 = fun _ => 0) := Lib.hid rfl
      obtain ⟨n1, n2, -⟩ := ordB_facts ho
      obtain ⟨i0, hi0, hz0, hz1, hz2⟩ := info_parts info_i64
      have hmk := run_make_row (P := Tryz.prog) 22 2 i0 (.int .i64 0) Tryz.underlying22 hi0 hz0 hz1 rfl .i64 .i64 (csO rs).flatten.length (by rw [hz2]; omega) (by omega)
      unfold OcOut
      rw [HXL.out, HOK.out]
      clear ho he hi0 hz0 hz1 hz2 HXL HOK
      generalize (csO rs).flatten = FL at *
      generalize stA (csO rs) = ST at *
      go_enter Tryz.func12, Tryz.ntmps12
      go_wp2_with fail
      refine HCC.out.mono ?_
      rintro e w1 ⟨A1, c1, rfl, ho1, hb1⟩
      have O1 := Lib.hid (Rd.of_own ho1)
      have B1 := Lib.hid hb1
      clear ho1 hb1
      go_wp2_with (first
        | (go_at_call 22; refine (HIO.out _ _ _ O1.out).mono ?_; rintro e w2 ⟨rfl, hb2⟩; have B2 := Lib.hid (below_next B1.out hb2); clear hb2)
        | (go_at_call 23; refine (HCF.out _ (L0.out.keep B2.out)).mono ?_; rintro e w3 ⟨rfl, rfl⟩))
      have L2 := Lib.hid (L0.out.keep B2.out)
      generalize hW3 : World.alloc w2 _ = w3
      have r3 : w3.rowIs w2.heap.size 2 FL.length (fun _ => .int .i64 0) := by rw [← hW3]; exact World.rowIs_made w2 (.int .i64 0) FL.length _
      have q3 : Below w2.heap.size w2 w3 := by rw [← hW3]; exact below_al (Below.refl _ _) _
      have R3 := Lib.hid r3
      have Q3 := Lib.hid q3
      clear hW3 r3 q3 HIO HCF HCC O1
      go_wp2_with fail
      go_loopw [31] (fun kv wr => ∃ k : Nat, k ≤ rs.length ∧ kv = .int .i64 k ∧ wr.rowIs w2.heap.size 2 FL.length (fun q => .int .i64 (ST k q)) ∧ Below w2.heap.size w2 wr) (fun kv _ => rs.length - (intOf kv).toNat)
      case atStart => exact ⟨0, Nat.zero_le _, rfl, by rw [HS0.out]; exact R3.out, Q3.out⟩
      case round =>
        obtain ⟨k, hk, rfl, hrow, hbw⟩ := hrel
        rename World => wr
        have RW := Lib.hid hrow
        have BW := Lib.hid hbw
        clear hrow hbw R3 Q3
        by_cases hlt : k < rs.length
        · obtain ⟨g, cap, A2, c2, hv, hcl, hcyc⟩ := L2.out.at_ hlt
          injection hv with hA hB hC
          subst hA
          clear hB hC
          have hcl' := keepC BW.out hcl
          have CY := Lib.hid hcyc
          have HSK := Lib.hid (HSA.out k hlt)
          have HCLk := Lib.hid fun i hi => HCL.out k i hlt hi
          have hlt' : (k : Int) < (rs.length : Int) := by omega
          have hln := L2.out.r rs[k] (List.getElem_mem hlt)
          have hlb : rs[k].1.length ≤ 9223372036854775807 := by
            rcases hln.2 with ⟨_, h⟩ | ⟨_, cap, _, _, _, _, h1, h2, _⟩
            · omega
            · unfold maxLen at h2; omega
          clear hcl hcyc HCL HSA hln
          generalize hys : rs[k].1 = ys at *
          clear hys
          go_wp2_with fail
          go_loopw [37] (fun iv wq => ∃ i : Nat, i ≤ ys.length ∧ iv = .int .i64 i ∧ wq.rowIs w2.heap.size 2 FL.length (fun q => .int .i64 (stC ys (ST k) i q)) ∧ Below w2.heap.size w2 wq) (fun iv _ => ys.length - (intOf iv).toNat)
          case atStart => exact ⟨0, Nat.zero_le _, rfl, RW.out, BW.out⟩
          case round =>
            obtain ⟨i, hi, rfl, hrow, hbw⟩ := hrel
            rename World => wq
            have RQ := Lib.hid hrow
            have BQ := Lib.hid hbw
            clear hrow hbw
            by_cases hit : i < ys.length
            · obtain ⟨m, hm, hmn⟩ := HCLk.out i hit
              have hil : (i + 1) % ys.length < ys.length := Nat.mod_lt _ (by omega)
              obtain ⟨g2, cap2, hv2, hg2, hlt2⟩ := CY.out.form (by omega)
              injection hv2 with hA2 hB2 hC2
              subst hA2
              clear hB2 hC2
              have hcq := own_below CY.out BQ.out
              have hadd : ∀ j, (⟨g2, 0, none⟩ : Addr).add j = ⟨g2, j, none⟩ := fun j => by unfold Addr.add; split <;> simp_all
              have x1 : wq.cell? ⟨g2, i, none⟩ = some (.int .i64 (m : Nat)) := by
                have h1 := hcq.cells (g := g2) rfl i (.int .i64 ys[i]) (by unfold il; rw [List.getElem?_map, List.getElem?_eq_getElem hit]; rfl)
                rw [hadd, hm] at h1
                exact h1
              have x2 : wq.cell? ⟨g2, (i + 1) % ys.length, none⟩ = some (.int .i64 (ys.getD ((i + 1) % ys.length) 0)) := by
                have h1 := hcq.cells (g := g2) rfl ((i + 1) % ys.length) (.int .i64 (ys.getD ((i + 1) % ys.length) 0)) (by unfold il; rw [List.getElem?_map, List.getElem?_eq_getElem hil, List.getD_eq_getElem?_getD, List.getElem?_eq_getElem hil]; rfl)
                rw [hadd] at h1
                exact h1
              have t1 : ((i : Int) + 1).tmod (ys.length : Int) = (((i + 1) % ys.length : Nat) : Int) := by
                rw [show (i : Int) + 1 = ((i + 1 : Nat) : Int) by omega, Int.tmod_eq_emod_of_nonneg (by omega)]
                rfl
              have HST := Lib.hid (stC_succ (f := ST k) hit hm)
              have hcm := RQ.out.cell hmn
              have hfm := RQ.out.frozen m
              have hit' : (i : Int) < (ys.length : Int) := by omega
              have hmn' : (m : Int) < (FL.length : Int) := by omega
              have hil' : (((i + 1) % ys.length : Nat) : Int) < (ys.length : Int) := by omega
              have hyp : ¬ (ys.length : Int) = 0 := by omega
              clear hadd hcq hm
              generalize ys.getD ((i + 1) % ys.length) 0 = x at *
              generalize (i + 1) % ys.length = j at *
              go_wp2_with fail
              exact ⟨⟨i + 1, by omega, by go_num, (RQ.out.set m _).congr (fun q _ => by rw [HST.out]; unfold updI; split <;> rfl), below_set BQ.out _ _ (Nat.le_refl _)⟩, by simp [intOf]; omega⟩
            · obtain rfl : i = ys.length := by omega
              go_wp2_with fail
              go_roundw
              case rel => exact ⟨k + 1, by omega, by go_num, by rw [HSK.out]; exact RQ.out, BQ.out⟩
              case measure => simp [intOf]; omega
        · obtain rfl : k = rs.length := by omega
          go_wp2_with fail
          refine bodyPost_ret (v := .tuple #[.slice (some ⟨w2.heap.size, 0, none⟩) FL.length FL.length, .bool true]) (by simp [results, Tryz.results12, go_sem]) rfl ⟨_, _, rfl, ?_, below_next B2.out BW.out⟩
          rw [HX.out]
          exact ordN_row RW.out B2.out.size (by unfold maxLen; omega)
set_option maxRecDepth 100000 in
set_option maxHeartbeats 6400000 in
theorem specOrderOfCycles_any (A : Option Addr) (c : Nat) (rs : List (List Int × Value)) (base : Nat) (w : World) (hl : (csO rs).flatten.length ≤ 134217728) (hn : rs.length ≤ 134217728) (h : LR w base (.slice A rs.length c) rs) :
    Calls Tryz.prog 16 #[.slice A rs.length c, .int .i64 ((csO rs).flatten.length : Nat)] w (OcOut rs w) := by
  have HCT := Lib.hid fun w => l04Count_any ((csO rs).flatten.length : Nat) w
  have HIO := Lib.hid fun A c w h => l04Order_any A (csO rs).flatten c w (by omega) h
  have L0 := Lib.hid h
  unfold BoolOut at HIO
  clear h
  cases hsz : inB ((csO rs).flatten.length : Nat) 1 64 with
  | false =>
    have HNO := Lib.hid fun w' (hb : Below w.heap.size w w') => OcOut.no (rs := rs) (by rw [ocOk_iff]; unfold ordB; rw [hsz]; rfl) hb
    rw [hsz] at HCT
    clear hsz
    generalize (csO rs).flatten = FL at *
    go_enter Tryz.func16, Tryz.ntmps16
    go_wp2_with (go_at_call 29; refine (HCT.out _).mono ?_; rintro e w2 ⟨rfl, rfl⟩)
    refine bodyPost_ret (v := .tuple #[.slice none 0 0, .bool false]) (by simp [results, Tryz.results16, go_sem]) rfl (HNO.out _ (Below.refl _ _))
  | true =>
  rw [hsz] at HCT
  have HEM : Hid (rs.any emptyB = true → ∀ w', Below w.heap.size w w' → OcOut rs w (.returned (.tuple #[.slice none 0 0, .bool false])) w') := Lib.hid fun he w' hb => OcOut.no (rs := rs) (by rw [ocOk_iff, he]; simp) hb
  have HNR : Hid (ordB (csO rs).flatten = false → ∀ w', Below w.heap.size w w' → OcOut rs w (.returned (.tuple #[.slice none 0 0, .bool false])) w') := Lib.hid fun he w' hb => OcOut.no (rs := rs) (by rw [ocOk_iff, he]; rfl) hb
  have HST1 : Hid (∀ k (h : k < rs.length), flatTo (csO rs) (k + 1) = flatTo (csO rs) k ++ rs[k].1) := Lib.hid fun k h => flat_step h
  have HLE : Hid (∀ k, k ≤ rs.length → (flatTo (csO rs) k).length ≤ (csO rs).flatten.length) := Lib.hid fun k h => flatTo_len_le _ (by rw [csO_len]; exact h)
  have HF0 : Hid (flatTo (csO rs) 0 = []) := Lib.hid rfl
  have HEND : Hid (flatTo (csO rs) rs.length = (csO rs).flatten) := Lib.hid (by rw [← csO_len rs]; exact flatTo_end _)
  have HX : Hid (ordB (csO rs).flatten = true → rs.any emptyB = false → ocX rs = (List.range (csO rs).flatten.length).map (stA (csO rs) rs.length) ∧ (ocX rs).length = (csO rs).flatten.length ∧ ocOk rs = true) := Lib.hid fun ho he => by
    have h1 : ocOk rs = true := by rw [ocOk_iff, ho, he]; rfl
    have h2 : ocX rs = (List.range (csO rs).flatten.length).map (stA (csO rs) rs.length) := by
      unfold ocX
      rw [h1]
      show ordN (csO rs) = _
      unfold ordN
      rw [csO_len]
    exact ⟨h2, by rw [h2]; simp, h1⟩
  have HCL := Lib.hid fun (ho : ordB (csO rs).flatten = true) k i hk hi => cyc_lt (rs := rs) ho (k := k) (i := i) hk hi
  have HSA := Lib.hid fun k hk => stA_succ (rs := rs) (k := k) hk
  have HS0 : Hid (stA (csO rs) 0 = fun _ => 0) := Lib.hid rfl
  obtain ⟨n1, n2⟩ := inB_of hsz
  obtain ⟨i0, hi0, hz0, hz1, hz2⟩ := info_parts info_i64
  have hmk := run_make_row (P := Tryz.prog) 22 2 i0 (.int .i64 0) Tryz.underlying22 hi0 hz0 hz1 rfl .i64 .i64 (csO rs).flatten.length (by rw [hz2]; omega) (by omega)
  clear hsz
  generalize hORD : ordB (csO rs).flatten = ORD at *
  clear hORD
  generalize (csO rs).flatten = FL at *
  generalize flatTo (csO rs) = FT at *
  generalize stA (csO rs) = ST at *
  go_enter Tryz.func16, Tryz.ntmps16
  go_wp2_with (go_at_call 29; refine (HCT.out _).mono ?_; rintro e w2 ⟨rfl, rfl⟩)
  have START : Hid (Below w.heap.size w (w.alloc (.cells #[] 2)) ∧ (w.alloc (.cells #[] 2)).ownsRow w.heap.size 2 1 (.slice (some ⟨w.heap.size, 0, none⟩) 0 0) 0 []) := Lib.hid ⟨below_al (Below.refl _ _) _, World.ownsRow_made w #[] 0 (Nat.le_refl _) (by unfold maxLen; omega) rfl⟩
  go_loopw [6, 7] (fun av kv wr => ∃ (k : Nat) (A3 : Option Addr) (c3 : Nat), k ≤ rs.length ∧ kv = .int .i64 k ∧ av = .slice A3 (FT k).length c3 ∧ (rs.take k).any emptyB = false ∧ wr.ownsRow w.heap.size 2 1 (.slice A3 (FT k).length c3) (FT k).length (il (FT k)) ∧ Below w.heap.size w wr) (fun _ kv _ => rs.length - (intOf kv).toNat)
  case atStart => exact ⟨0, _, 0, Nat.zero_le _, rfl, by rw [HF0.out]; rfl, by simp, by rw [HF0.out]; exact START.out.2, START.out.1⟩
  case round =>
    obtain ⟨k, A3, c3, hk, rfl, rfl, hemp, hown, hbw⟩ := hrel
    rename World => wr
    have O := Lib.hid hown
    have B := Lib.hid hbw
    have EMP := Lib.hid hemp
    have h1 := HLE.out k hk
    have h1' : (((FT k).length : Nat) : Int) ≤ ((FL.length : Nat) : Int) := by omega
    clear hown hbw hemp START
    by_cases hlt : k < rs.length
    · obtain ⟨g, cap, A2, c2, hv, hcl, hrow⟩ := (L0.out.keep B.out).at_ hlt
      injection hv with hA hB hC
      subst hA
      clear hB hC
      have h2 := HLE.out (k + 1) hlt
      have HS := Lib.hid (HST1.out k hlt)
      have hsl : (FT (k + 1)).length = (FT k).length + rs[k].1.length := by rw [HS.out, List.length_append]
      have HSL := Lib.hid hsl
      have RW := Lib.hid hrow
      have hlt' : (k : Int) < (rs.length : Int) := by omega
      have hz := B.out.size
      have hsum : (FT k).length + rs[k].1.length ≤ 134217728 := by omega
      have HE : Hid (emptyB rs[k] = decide (rs[k].1.length = 0)) := Lib.hid rfl
      have HNX : Hid (emptyB rs[k] = false → (rs.take (k + 1)).any emptyB = false) := Lib.hid fun hf => by rw [List.take_succ_eq_append_getElem hlt, List.any_append, EMP.out]; simp [hf]
      have HHIT : Hid (emptyB rs[k] = true → rs.any emptyB = true) := Lib.hid fun ht => List.any_eq_true.2 ⟨rs[k], List.getElem_mem hlt, ht⟩
      rw [HE.out] at HNX HHIT
      clear hrow hsl HE
      generalize hrk : rs[k].1 = ys at *
      clear hrk
      by_cases hm : ys.length = 0
      · have hm' : ((ys.length : Int) == 0) = true := by simpa using hm
        have HNO := Lib.hid fun w' hb => HEM.out (HHIT.out (decide_eq_true hm)) w' hb
        clear hm
        go_wp2_with fail
        refine bodyPost_ret (v := .tuple #[.slice none 0 0, .bool false]) (by simp [results, Tryz.results16, go_sem]) rfl (HNO.out _ B.out)
      · have hm' : ((ys.length : Int) == 0) = false := by simpa using hm
        have HN1 := Lib.hid (HNX.out (decide_eq_false hm))
        obtain ⟨g2, cap2, hv2, hg2, hlt2⟩ := RW.out.form (by omega)
        injection hv2 with hA2 hB2 hC2
        subst hA2
        clear hB2 hC2
        have HNEWS : Hid (∀ j u, (il ys)[j]? = some u → wr.cell? ((⟨g2, 0, none⟩ : Addr).add j) = some u) := Lib.hid fun j u hj => RW.out.cells (g := g2) rfl j u hj
        have HONE : Hid (∀ u ∈ il ys, u.oneCell' = true) := Lib.hid fun u hu => by
          unfold il at hu
          rw [List.mem_map] at hu
          obtain ⟨x, -, rfl⟩ := hu
          rfl
        go_wp2_with (refine wpList_append_lies _ rfl _ _ _ rfl w.heap.size 2 i0 _ 1 8 Tryz.underlying22 hi0 hz0 hz1 hz2 rfl (by omega) (.slice A3 (FT k).length c3) (FT k).length (il (FT k)) (by rfl) O.out ⟨g2, 0, none⟩ ys.length c2 (il ys) (by rfl) (by rw [il_len, Nat.mul_one]) HNEWS.out HONE.out (by omega) (by unfold maxLen; omega) (by omega) (by omega) wr.heap.size rfl ?_; intro g9 cap9 w9 hown9 hgrow hat hlt9; have O9 := Lib.hid hown9; have B9 := Lib.hid (B.out.grown hgrow hz (fun j hj => (O.out.lt j hj).1)); clear hown9 hgrow hat hlt9)
        go_roundw
        case rel => exact ⟨k + 1, some ⟨g9, 0, none⟩, cap9, by omega, by go_num, by rw [HSL.out], HN1.out, by rw [HSL.out, HS.out]; simpa [il] using O9.out, B9.out⟩
        case measure => simp [intOf]; omega
    · obtain rfl : k = rs.length := by omega
      have hE := HEND.out
      rw [hE] at h1 h1' ⊢
      have OE : Hid (Rd wr wr.heap.size A3 (il FL)) := Lib.hid (by have := Rd.of_own O.out; rw [hE] at this; exact this)
      have HEN : Hid (rs.any emptyB = false) := Lib.hid (by have := EMP.out; rw [List.take_length] at this; exact this)
      clear hE O HEND HF0 HLE HST1 EMP HCT HEM h1
      cases ORD with
      | false =>
        have HNO := Lib.hid fun w' hb => HNR.out rfl w' hb
        go_wp2_with (go_at_call 30; refine (HIO.out _ _ _ OE.out).mono ?_; rintro e w2 ⟨rfl, hb2⟩; have B2 := Lib.hid (below_next B.out hb2); clear hb2)
        refine bodyPost_ret (v := .tuple #[.slice none 0 0, .bool false]) (by simp [results, Tryz.results16, go_sem]) rfl (HNO.out _ B2.out)
      | true =>
      obtain ⟨hx1, hx2, hx3⟩ := HX.out rfl HEN.out
      have HX1 := Lib.hid hx1
      have HX2 := Lib.hid hx2
      have HX3 := Lib.hid hx3
      have HCL2 := Lib.hid fun k i hk hi => HCL.out rfl k i hk hi
      clear hx1 hx2 hx3 HX HNR HCL
      go_wp2_with (go_at_call 30; refine (HIO.out _ _ _ OE.out).mono ?_; rintro e w2 ⟨rfl, hb2⟩; have B2 := Lib.hid (below_next B.out hb2); clear hb2)
      have L2 := Lib.hid (L0.out.keep B2.out)
      generalize hW3 : World.alloc w2 _ = w3
      have r3 : w3.rowIs w2.heap.size 2 FL.length (fun _ => .int .i64 0) := by rw [← hW3]; exact World.rowIs_made w2 (.int .i64 0) FL.length _
      have q3 : Below w2.heap.size w2 w3 := by rw [← hW3]; exact below_al (Below.refl _ _) _
      have R3 := Lib.hid r3
      have Q3 := Lib.hid q3
      clear hW3 r3 q3 HIO OE
      go_wp2_with fail
      go_loopw [9] (fun kv wr => ∃ k : Nat, k ≤ rs.length ∧ kv = .int .i64 k ∧ wr.rowIs w2.heap.size 2 FL.length (fun q => .int .i64 (ST k q)) ∧ Below w2.heap.size w2 wr) (fun kv _ => rs.length - (intOf kv).toNat)
      case atStart => exact ⟨0, Nat.zero_le _, rfl, by rw [HS0.out]; exact R3.out, Q3.out⟩
      case round =>
        obtain ⟨k, hk, rfl, hrow, hbw⟩ := hrel
        rename World => wr
        have RW := Lib.hid hrow
        have BW := Lib.hid hbw
        clear hrow hbw R3 Q3
        by_cases hlt : k < rs.length
        · obtain ⟨g, cap, A2, c2, hv, hcl, hcyc⟩ := L2.out.at_ hlt
          injection hv with hA hB hC
          subst hA
          clear hB hC
          have hcl' := keepC BW.out hcl
          have CY := Lib.hid hcyc
          have HSK := Lib.hid (HSA.out k hlt)
          have HCLk := Lib.hid fun i hi => HCL2.out k i hlt hi
          have hlt' : (k : Int) < (rs.length : Int) := by omega
          have hln := L2.out.r rs[k] (List.getElem_mem hlt)
          have hlb : rs[k].1.length ≤ 9223372036854775807 := by
            rcases hln.2 with ⟨_, h⟩ | ⟨_, cap, _, _, _, _, h1, h2, _⟩
            · omega
            · unfold maxLen at h2; omega
          clear hcl hcyc HCL2 HSA hln
          generalize hys : rs[k].1 = ys at *
          clear hys
          go_wp2_with fail
          go_loopw [11] (fun iv wq => ∃ i : Nat, i ≤ ys.length ∧ iv = .int .i64 i ∧ wq.rowIs w2.heap.size 2 FL.length (fun q => .int .i64 (stC ys (ST k) i q)) ∧ Below w2.heap.size w2 wq) (fun iv _ => ys.length - (intOf iv).toNat)
          case atStart => exact ⟨0, Nat.zero_le _, rfl, RW.out, BW.out⟩
          case round =>
            obtain ⟨i, hi, rfl, hrow, hbw⟩ := hrel
            rename World => wq
            have RQ := Lib.hid hrow
            have BQ := Lib.hid hbw
            clear hrow hbw
            by_cases hit : i < ys.length
            · obtain ⟨m, hm, hmn⟩ := HCLk.out i hit
              have hil : (i + 1) % ys.length < ys.length := Nat.mod_lt _ (by omega)
              obtain ⟨g2, cap2, hv2, hg2, hlt2⟩ := CY.out.form (by omega)
              injection hv2 with hA2 hB2 hC2
              subst hA2
              clear hB2 hC2
              have hcq := own_below CY.out BQ.out
              have hadd : ∀ j, (⟨g2, 0, none⟩ : Addr).add j = ⟨g2, j, none⟩ := fun j => by unfold Addr.add; split <;> simp_all
              have x1 : wq.cell? ⟨g2, i, none⟩ = some (.int .i64 (m : Nat)) := by
                have h1 := hcq.cells (g := g2) rfl i (.int .i64 ys[i]) (by unfold il; rw [List.getElem?_map, List.getElem?_eq_getElem hit]; rfl)
                rw [hadd, hm] at h1
                exact h1
              have x2 : wq.cell? ⟨g2, (i + 1) % ys.length, none⟩ = some (.int .i64 (ys.getD ((i + 1) % ys.length) 0)) := by
                have h1 := hcq.cells (g := g2) rfl ((i + 1) % ys.length) (.int .i64 (ys.getD ((i + 1) % ys.length) 0)) (by unfold il; rw [List.getElem?_map, List.getElem?_eq_getElem hil, List.getD_eq_getElem?_getD, List.getElem?_eq_getElem hil]; rfl)
                rw [hadd] at h1
                exact h1
              have t1 : ((i : Int) + 1).tmod (ys.length : Int) = (((i + 1) % ys.length : Nat) : Int) := by
                rw [show (i : Int) + 1 = ((i + 1 : Nat) : Int) by omega, Int.tmod_eq_emod_of_nonneg (by omega)]
                rfl
              have HST := Lib.hid (stC_succ (f := ST k) hit hm)
              have hcm := RQ.out.cell hmn
              have hfm := RQ.out.frozen m
              have hit' : (i : Int) < (ys.length : Int) := by omega
              have hmn' : (m : Int) < (FL.length : Int) := by omega
              have hil' : (((i + 1) % ys.length : Nat) : Int) < (ys.length : Int) := by omega
              have hyp : ¬ (ys.length : Int) = 0 := by omega
              clear hadd hcq hm
              generalize ys.getD ((i + 1) % ys.length) 0 = x at *
              generalize (i + 1) % ys.length = j at *
              go_wp2_with fail
              go_region
              go_wp2_with fail
              go_roundw
              case rel => exact ⟨i + 1, by omega, by go_num, ((RQ.out.set m _).congr (fun q _ => by rw [HST.out]; unfold updI; split <;> rfl)).of_block rfl, below_dr (below_set BQ.out _ _ (Nat.le_refl _))⟩
              case measure => simp [intOf]; omega
            · obtain rfl : i = ys.length := by omega
              go_wp2_with fail
              go_roundw
              case rel => exact ⟨k + 1, by omega, by go_num, by rw [HSK.out]; exact RQ.out, BQ.out⟩
              case measure => simp [intOf]; omega
        · obtain rfl : k = rs.length := by omega
          go_wp2_with fail
          refine bodyPost_ret (v := .tuple #[.slice (some ⟨w2.heap.size, 0, none⟩) FL.length FL.length, .bool true]) (by simp [results, Tryz.results16, go_sem]) rfl ?_
          unfold OcOut
          rw [HX2.out, HX3.out]
          refine ⟨_, _, rfl, ?_, below_next B2.out BW.out⟩
          rw [HX1.out]
          exact ordN_row RW.out B2.out.size (by unfold maxLen; omega)
end Go.Proofs.YtadkpmmbnenemaaGreatDoor
