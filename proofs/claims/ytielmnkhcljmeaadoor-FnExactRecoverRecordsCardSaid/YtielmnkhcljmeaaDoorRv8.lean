/-
  markRecordS on an owned row of records: the walk.
-/
import Derived.Test.YtielmnkhcljmeaaDoorRv7
namespace Go.Proofs.YtielmnkhcljmeaaDoor
open Go Go.RowKit Go.Joins

set_option maxRecDepth 100000 in
set_option maxHeartbeats 6400000 in
theorem markRecordS_any (A : Option Addr) (ts : List Rt) (c base : Nat) (w : World) (hn : ts.length ≤ 8) (hd : ∀ t ∈ ts, t.1.ds.length ≤ 65535) (hbase : base ≤ w.heap.size) (h : OR w base (.slice A ts.length c) ts) :
    Calls Tryd.prog 26 #[.slice A ts.length c, .int .i64 1] w (fun e w' => e = .returned (.int .i64 (mkEnd 1 ts : Nat)) ∧ OR w' base (.slice A ts.length c) (mkTs 1 ts) ∧ Below base w w') := by
  have HST : Hid (OR w base (.slice A ts.length c) (mkTs 1 (ts.take 0) ++ ts.drop 0)) := Lib.hid h
  have HEND : Hid (mkTs 1 (ts.take ts.length) ++ ts.drop ts.length = mkTs 1 ts ∧ mkEnd 1 (ts.take ts.length) = mkEnd 1 ts) := Lib.hid (by rw [List.take_length, List.drop_length, List.append_nil]; exact ⟨rfl, rfl⟩)
  have HSPL : Hid (∀ i (hi : i < ts.length), (mkTs 1 (ts.take i)).length = i ∧ mkEnd 1 (ts.take i) ≤ 1 + 65539 * 8 ∧ ts[i].1.ds.length ≤ 65535 ∧ mkTs 1 (ts.take i) ++ ts.drop i = mkTs 1 (ts.take i) ++ ts[i] :: ts.drop (i + 1) ∧ mkTs 1 (ts.take (i + 1)) ++ ts.drop (i + 1) = mkTs 1 (ts.take i) ++ mkRc (mkEnd 1 (ts.take i)) ts[i] :: ts.drop (i + 1) ∧ mkEnd 1 (ts.take (i + 1)) = mkEnd 1 (ts.take i) + 4 + ts[i].1.ds.length) := Lib.hid fun i hi => by
    have hl : (ts.take i).length = i := by rw [List.length_take]; omega
    refine ⟨by rw [mkTs_len, hl], ?_, hd _ (List.getElem_mem hi), by rw [List.drop_eq_getElem_cons hi], ?_, ?_⟩
    · have := mkEnd_le (ts.take i) 1 fun t ht => hd t (List.mem_of_mem_take ht)
      rw [hl] at this
      omega
    · rw [List.take_succ_eq_append_getElem hi, mkTs_snoc]; simp
    · rw [List.take_succ_eq_append_getElem hi, mkEnd_snoc]
  have HMT := Lib.hid fun n w hn => markText_any n w hn
  unfold MarkOut at HMT
  have HLEN : Hid (∀ i (hi : i < ts.length), (mkTs 1 (ts.take i) ++ ts[i] :: ts.drop (i + 1)).length = ts.length) := Lib.hid fun i hi => by
    rw [List.length_append, mkTs_len, List.length_take, List.length_cons, List.length_drop]; omega
  clear h hd
  go_enter Tryd.func26, Tryd.ntmps26
  go_wp2_with fail
  go_loopw [1, 5] (fun kv iv wr => ∃ i : Nat, i ≤ ts.length ∧ iv = .int .i64 i ∧ kv = .int .i64 (mkEnd 1 (ts.take i) : Nat) ∧ OR wr base (.slice A ts.length c) (mkTs 1 (ts.take i) ++ ts.drop i) ∧ Below base w wr) (fun _ iv _ => ts.length - (intOf iv).toNat)
  case atStart => exact ⟨0, Nat.zero_le _, rfl, rfl, HST.out, Below.refl _ _⟩
  case round =>
    obtain ⟨i, hi, rfl, rfl, hor, hbw⟩ := hrel
    rename World => wr
    have HBW := Lib.hid hbw
    clear hbw HST
    by_cases hlt : i < ts.length
    · obtain ⟨hPl, hk, hdl, q1, q2, q3⟩ := HSPL.out i hlt
      have HL := Lib.hid (HLEN.out i hlt)
      rw [q1] at hor
      have HREL : Hid (∀ W, OR W base (.slice A ts.length c) (mkTs 1 (ts.take i) ++ mkRc (mkEnd 1 (ts.take i)) ts[i] :: ts.drop (i + 1)) → Below base w W → ∃ j : Nat, j ≤ ts.length ∧ (.int .i64 ((i : Int) + 1) : Value) = .int .i64 j ∧ (.int .i64 ((mkEnd 1 (ts.take i) : Nat) + 1 + 1 + 1 + 1 + (ts[i].1.ds.length : Nat)) : Value) = .int .i64 (mkEnd 1 (ts.take j) : Nat) ∧ OR W base (.slice A ts.length c) (mkTs 1 (ts.take j) ++ ts.drop j) ∧ Below base w W) := Lib.hid fun W h1 h2 => ⟨i + 1, by omega, by go_num, by rw [q3]; go_num, by rw [q2]; exact h1, h2⟩
      clear q1 q2 q3 HSPL HLEN HEND
      obtain ⟨g, cap, hv, hg1, hg2⟩ := hor.1.form (by rw [HL.out]; omega)
      injection hv with hA hx1 hx2
      clear hx1 hx2
      subst hA
      generalize ts[i] = t at *
      generalize mkTs 1 (ts.take i) = P at *
      generalize ts.drop (i + 1) = U at *
      generalize mkEnd 1 (ts.take i) = k at *
      obtain ⟨⟨nm, kk, a, b, ds⟩, A', c'⟩ := t
      have HOR := Lib.hid hor
      clear hor
      dsimp only at *
      go_wp2_with fail
      refine (HMT.out k _ (by omega)).mono ?_
      rintro e w1 ⟨rfl, hb1⟩
      have HOR1 := Lib.hid (HOR.out.keep hb1)
      have HB1 : Hid (Below base w w1) := Lib.hid (HBW.out.trans (hb1.mono (Nat.le_trans hbase HBW.out.size)))
      have S1 : Hid (base ≤ w1.heap.size) := Lib.hid (Nat.le_trans hbase HB1.out.size)
      clear hb1 HOR HBW
      have hcell : ∀ q, q < 5 → w1.cell? ⟨g, i * 5 + q, none⟩ = (Rt.cells (⟨nm, kk, a, b, ds⟩, A', c'))[q]? := fun q hq => by
        have h1 := rowC_at P U (⟨nm, kk, a, b, ds⟩, A', c') q hq
        rw [hPl] at h1
        rw [← h1]
        have h2 := HOR1.out.1
        rw [HL.out] at h2
        exact h2.cellAt (i * 5 + q) (by omega)
      have hfz : ∀ q, w1.frozen? ⟨g, i * 5 + q, none⟩ = false := fun q => by
        have h2 := HOR1.out.1
        rw [HL.out] at h2
        exact h2.frozenAt (i * 5 + q)
      have d0 : w1.cell? ⟨g, i * 5, none⟩ = some (.string nm) := hcell 0 (by omega)
      have d1 : w1.cell? ⟨g, i * 5 + 1, none⟩ = some (.int .i64 kk) := hcell 1 (by omega)
      have d2 : w1.cell? ⟨g, i * 5 + 2, none⟩ = some (.int .u64 a) := hcell 2 (by omega)
      have d3 : w1.cell? ⟨g, i * 5 + 3, none⟩ = some (.int .u64 b) := hcell 3 (by omega)
      have d4 : w1.cell? ⟨g, i * 5 + 4, none⟩ = some (.slice A' ds.length c') := hcell 4 (by omega)
      have f0 : w1.frozen? ⟨g, i * 5, none⟩ = false := hfz 0
      have f1 := hfz 1
      have f2 := hfz 2
      have f3 := hfz 3
      have f4 := hfz 4
      have HX : Hid (OR ((((w1.setCell ⟨g, i * 5, none⟩ (.string (markOf k))).setCell ⟨g, i * 5 + 1, none⟩ (.int .i64 ((k : Int) + 1))).setCell ⟨g, i * 5 + 2, none⟩ (.int .u64 ((k : Int) + 1 + 1))).setCell ⟨g, i * 5 + 3, none⟩ (.int .u64 ((k : Int) + 1 + 1 + 1))) base (.slice (some ⟨g, 0, none⟩) ts.length c) (P ++ (⟨markOf k, (k : Int) + 1, (k : Int) + 1 + 1, (k : Int) + 1 + 1 + 1, ds⟩, A', c') :: U)) := Lib.hid (by
        have h1 := HOR1.out.put (t' := (⟨markOf k, kk, a, b, ds⟩, A', c')) (u := .string (markOf k)) 0 (by rw [HL.out]) (by omega) rfl rfl rfl
        have h2 := h1.put (t' := (⟨markOf k, (k : Int) + 1, a, b, ds⟩, A', c')) (u := .int .i64 ((k : Int) + 1)) 1 (by rw [List.length_append, List.length_cons, ← HL.out, List.length_append, List.length_cons]) (by omega) rfl rfl rfl
        have h3 := h2.put (t' := (⟨markOf k, (k : Int) + 1, (k : Int) + 1 + 1, b, ds⟩, A', c')) (u := .int .u64 ((k : Int) + 1 + 1)) 2 (by rw [List.length_append, List.length_cons, ← HL.out, List.length_append, List.length_cons]) (by omega) rfl rfl rfl
        have h4 := h3.put (t' := (⟨markOf k, (k : Int) + 1, (k : Int) + 1 + 1, (k : Int) + 1 + 1 + 1, ds⟩, A', c')) (u := .int .u64 ((k : Int) + 1 + 1 + 1)) 3 (by rw [List.length_append, List.length_cons, ← HL.out, List.length_append, List.length_cons]) (by omega) rfl rfl rfl
        rw [hPl] at h4
        exact h4)
      have HB4 : Hid (Below base w ((((w1.setCell ⟨g, i * 5, none⟩ (.string (markOf k))).setCell ⟨g, i * 5 + 1, none⟩ (.int .i64 ((k : Int) + 1))).setCell ⟨g, i * 5 + 2, none⟩ (.int .u64 ((k : Int) + 1 + 1))).setCell ⟨g, i * 5 + 3, none⟩ (.int .u64 ((k : Int) + 1 + 1 + 1)))) := Lib.hid ((((HB1.out.setCell hg1 _).setCell hg1 _).setCell hg1 _).setCell hg1 _)
      have HMI := Lib.hid fun W ho => markInt64S_any A' base ds.length (il ds) c' ((k : Int) + 1 + 1 + 1 + 1) W (by omega) (by omega) (by omega) ho
      clear hcell hfz HMT HOR1 HB1
      have HO4 : Hid (((((w1.setCell ⟨g, i * 5, none⟩ (.string (markOf k))).setCell ⟨g, i * 5 + 1, none⟩ (.int .i64 ((k : Int) + 1))).setCell ⟨g, i * 5 + 2, none⟩ (.int .u64 ((k : Int) + 1 + 1))).setCell ⟨g, i * 5 + 3, none⟩ (.int .u64 ((k : Int) + 1 + 1 + 1))).ownsRow base 2 1 (.slice A' ds.length c') ds.length (il ds)) := Lib.hid (HX.out.2.1 _ (List.mem_append_right _ (List.mem_cons_self))).1
      go_wp2_with fail
      refine (HMI.out _ HO4.out).mono ?_
      rintro e w5 ⟨rfl, ho5, hg5⟩
      have HOR5 : Hid (OR w5 base (.slice (some ⟨g, 0, none⟩) ts.length c) (P ++ mkRc k (⟨nm, kk, a, b, ds⟩, A', c') :: U)) := Lib.hid (HX.out.marks (t' := mkRc k (⟨nm, kk, a, b, ds⟩, A', c')) hg5 ho5 (by unfold Rt.row mkRc; simp [marksI_len]) (by simp [mkRc, marksI_len]) (by unfold Rt.cells Rt.row mkRc; simp [marksI_len]))
      have HB5 : Hid (Below base w w5) := Lib.hid (HB4.out.grown hg5 (by simpa [World.setCell] using S1.out) (fun q hq => (HO4.out.lt q hq).1))
      clear ho5 hg5 HO4 HX HB4 d0 d1 d2 d3 d4 f0 f1 f2 f3 f4
      go_wp2_with fail
      go_roundw
      case rel => exact HREL.out _ HOR5.out HB5.out
      case measure => simp [intOf]; omega
    · obtain rfl : i = ts.length := by omega
      rw [HEND.out.1] at hor
      have HE := Lib.hid HEND.out.2
      have HOR := Lib.hid hor
      clear hor
      go_wp2_with fail
      go_ret
      exact ⟨by rw [HE.out]; rfl, HOR.out, HBW.out⟩
end Go.Proofs.YtielmnkhcljmeaaDoor
