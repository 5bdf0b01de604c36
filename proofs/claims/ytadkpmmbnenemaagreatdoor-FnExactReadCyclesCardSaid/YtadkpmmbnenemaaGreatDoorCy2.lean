/-
  spec.CyclesOf.
-/
import Derived.Test.YtadkpmmbnenemaaGreatDoorCy1
namespace Go.Proofs.YtadkpmmbnenemaaGreatDoor
open Go Go.RowKit

set_option maxHeartbeats 800000 in
theorem specCyclesOf_bad (A : Option Addr) (xs : List Int) (c : Nat) (w : World) (hx : xs.length ≤ 1048576) (h : Rd w w.heap.size A (il xs)) (hb : ordB xs = false) : Calls Tryz.prog 31 #[.slice A xs.length c] w (CyNo w) := by
  have HO := Lib.hid (l04Order_any A xs c w (by omega) h)
  rw [hb] at HO
  unfold BoolOut at HO
  clear hb h
  go_enter Tryz.func31, Tryz.ntmps31
  go_wp2_with (go_at_call 30; refine HO.out.mono ?_; rintro e w1 ⟨rfl, hb1⟩)
  refine bodyPost_ret (v := .tuple #[.slice none 0 0, .bool false]) (by simp [results, Tryz.results31, go_sem]) rfl ⟨rfl, hb1⟩
set_option maxRecDepth 100000 in
set_option maxHeartbeats 3200000 in
theorem specCyclesOf_ok (A : Option Addr) (xs : List Int) (c : Nat) (w : World) (h : Rd w w.heap.size A (il xs)) (hb : ordB xs = true) : Calls Tryz.prog 31 #[.slice A xs.length c] w (CyOut xs w) := by
  obtain ⟨n1, n2, hok⟩ := ordB_facts hb
  have HO := Lib.hid (l04Order_any A xs c w (by omega) h)
  rw [hb] at HO
  unfold BoolOut at HO
  have HNX : Hid (∀ k (hk : k < xs.length), xs[k] = (nxt xs k : Int) ∧ nxt xs k < xs.length) := Lib.hid fun k hk => nxt_ok hok hk
  have HC0 : Hid (cycTo (nxt xs) xs.length 0 = (fun _ => false, [])) := Lib.hid rfl
  have HCS : Hid (∀ i, cycTo (nxt xs) xs.length (i + 1) = ((follow (nxt xs) (xs.length + 1) (cycTo (nxt xs) xs.length i).1 [] i).1, if 0 < (follow (nxt xs) (xs.length + 1) (cycTo (nxt xs) xs.length i).1 [] i).2.length then (cycTo (nxt xs) xs.length i).2 ++ [(follow (nxt xs) (xs.length + 1) (cycTo (nxt xs) xs.length i).1 [] i).2] else (cycTo (nxt xs) xs.length i).2)) := Lib.hid fun i => rfl
  have HCE : Hid (cycs xs = (cycTo (nxt xs) xs.length xs.length).2.map natL) := Lib.hid rfl
  have HCL := Lib.hid fun i hi => (cycTo_all (nxt xs) xs.length (fun k hk => (nxt_ok hok hk).2) i hi).1
  have HFL := Lib.hid fun t f c k hk hc => (follow_all (nxt xs) xs.length (fun k hk => (nxt_ok hok hk).2) t f c k hk hc)
  obtain ⟨i0, hi0, hz0, hz1, hz2⟩ := info_parts info_bool
  obtain ⟨j0, hj0, hy0, hy1, hy2⟩ := info_parts info_i64
  obtain ⟨l0, hl0, hx0, hx1, hx2⟩ := info_parts info_i64s
  have hmk := run_make_row (P := Tryz.prog) 59 4 i0 (.bool false) Tryz.underlying59 hi0 hz0 hz1 rfl .i64 .i64 xs.length (by rw [hz2]; omega) (by omega)
  obtain ⟨b0, o0, rfl, -, -⟩ := h.ilAt (k := 0) (by omega)
  have HR := Lib.hid h
  have hxl : xs.length ≤ 9223372036854775807 := by omega
  clear hb hok h hi0 hz0 hz1 hz2
  generalize cycTo (nxt xs) xs.length = CT at *
  generalize nxt xs = nx at *
  go_enter Tryz.func31, Tryz.ntmps31
  go_wp2_with fail
  refine HO.out.mono ?_
  rintro e w1 ⟨rfl, hb1⟩
  have B1 := Lib.hid hb1
  have HRA : Hid (∀ W, Below w1.heap.size w1 W → Rd W W.heap.size (some ⟨b0, o0, none⟩) (il xs)) := Lib.hid fun W hW => HR.out.at_ (below_next B1.out hW)
  clear hb1 HO HR
  go_wp2_with fail
  generalize hW2 : World.alloc (World.alloc w1 _) _ = w2
  have s2 : LS w2 w1.heap.size w1.heap.size xs.length (fun _ => false) (.slice (some ⟨w1.heap.size + 1, 0, none⟩) 0 0) [] (.slice none 0 0) [] ∧ Below w1.heap.size w1 w2 := by
    rw [← hW2]
    exact ⟨LS.start1 w1 xs.length (.cells (madeCells #[.bool false] xs.length) 4) (World.rowIs_made w1 (.bool false) xs.length 4), below_al (below_al (Below.refl _ _) _) _⟩
  have S2 := Lib.hid s2.1
  have B2 := Lib.hid s2.2
  have hbs : w1.heap.size ≤ w1.heap.size := Nat.le_refl _
  clear hW2 s2
  go_loopw [5, 6] (fun ov iv wr => ∃ (i : Nat) (A' : Option Addr) (c' : Nat) (rs : List (List Int × Value)), i ≤ xs.length ∧ iv = .int .i64 i ∧ ov = .slice A' rs.length c' ∧ rs.map (·.1) = (CT i).2.map natL ∧ LS wr w1.heap.size w1.heap.size xs.length (CT i).1 (.slice A' rs.length c') rs (.slice none 0 0) [] ∧ Below w1.heap.size w1 wr) (fun _ iv _ => xs.length - (intOf iv).toNat)
  case atStart => exact ⟨0, _, 0, [], Nat.zero_le _, rfl, rfl, by rw [HC0.out]; rfl, by rw [HC0.out]; exact S2.out, B2.out⟩
  case round =>
    obtain ⟨i, A', c', rs, hi, rfl, rfl, hrs, hls, hbw⟩ := hrel
    rename World => wr
    have S := Lib.hid hls
    have B := Lib.hid hbw
    have RS := Lib.hid hrs
    have hrl : rs.length ≤ i := by
      have e := congrArg List.length hrs
      rw [List.length_map, List.length_map] at e
      have := HCL.out i hi
      omega
    clear hls hbw hrs S2 B2
    by_cases hlt : i < xs.length
    · have hnext := HCS.out i
      have HF := Lib.hid (HFL.out (xs.length + 1) (CT i).1 [] i hlt (fun x hx => by cases hx))
      have HUL := Lib.hid (unseen_le (CT i).1 xs.length)
      generalize hCi : CT i = Ci at *
      obtain ⟨f0, out⟩ := Ci
      dsimp only at *
      generalize hFIN : follow nx (xs.length + 1) f0 [] i = FIN at *
      have HNEXT := Lib.hid hnext
      have HFIN := Lib.hid hFIN
      have hlt' : (i : Int) < (xs.length : Int) := by omega
      clear hCi hnext hFIN HFL HCL HC0 HCS
      go_upto_region 9 with fail
      generalize hW3 : World.alloc wr _ = w3
      have s3 : LS w3 w1.heap.size w1.heap.size xs.length f0 (.slice A' rs.length c') rs (.slice (some ⟨wr.heap.size, 0, none⟩) 0 0) [] ∧ Below w1.heap.size w1 w3 := by rw [← hW3]; exact ⟨S.out.fresh B.out.size, below_al B.out _⟩
      have S3 := Lib.hid s3
      clear hW3 s3
      go_wp2_with fail
      go_loopg [7, 8] (xs.length + 1) (fun t cv kv wq => ∃ (f : Nat → Bool) (cy : List Nat) (k : Nat) (U : Option Addr) (d : Nat), cv = .slice U cy.length d ∧ kv = .int .i64 k ∧ k < xs.length ∧ cy.length ≤ xs.length ∧ follow nx t f cy k = FIN ∧ unseen f xs.length < t ∧ cy.length + unseen f xs.length ≤ xs.length ∧ LS wq w1.heap.size w1.heap.size xs.length f (.slice A' rs.length c') rs (.slice U cy.length d) (il (natL cy)) ∧ Below w1.heap.size w1 wq)
      case atStart => exact ⟨f0, [], i, _, 0, rfl, rfl, hlt, by simp, HFIN.out, by have := HUL.out; omega, by have := HUL.out; simp; omega, S3.out.1, S3.out.2⟩
      case round =>
        rename World => wq
        obtain ⟨f, cy, k, U, d, rfl, rfl, hk, hcy, hfo, hun, hcu, hlq, hbq⟩ := hrel
        have SQ := Lib.hid hlq
        have BQ := Lib.hid hbq
        have hcs := hlq.s.cell hk
        have hfs := hlq.s.frozen k
        have hk' : (k : Int) < (xs.length : Int) := by omega
        have FO := Lib.hid hfo
        have UN := Lib.hid hun
        have CU := Lib.hid hcu
        clear hlq hbq S3 hfo hun hcu
        cases hfk : f k with
        | true =>
          have FS := Lib.hid (by have h := FO.out; rw [follow_stop nx hfk] at h; exact h)
          rw [hfk] at hcs
          clear hfk
          have hlr := SQ.out.m
          have LRQ := Lib.hid hlr
          have hzq := BQ.out.size
          clear hlr
          by_cases hpos : 0 < cy.length
          · have hpos' : (0 : Int) < (cy.length : Int) := by omega
            have HN : Hid (CT (i + 1) = (f, out ++ [cy])) := Lib.hid (by rw [HNEXT.out, ← FS.out]; simp only [if_pos hpos])
            clear hpos
            go_wp2_with (refine wpList_append_lies _ rfl _ _ _ rfl w1.heap.size 22 l0 _ 1 24 Tryz.underlying28 hl0 hx0 hx1 hx2 rfl (by omega) (.slice A' rs.length c') rs.length (rs.map (·.2)) (by rfl) (LRQ.out.alloc _) ⟨wq.heap.size, 0, none⟩ 1 1 [.slice U cy.length d] (by rfl) (by rfl) (World.news_of_block (cs := #[.slice U cy.length d]) (t := 22) (fr := (0, 0)) (heap_alloc_new wq _)) (by simp [Value.oneCell']) (by omega) (by unfold maxLen; omega) (by omega) (by simp; omega) (wq.heap.size + 1) (by simp) ?_; intro g9 cap9 w9 hown9 hgrow hat hlt9; have G9 := Lib.hid (SQ.out.push rfl hgrow hown9 hat); have B9 := Lib.hid (SQ.out.push_below BQ.out (Nat.le_refl _) hgrow); clear hown9 hgrow hat)
            go_roundw
            case rel => exact ⟨i + 1, some ⟨g9, 0, none⟩, cap9, rs ++ [(natL cy, .slice U cy.length d)], by omega, by go_num, by rw [List.length_append]; rfl, by rw [HN.out, List.map_append, List.map_append, RS.out]; rfl, by rw [HN.out, List.length_append]; exact G9.out, B9.out⟩
            case measure => simp [intOf]; omega
          · have hpos' : ¬ (0 : Int) < (cy.length : Int) := by omega
            have HN : Hid (CT (i + 1) = (f, out)) := Lib.hid (by rw [HNEXT.out, ← FS.out]; simp only [if_neg hpos])
            clear hpos
            go_wp2_with fail
            go_roundw
            case rel => exact ⟨i + 1, A', c', rs, by omega, by go_num, rfl, by rw [HN.out, RS.out], by rw [HN.out]; exact SQ.out.drop, BQ.out⟩
            case measure => simp [intOf]; omega
        | false =>
          rw [hfk] at hcs
          have htp := UN.out
          obtain ⟨t', rfl⟩ : ∃ t', gk = t' + 1 := ⟨gk - 1, by omega⟩
          have FG := Lib.hid (by have h := FO.out; rw [follow_go nx hfk] at h; exact h)
          have UD := Lib.hid (unseen_upd f k hfk xs.length hk)
          obtain ⟨x1, x2⟩ := HNX.out k hk
          have HCYU : Hid ((cy ++ [k]).length + unseen (updS f k) xs.length ≤ xs.length ∧ unseen (updS f k) xs.length < t') := Lib.hid (by have := UD.out; have := CU.out; rw [List.length_append, List.length_singleton]; omega)
          have HX1 := Lib.hid x1
          have HK := Lib.hid hk
          clear htp hfk x1
          go_upto_region 13 with fail
          generalize hW4 : World.setCell wq _ _ = w4
          have s4 : LS w4 w1.heap.size w1.heap.size xs.length (updS f k) (.slice A' rs.length c') rs (.slice U cy.length d) (il (natL cy)) ∧ Below w1.heap.size w1 w4 := by rw [← hW4]; exact ⟨SQ.out.mark k, LS.mark_below BQ.out hbs k⟩
          have S4 := Lib.hid s4
          have hz4 := s4.2.size
          have hol := s4.1.o
          rw [il_len, natL_len] at hol
          have OL := Lib.hid hol
          clear hW4 s4 hol hcs hfs
          go_wp2_with (refine wpList_append_lies _ rfl _ _ _ rfl w1.heap.size 2 j0 _ 1 8 Tryz.underlying22 hj0 hy0 hy1 hy2 rfl (by omega) (.slice U cy.length d) cy.length (il (natL cy)) (by rfl) (OL.out.alloc _) ⟨w4.heap.size, 0, none⟩ 1 1 [.int .i64 (k : Nat)] (by rfl) (by rfl) (World.news_of_block (cs := #[.int .i64 (k : Nat)]) (t := 2) (fr := (0, 0)) (heap_alloc_new w4 _)) (by simp [Value.oneCell']) (by omega) (by unfold maxLen; omega) (by omega) (by simp; omega) (w4.heap.size + 1) (by simp) ?_; intro g9 cap9 w9 hown9 hgrow hat hlt9; have G9 := Lib.hid (S4.out.1.add (by rw [il_len, natL_len]) hgrow hown9 hat); have B9 := Lib.hid (S4.out.1.add_below S4.out.2 (Nat.le_refl _) hgrow); obtain ⟨b9, o9, e9, hb9, hc9⟩ := (HRA.out _ B9.out).ilAt HK.out; cases e9; rw [HX1.out] at hc9; clear hown9 hgrow hat hb9)
          go_roundg t'
          case measure => omega
          case rel => exact ⟨updS f k, cy ++ [k], nx k, some ⟨g9, 0, none⟩, cap9, by rw [List.length_append]; rfl, rfl, x2, by have := HCYU.out.1; omega, FG.out, HCYU.out.2, HCYU.out.1, by rw [List.length_append, natL_snoc]; simpa [il] using G9.out, B9.out⟩
    · obtain rfl : i = xs.length := by omega
      go_wp2_with fail
      refine bodyPost_ret (v := .tuple #[.slice A' rs.length c', .bool true]) (by simp [results, Tryz.results31, go_sem]) rfl ?_
      have hl := S.out.lr
      exact ⟨A', c', rs, rfl, by rw [RS.out, HCE.out], ⟨own_base hl.m B1.out.size, fun x hx => own_base (hl.r x hx) B1.out.size⟩, below_next B1.out B.out⟩
end Go.Proofs.YtadkpmmbnenemaaGreatDoor
