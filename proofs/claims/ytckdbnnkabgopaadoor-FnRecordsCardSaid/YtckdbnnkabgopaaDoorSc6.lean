/-
  spec.B10Records: valid records, in a row that the caller owns.
-/
import Derived.Test.YtckdbnnkabgopaaDoorSc5
namespace Go.Proofs.YtckdbnnkabgopaaDoor
open Go Go.RowKit Go.Joins

def fourT (i : Nat) : ByteArray := if i = 0 then ⟨#[97]⟩ else if i = 1 then ⟨#[99, 97, 114, 100, 115]⟩ else if i = 2 then ⟨#[119, 97, 108, 107]⟩ else ⟨#[122, 122]⟩
theorem fourT_ok : ∀ i, i < 4 → nameB (fourT i).data.toList = true := by decide +kernel
/-- the records drawn so far -/
def Fine (ts : List Rt) : Prop := ∀ t ∈ ts, t.1.fine ∧ t.1.ds.length ≤ 6
theorem fine_snoc {ts : List Rt} (h : Fine ts) {i : Nat} {k a b : Int} {ds : List Int} {A : Option Addr} {c : Nat} (hi : i < 4) (hk : seedB k a b = true) (ha : 0 ≤ a ∧ a < 18446744073709551616) (hb : 0 ≤ b ∧ b < 18446744073709551616) (hl : ds.length ≤ 6) (hd : ∀ d ∈ ds, 0 ≤ d ∧ d ≤ 65535) : Fine (ts ++ [(⟨fourT i, k, a, b, ds⟩, A, c)]) := by
  intro t ht
  rw [List.mem_append] at ht
  rcases ht with ht | ht
  · exact h t ht
  · have ht : t = (⟨fourT i, k, a, b, ds⟩, A, c) := by simpa using ht
    subst ht
    refine ⟨⟨?_, ha, hb⟩, hl⟩
    show recB _ _ _ _ _ = true
    unfold recB
    rw [fourT_ok i hi, hk, decide_eq_true (by omega : ds.length ≤ 256)]
    simp only [Bool.true_and, List.all_eq_true]
    exact fun d hd' => inB_yes (hd d hd').1 (hd d hd').2
def B10Out (w : World) (e : Ending) (w' : World) : Prop := ∃ A c ts, e = .returned (.slice A ts.length c) ∧ ts.length ≤ 4 ∧ Fine ts ∧ OR w' w.heap.size (.slice A ts.length c) ts ∧ Below w.heap.size w w'
theorem OR.mv {W W' : World} {base g : Nat} {v : Value} {ts : List Rt} (h : OR W base v ts) (hb : Mv W.heap.size g W W') (hg : g < base) : OR W' base v ts :=
  ⟨hb.own h.1 hg, fun t ht => ⟨hb.own (h.2.1 t ht).1 hg, (h.2.1 t ht).2⟩, h.2.2⟩
theorem OR.base {W : World} {base base' : Nat} {v : Value} {ts : List Rt} (h : OR W base v ts) (hb : base' ≤ base) : OR W base' v ts :=
  ⟨own_base h.1 hb, fun t ht => ⟨own_base (h.2.1 t ht).1 hb, (h.2.1 t ht).2⟩, h.2.2⟩
set_option maxRecDepth 100000 in
set_option maxHeartbeats 400000 in
theorem B10Records_any (S : Option Addr) (n sc : Nat) (w : World) (hn : n ≤ 1048576) (h : ∀ a, a < n → ∃ b off v, S = some ⟨b, off, none⟩ ∧ b < w.heap.size ∧ (v : Nat) ≤ 255 ∧ w.cell? ⟨b, off + a, none⟩ = some (.int .u8 (v : Nat))) :
    Calls Tryd.prog 5 #[.slice S n sc] w (B10Out w) := by
  obtain ⟨i0, hi0, hz0, hz1, hz2⟩ : ∃ i, Tryd.prog.info? 34 = some i ∧ i.zero = some (.agg #[.string ⟨#[]⟩, .int .i64 0, .int .u64 0, .int .u64 0, .slice none 0 0]) ∧ i.size = 5 ∧ i.bytes ≤ 1024 := by
    obtain ⟨i, hi, hzz⟩ := Option.map_eq_some_iff.1 info_rec
    simp only [Prod.mk.injEq] at hzz
    have hb := rec_bytes
    rw [hi] at hb
    exact ⟨i, hi, hzz.1, hzz.2, by simpa using hb⟩
  obtain ⟨j0, hj0, hy0, hy1, hy2⟩ := info_parts info_i64
  have HF := Lib.hid (l00From_any S n sc w h)
  have HP := Lib.hid fun g m N w hm hN h => pick_any g S n sc m N w hn hm hN h
  have HD := Lib.hid fun g m w hm h => l02DrawOk_any g S n sc m w hn hm h
  have HT := Lib.hid fun g m w hm b hT hbg h => text_any g S n sc m w hn hm b fourT hT hbg h
  unfold PickOut at HP
  unfold DrOut at HD
  unfold B10Out
  clear h
  go_enter Tryd.func5, Tryd.ntmps5
  go_wp2_with fail
  refine HF.out.mono ?_
  rintro e w1 ⟨rfl, hb1, hz1', hs1⟩
  have B1 := Lib.hid hb1
  have S1 := Lib.hid hs1
  clear HF hb1 hs1
  go_wp2_with fail
  generalize hW2 : World.alloc w1 _ = w2
  have o2 : OR w2 (w.heap.size + 1) (.slice (some ⟨w.heap.size + 1, 0, none⟩) 0 0) [] := by rw [← hW2, ← hz1']; exact OR.start (World.ownsRow_made w1 #[] 0 (by omega) (by unfold maxLen; omega) rfl)
  have s2 : Sc w2 w.heap.size S n sc 0 := by rw [← hW2]; exact S1.out.al _
  have m2 : Mv w.heap.size w.heap.size w w2 := by rw [← hW2]; exact (Mv.of_below B1.out).al B1.out.size _
  have z2 : w2.heap.size = w.heap.size + 2 := by rw [← hW2]; simp; omega
  clear S1 B1 hW2
  have O2 := Lib.hid o2
  have S2 := Lib.hid s2
  have M2 := Lib.hid m2
  clear o2 s2 m2
  refine (HP.out _ _ 5 _ (by omega) (by omega) S2.out).mono ?_
  rintro e w3 ⟨q, hq, _, rfl, hs⟩
  have O3 := Lib.hid (O2.out.mv (Mv.of_grown hs.1) (by omega))
  have M3 := Lib.hid (M2.out.next (by omega) (Mv.of_grown hs.1))
  have S3 := Lib.hid hs.2
  have z3 : w.heap.size + 2 ≤ w3.heap.size := by have := hs.1.size; omega
  clear hs O2 M2 S2
  clear z2 hz1'
  go_wp2_with fail
  go_loopw [4, 5, 6, 7] (fun v4 v5 _ _ wr => ∃ (i : Nat) (A : Option Addr) (c : Nat) (ts : List Rt), v4 = .slice A ts.length c ∧ v5 = .int .i64 i ∧ i + ts.length ≤ 4 ∧ Fine ts ∧ OR wr (w.heap.size + 1) (.slice A ts.length c) ts ∧ Mv w.heap.size w.heap.size w wr ∧ w.heap.size + 2 ≤ wr.heap.size ∧ Sc wr w.heap.size S n sc (100 * ts.length + 2)) (fun _ v5 _ _ _ => (intOf v5).toNat)
  case atStart => exact ⟨q, _, 0, [], rfl, rfl, by simp; omega, (fun _ h => absurd h (by simp)), O3.out, M3.out, by omega, S3.out⟩
  case round =>
    obtain ⟨i, A, c, ts, rfl, rfl, hle, hfi, hor, hmv, hsz, hsc⟩ := hrel
    rename World => wr
    have HFI := Lib.hid hfi
    have HOR := Lib.hid hor
    have HMV := Lib.hid hmv
    have HSC := Lib.hid hsc
    clear hfi hor hmv hsc O3 M3 S3
    by_cases hi : 0 < i
    · have hi' : (0 : Int) < (i : Int) := by omega
      go_wp2_with fail
      generalize hW4 : World.alloc wr _ = w4
      have t4 : ∀ i, i < 4 → w4.cell? ⟨wr.heap.size, i, none⟩ = some (.string (fourT i)) := fun i hi => by
        rw [← hW4]
        rcases (show i = 0 ∨ i = 1 ∨ i = 2 ∨ i = 3 by omega) with rfl | rfl | rfl | rfl <;> simp [go_sem, fourT]
      have s4 := HSC.out.al (.cells #[.string (fourT 0), .string (fourT 1), .string (fourT 2), .string (fourT 3)] 9)
      have m4 : Mv wr.heap.size w.heap.size wr w4 := by rw [← hW4]; exact (Mv.refl _ _ _).al (Nat.le_refl _) _
      have s4 : Sc w4 w.heap.size S n sc (100 * ts.length + 2) := by rw [← hW4]; exact HSC.out.al _
      clear hW4
      have M4 := Lib.hid m4
      clear m4
      refine (HT.out _ _ _ (by omega) _ t4 (by omega) s4).mono ?_
      rintro e w5 ⟨tj, htj, rfl, hs⟩
      have M5 := Lib.hid (M4.out.next M4.out.size (Mv.of_grown hs.1))
      have S5 := Lib.hid hs.2
      clear hs s4 t4 M4
      go_wp2_with fail
      refine (HD.out _ _ _ (by omega) S5.out).mono ?_
      rintro e w6 ⟨k, a, b, rfl, hk, ha, hb, hm6, hs6⟩
      have M6 := Lib.hid (M5.out.next M5.out.size hm6)
      have S6 := Lib.hid hs6
      have HK := Lib.hid hk
      have HA := Lib.hid ha
      have HB := Lib.hid hb
      have z6 : wr.heap.size ≤ w6.heap.size := by have := hm6.size; have := M5.out.size; omega
      clear hm6 hs6 hk ha hb M5 S5
      go_upto_region 7 with fail
      generalize hW7 : World.alloc w6 _ = w7
      have r7 : RcAt w7 w6.heap.size (fourT tj) k a b none 0 0 := by rw [← hW7]; simp [RcAt, go_sem]
      have f7 : ∀ o, w7.frozen? ⟨w6.heap.size, o, none⟩ = false := fun o => by rw [← hW7]; simp [go_sem]
      have s7 : Sc w7 w.heap.size S n sc (100 * ts.length + 2 + 2 + 6) := by rw [← hW7]; exact S6.out.al _
      have z7 : w7.heap.size = w6.heap.size + 1 := by rw [← hW7]; simp
      have m7 : Mv wr.heap.size w.heap.size wr w7 := by rw [← hW7]; exact M6.out.al M6.out.size _
      clear hW7 M6 S6
      have S7 := Lib.hid s7
      have R7 : Hid (RM w7 w6.heap.size w.heap.size (fourT tj) k a b [] S n sc (100 * ts.length + 2 + 2 + 6) w7) := Lib.hid ⟨none, 0, Mv.refl _ _ _, by omega, r7, f7, World.ownsRow_nil _ _ _ _, s7⟩
      have M7 := Lib.hid m7
      clear r7 f7 s7 m7
      go_wp2_with fail
      refine (HP.out _ _ 7 _ (by omega) (by omega) S7.out).mono ?_
      rintro e w8 ⟨q2, hq2, _, rfl, hs⟩
      have R8 : Hid (RM w7 w6.heap.size w.heap.size (fourT tj) k a b [] S n sc (100 * ts.length + 2 + 2 + 6 + 2) w8) := Lib.hid (by
        obtain ⟨A0, c0, q1, q2, q3, q4, q5, q6⟩ := R7.out
        have hm := Mv.of_grown hs.1
        exact ⟨A0, c0, q1.trans (hm.mono (by omega)), by have := hm.size; omega, ⟨hm.keepC q3.1 (by show w6.heap.size ≠ _; omega), hm.keepC q3.2.1 (by show w6.heap.size ≠ _; omega), hm.keepC q3.2.2.1 (by show w6.heap.size ≠ _; omega), hm.keepC q3.2.2.2.1 (by show w6.heap.size ≠ _; omega), hm.keepC q3.2.2.2.2 (by show w6.heap.size ≠ _; omega)⟩, fun o => (hm.frozen (p := ⟨w6.heap.size, o, none⟩) (by show w6.heap.size < _; omega) (by show w6.heap.size ≠ _; omega)).trans (q4 o), hm.own q5 (by omega), hs.2⟩)
      clear hs R7 S7
      go_wp2_with fail
      go_loopw [7] (fun v7 wq => ∃ (j : Nat) (ds : List Int), v7 = .int .i64 j ∧ j + ds.length ≤ 6 ∧ (∀ d ∈ ds, 0 ≤ d ∧ d ≤ 65535) ∧ RM w7 w6.heap.size w.heap.size (fourT tj) k a b ds S n sc (100 * ts.length + 12 + 2 * ds.length) wq) (fun v7 _ => (intOf v7).toNat)
      case atStart => exact ⟨q2, [], rfl, by simp; omega, (fun _ h => absurd h (by simp)), R8.out⟩
      case round =>
        obtain ⟨j, ds, rfl, hjl, hds, hrm⟩ := hrel
        rename World => wq
        have HDS := Lib.hid hds
        obtain ⟨A3, c3, hmv, hsz3, hrc, hfr, hown, hsc⟩ := hrm
        clear hds R8
        by_cases hj : 0 < j
        · have hj' : (0 : Int) < (j : Int) := by omega
          have HPq := Lib.hid (HP.out _ _ 65536 wq.drew (by omega) (by omega) hsc)
          have HMVq := Lib.hid hmv
          have HOW := Lib.hid hown
          have HRC := Lib.hid hrc
          have HM4 : Hid (∀ w2, wq.drew.grownBy w2 (some w.heap.size) → w2.cell? ⟨w6.heap.size, 4, none⟩ = some (.slice A3 ds.length c3) ∧ w6.heap.size < w2.heap.size ∧ w2.ownsRow (w6.heap.size + 1) 2 1 (.slice A3 ds.length c3) ds.length (il ds)) := Lib.hid fun w2 h => ⟨(Mv.of_grown h).keepC hrc.2.2.2.2 (by show w6.heap.size ≠ _; omega), by have : wq.heap.size ≤ w2.heap.size := h.size; omega, (Mv.of_grown h).own (own_below hown (below_dr (Below.refl _ _))) (by omega)⟩
          obtain ⟨c0, c1, c2, c3', c4⟩ := hrc
          have hp4 : w6.heap.size < wq.heap.size := by omega
          clear hmv hsc c0 c1 c2 c3' hown
          go_wp2_with fail
          go_region_law (first
            | (refine step_append_lies _ (by rfl) _ _ _ (by rfl) (w6.heap.size + 1) 2 j0 _ 1 8 Tryd.underlying32 hj0 hy0 hy1 hy2 rfl (by omega) (.slice A3 ds.length c3) ds.length (il ds) (by rfl) (HO9.out.alloc _) ⟨w9.heap.size, 0, none⟩ 1 1 [.int .i64 (x : Int)] (by rfl) (by rfl) (World.news_of_block (cs := #[.int .i64 (x : Int)]) (t := 2) (fr := (0, 0)) (heap_alloc_new w9 _)) (by simp [Value.oneCell']) (by omega) (by unfold maxLen; omega) (by omega) (by simp; omega) (w9.heap.size + 1) (by simp) ?_
               intro b3 cap3 w3 hown3 hgrow hat hlt3
               obtain ⟨c4', f3, hrm3⟩ := RM_step (wr := wq.drew) HMVq.out.dr (by omega) hsz3 HRC.out hfr (own_below HOW.out (below_dr (Below.refl _ _))) HS9.out hgrow hown3
               have HX := Lib.hid hrm3
               clear hrm3 hgrow hat hown3)
            | (go_simp; go_at_call 14; refine HPq.out.mono ?_; rintro e w9 ⟨x, _, hx, rfl, hs⟩; obtain ⟨k4, k9, o9⟩ := HM4.out _ hs.1; have HO9 := Lib.hid o9; have HS9 := Lib.hid hs; clear hs o9))
          all_goals
            go_wp2_with fail
            go_roundw
            case rel => exact ⟨j - 1, ds ++ [(x : Int)], by first | go_num | (congr 1; omega), by rw [List.length_append]; simp; omega, fun d hd => by
              rw [List.mem_append] at hd
              rcases hd with hd | hd
              · exact HDS.out d hd
              · have hd : d = (x : Int) := by simpa using hd
                omega, by rw [List.length_append]; obtain ⟨A', c', r1, r2, r3, r4, r5, a', s', r6, r7⟩ := HX.out; exact ⟨A', c', r1, r2, r3, r4, r5, a', s', by simp; omega, r7⟩⟩
            case measure => simp [intOf]; omega
        · obtain rfl : j = 0 := by omega
          have RC := Lib.hid hrc
          have HFN := Lib.hid (fine_snoc (A := A3) (c := c3) HFI.out htj HK.out HA.out HB.out (by omega) HDS.out)
          have MW : Hid (Mv wr.heap.size w.heap.size wr wq) := Lib.hid (M7.out.trans (hmv.mono (by omega)))
          have HOQ := Lib.hid hown
          have OQ := Lib.hid (HOR.out.mv MW.out (by omega))
          have MX : Hid (Mv w.heap.size w.heap.size w wq) := Lib.hid (HMV.out.trans (MW.out.mono (by omega)))
          have SQ : Hid (∀ W row, wq.grownBy W row → (∀ k, row = some k → w.heap.size < k) → Sc W w.heap.size S n sc (100 * ts.length + 100 + 2)) := Lib.hid fun W row hg hr => by
            obtain ⟨a1, s1, e1, e2, e3, e4, e5, e6, e7⟩ := hsc
            have hl : w.heap.size < wq.heap.size := lt_of_cell (a := ⟨w.heap.size, 0, none⟩) e3
            have far : ∀ b i, b ≤ w.heap.size → W.cell? ⟨b, i, none⟩ = wq.cell? ⟨b, i, none⟩ := fun b i hb => hg.cell_far ⟨b, i, none⟩ (by show b < _; omega) (fun e => by have := hr b e.symm; omega)
            refine ⟨a1, s1, by omega, e2, (far _ 0 (Nat.le_refl _)).trans e3, (far _ 1 (Nat.le_refl _)).trans e4, (far _ 2 (Nat.le_refl _)).trans e5, fun i => (hg.frozen_far ⟨w.heap.size, i, none⟩ hl (fun e => by have := hr _ e.symm; simp at this)).trans (e6 i), fun i hi => ?_⟩
            obtain ⟨b, off, v, f1, f2, f3, f4⟩ := e7 i hi
            exact ⟨b, off, v, f1, f2, f3, (far b _ (by omega)).trans f4⟩
          obtain ⟨c0, c1, c2, c3', c4⟩ := hrc
          clear hmv hfr hown hsc
          have hby : (ts.length + 1) * i0.bytes ≤ 8 * 1024 := Nat.mul_le_mul (by omega) hz2
          have OBJ : Hid (∀ j u, ([.string (fourT tj), .int .i64 k, .int .u64 a, .int .u64 b, .slice A3 ds.length c3] : List Value)[j]? = some u → (wq.alloc (.cells #[.string (fourT tj), .int .i64 k, .int .u64 a, .int .u64 b, .slice A3 ds.length c3] 34)).cell? ((⟨wq.heap.size, 0, none⟩ : Addr).add j) = some u) := Lib.hid (World.news_of_block (cs := #[.string (fourT tj), .int .i64 k, .int .u64 a, .int .u64 b, .slice A3 ds.length c3]) (t := 34) (fr := (0, 0)) (heap_alloc_new wq (.cells #[.string (fourT tj), .int .i64 k, .int .u64 a, .int .u64 b, .slice A3 ds.length c3] 34)))
          have ZZ : Hid (w.heap.size + 2 ≤ wr.heap.size ∧ wr.heap.size ≤ wq.heap.size) := Lib.hid ⟨hsz, MW.out.size⟩
          go_wp2_with (refine wpList_append_lies _ rfl _ _ _ rfl (w.heap.size + 1) 34 i0 _ 5 i0.bytes Tryd.underlying24 hi0 hz0 hz1 rfl rfl (by omega) (.slice A ts.length c) ts.length (rowC ts) (by rfl) (OQ.out.1.alloc _) ⟨wq.heap.size, 0, none⟩ 1 1 [.string (fourT tj), .int .i64 k, .int .u64 a, .int .u64 b, .slice A3 ds.length c3] (by rfl) (by rfl) OBJ.out (by simp [Value.oneCell']) (by omega) (by unfold maxLen; omega) (by omega) (by have := ZZ.out; simp; omega) (wq.heap.size + 1) (by simp) ?_; intro g9 cap9 w9 hown9 hgrow hat hlt9; have HO9 := Lib.hid (OR.snoc2 (r := ⟨fourT tj, k, a, b, ds⟩) (A := A3) (c := c3) HOR.out (by have := ZZ.out; omega) (by omega) MW.out (own_base HOQ.out (by omega)) (below_al (Below.refl _ _) _) hgrow hown9 (by first | exact hat | simpa using hat)); have HM9 := Lib.hid ((MX.out.al (by have := ZZ.out; omega) (.cells #[.string (fourT tj), .int .i64 k, .int .u64 a, .int .u64 b, .slice A3 ds.length c3] 34)).grown hgrow (by have := ZZ.out; simp; omega) (fun q hq => .inl (by have := (OQ.out.1.lt q hq).1; omega))); have HS9 := Lib.hid (SQ.out w9 _ (grown_trans (World.grownBy_alloc wq (.cells #[.string (fourT tj), .int .i64 k, .int .u64 a, .int .u64 b, .slice A3 ds.length c3] 34) _) hgrow) (fun q hq => by have := (OQ.out.1.lt q hq).1; omega)); have hz9 : w.heap.size + 2 ≤ w9.heap.size := (by have := ZZ.out; have := hgrow.size; simp at this; omega); clear hown9 hgrow hat)
          go_roundw
          case rel => exact ⟨i - 1, some ⟨g9, 0, none⟩, cap9, _, by simp, by first | go_num | (congr 1; omega), by simp; omega, HFN.out, by simpa using HO9.out, HM9.out, hz9, by rw [List.length_append]; exact HS9.out.le (by simp; omega)⟩
          case measure => simp [intOf]; omega
    · obtain rfl : i = 0 := by omega
      go_wp2_with fail
      go_ret
      exact ⟨A, c, ts, rfl, by omega, HFI.out, HOR.out.base (by omega), HMV.out.below (Nat.le_refl _)⟩
end Go.Proofs.YtckdbnnkabgopaaDoor
