/-
  spec.l07Load: the walk where there is a record.
-/
import Derived.Test.YtielmnkhcljmeaaDoorLo4
import Derived.Deep.DeepCutAuto
namespace Go.Proofs.YtielmnkhcljmeaaDoor
open Go Go.RowKit

theorem run_slice_at (t : TypeId) (ht : Tryd.prog.underlying t = some .string) (s v : ByteArray) (i j : Int) (h0 : 0 ≤ i) (h1 : i ≤ j) (h2 : j ≤ s.size) (hv : s.extract i.toNat j.toNat = v) (w : World) :
    (Instr.slice t (.string s) (some (.int .i64 i)) (some (.int .i64 j)) none).run Tryd.prog w = .ok (.string v) w := by
  rw [run_slice_string w t s .i64 .i64 i j ht h0 h1 h2, hv]
theorem dsL_succ (l : List UInt8) (i : Nat) : dsL l (i + 1) = dsL l i ++ [((byN l (atL l + 19 + 2 * i) : Nat) : Int) + 256 * ((byN l (atL l + 19 + 2 * i + 1) : Nat) : Int)] := by
  rw [dsL]
  congr 2
set_option maxRecDepth 100000 in
set_option maxHeartbeats 6400000 in
theorem l07Load_walk (s : ByteArray) (w : World) (hs : s.size ≤ 1048576) (at_ many : Nat) (hsz : s.size = at_ + 21 + 2 * many) (hat : 5 ≤ at_ ∧ at_ ≤ 260) (nm T v1 v2 : ByteArray) (k a b : Int) (DS : Nat → List Int) (by_ : Nat → Nat) (R : Bool) (Q : Ending → World → Prop)
    (hk : 0 ≤ k ∧ k < 256) (hb4 : (5 : Int) + (by_ 4 : Int) = (at_ : Int)) (hkk : (by_ at_ : Int) = k)
    (hIX : ∀ i (h : i < s.size), s[i].toNat = by_ i) (hTT : ∀ i, by_ i < 256)
    (hDS : ∀ i, DS (i + 1) = DS i ++ [((by_ (at_ + 19 + 2 * i) : Nat) : Int) + 256 * ((by_ (at_ + 19 + 2 * i + 1) : Nat) : Int)]) (hD0 : DS 0 = [])
    (hLG : ∀ w, Calls Tryd.prog 45 #[.string s] w (fun e w' => e = .returned (.int .i64 (s.size : Nat)) ∧ Below w.heap.size w w'))
    (hR1 : ∀ w, Calls Tryd.prog 56 #[.string v1] w (SameOut (.int .u64 a) w))
    (hR2 : ∀ w, Calls Tryd.prog 56 #[.string v2] w (SameOut (.int .u64 b) w))
    (hsA : s.extract 5 at_ = nm) (hsB : s.extract (at_ + 1) (at_ + 9) = v1) (hsC : s.extract (at_ + 9) (at_ + 17) = v2)
    (hREC : ∀ p A c w, RcAt w p nm k a b A many c → Rd w w.heap.size A (il (DS many)) → Calls Tryd.prog 29 #[.pointer (some ⟨p, 0, none⟩)] w (SameOut (.bool R) w))
    (hSTO : R = true → ∀ p A c w, RcAt w p nm k a b A many c → Rd w w.heap.size A (il (DS many)) → Calls Tryd.prog 39 #[.pointer (some ⟨p, 0, none⟩)] w (fun e w' => e = .returned (.string T) ∧ Below w.heap.size w w'))
    (hNO : (R = false ∨ T ≠ s) → ∀ W', Below w.heap.size w W' → Q (.returned (.tuple #[.agg #[.string ⟨#[]⟩, .int .i64 0, .int .u64 0, .int .u64 0, .slice none 0 0], .bool false])) W')
    (hYES : R = true → T = s → ∀ A c W', W'.ownsRow w.heap.size 2 1 (.slice A many c) many (il (DS many)) → Below w.heap.size w W' → Q (.returned (.tuple #[.agg #[.string nm, .int .i64 k, .int .u64 a, .int .u64 b, .slice A many c], .bool true])) W') :
    Calls Tryd.prog 41 #[.string s] w Q := by
  obtain ⟨i0, hi0, hz0, hz1, hz2⟩ := info_parts info_i64
  have HLG := Lib.hid hLG
  have HR1 := Lib.hid hR1
  have HR2 := Lib.hid hR2
  have HREC := Lib.hid hREC
  have HSTO := Lib.hid hSTO
  have HNO := Lib.hid hNO
  have HYES := Lib.hid hYES
  have HDS := Lib.hid hDS
  have HD0 := Lib.hid hD0
  have HIX := Lib.hid hIX
  have HTT := Lib.hid hTT
  obtain ⟨k0, k1⟩ := hk
  obtain ⟨a5, a260⟩ := hat
  have s4 : 4 < s.size := by omega
  have x4 : ((s[4]'s4).toNat : Int) = (by_ 4 : Int) := by rw [HIX.out 4 s4]
  have hatl : at_ < s.size := by omega
  have xat : (s[at_].toNat : Int) = k := by rw [HIX.out at_ hatl]; exact hkk
  have wk : IntKind.i64.wrap k = k := wi (by omega)
  obtain ⟨p1, hp1⟩ : ∃ p, p = at_ + 1 := ⟨_, rfl⟩
  obtain ⟨p9, hp9⟩ : ∃ p, p = at_ + 9 := ⟨_, rfl⟩
  obtain ⟨p17, hp17⟩ : ∃ p, p = at_ + 17 := ⟨_, rfl⟩
  have rsA : ∀ w, (Instr.slice 9 (.string s) (some (.int .i64 5)) (some (.int .i64 (at_ : Int))) none).run Tryd.prog w = .ok (.string nm) w := fun w => run_slice_at _ Tryd.underlying9 s _ _ _ (by decide) (by omega) (by omega) (by rw [← hsA]; congr 1) w
  have rsB : ∀ w, (Instr.slice 9 (.string s) (some (.int .i64 (p1 : Int))) (some (.int .i64 (p9 : Int))) none).run Tryd.prog w = .ok (.string v1) w := fun w => run_slice_at _ Tryd.underlying9 s _ _ _ (by omega) (by omega) (by omega) (by rw [← hsB, ← hp1, ← hp9]; congr 1) w
  have rsC : ∀ w, (Instr.slice 9 (.string s) (some (.int .i64 (p9 : Int))) (some (.int .i64 (p17 : Int))) none).run Tryd.prog w = .ok (.string v2) w := fun w => run_slice_at _ Tryd.underlying9 s _ _ _ (by omega) (by omega) (by omega) (by rw [← hsC, ← hp17, ← hp9]; congr 1) w
  have q1 : IntKind.i64.wrap ((at_ : Int) + 1) = (p1 : Int) := by rw [wi (by omega)]; omega
  have q9 : IntKind.i64.wrap ((at_ : Int) + 9) = (p9 : Int) := by rw [wi (by omega)]; omega
  have q17 : IntKind.i64.wrap ((at_ : Int) + 17) = (p17 : Int) := by rw [wi (by omega)]; omega
  have hne0 : ((s.size : Int) == 0) = false := beq_eq_false_iff_ne.2 (by omega)
  have HSZ := Lib.hid hsz
  clear hp1 hp9 hp17 hkk hsA hsB hsC hLG hR1 hR2 hREC hSTO hNO hYES hDS hD0 hIX hTT hsz
  unfold SameOut at HR1 HR2 HREC
  go_enter Tryd.func41, Tryd.ntmps41
  go_wp2_with fail
  generalize hW1 : World.alloc w _ = w1
  have b1 : Below w.heap.size w w1 := by rw [← hW1]; exact below_al (Below.refl _ _) _
  have k1 : B5 w1 w.heap.size (.string ⟨#[]⟩) (.int .i64 0) (.int .u64 0) (.int .u64 0) (.slice none 0 0) := by rw [← hW1]; simp [B5, go_sem]
  clear hW1
  refine (HLG.out _).mono ?_
  rintro e w2 ⟨rfl, hb2⟩
  have K2 := Lib.hid (k1.keep hb2)
  have B2 := Lib.hid (below_next b1 hb2)
  have Z2 : Hid (w.heap.size < w2.heap.size) := Lib.hid (k1.keep hb2).lt
  clear b1 hb2 k1
  go_wp2_with fail
  go_upto_region 5 with fail
  go_cut [6] (fun s6 wx => s6 = .pointer (some ⟨w2.heap.size, 0, none⟩) ∧ RB w2 w2.heap.size nm k a b 0 [] wx)
  case first =>
    go_region_held3 (fun _ => True)
      (trivial)
      (first
        | (go_at_call 56; (with_reducible refine (HR1.out _).mono ?_); rintro e w3 ⟨rfl, rfl⟩)
        | (go_at_call 56; (with_reducible refine (HR2.out _).mono ?_); rintro e w3 ⟨rfl, rfl⟩))
    all_goals
      go_wp2_with fail
      go_meet
      refine ⟨rfl, none, 0, ?_, ?_, ?_, ?_, own_nil _ _⟩
      · first | exact below_al (below_dr (Below.refl _ _)) _ | exact below_dr (below_al (Below.refl _ _) _)
      · simp
      · simp [RcAt, go_sem]
      · simp [go_sem]
  rename World => w6
  obtain ⟨rfl, hrb⟩ := hcut
  have HRB := Lib.hid hrb
  clear hrb
  go_wp2_with fail
  go_loopw [7] (fun kv wr => ∃ i kk : Nat, i ≤ many ∧ kk = at_ + 19 + 2 * i ∧ kv = .int .i64 kk ∧ RB w2 w2.heap.size nm k a b i (DS i) wr) (fun kv _ => s.size - (intOf kv).toNat)
  case atStart => exact ⟨0, at_ + 19, by omega, by omega, by go_num, by rw [HD0.out]; exact HRB.out⟩
  case round =>
    obtain ⟨i, kk, hi, hkk, rfl, hrb⟩ := hrel
    rename World => wr
    have HRB := Lib.hid hrb
    have HKK := Lib.hid hkk
    clear hrb
    by_cases hlt : i < many
    · have hsz := HSZ.out
      have lk : kk < s.size := by omega
      obtain ⟨kk1, hkk1⟩ : ∃ q, q = kk + 1 := ⟨_, rfl⟩
      have lk1 : kk1 < s.size := by omega
      have lk2 : (kk : Int) + 2 < (s.size : Int) := by omega
      have hx1 : (s[kk].toNat : Int) = (by_ kk : Int) := by rw [HIX.out kk lk]
      have hx2 : (s[kk1].toNat : Int) = (by_ kk1 : Int) := by rw [HIX.out kk1 lk1]
      have hy1 := HTT.out kk
      have hy2 := HTT.out kk1
      have q3 : IntKind.i64.wrap (kk1 : Int) = (kk1 : Int) := wi (by omega)
      have l3 : (kk1 : Int) < (s.size : Int) := by omega
      have l4 : (kk : Int) < (s.size : Int) := by omega
      have q2 : (kk : Int) + 1 = (kk1 : Int) := by omega
      have HDSi := HDS.out i
      rw [← hkk, ← hkk1] at HDSi
      generalize by_ kk = x at *
      generalize by_ kk1 = y at *
      have w1 : IntKind.i64.wrap (256 * (y : Int)) = 256 * (y : Int) := wi (by omega)
      have w2' : IntKind.i64.wrap ((x : Int) + 256 * (y : Int)) = (x : Int) + 256 * (y : Int) := wi (by omega)
      have w3' : IntKind.i64.wrap (x : Int) = (x : Int) := wi (by omega)
      have w4' : IntKind.i64.wrap (y : Int) = (y : Int) := wi (by omega)
      have hmany : many ≤ 1048576 := by omega
      have HDSi' := Lib.hid HDSi
      clear hkk hkk1 HDSi hsz
      obtain ⟨A, c, hbw, hsz, hrc, hfr, hown⟩ := HRB.out
      obtain ⟨c0, c1, c2, c3, c4⟩ := id hrc
      have cc4 : (wr.alloc (.cells #[.int .i64 ((x : Int) + 256 * (y : Int))] 2)).cell? ⟨w2.heap.size, 4, none⟩ = some (.slice A i c) := keepC (below_al (Below.refl _ _) _) c4
      go_wp2_with fail
      go_region_law (first
        | (refine step_append_lies _ (by rfl) _ _ _ (by rfl) (w2.heap.size + 1) 2 i0 _ 1 8 Tryd.underlying25 hi0 hz0 hz1 hz2 rfl (by omega) (.slice A i c) i (il (DS i)) (by rfl) ((own_below hown (below_dr (Below.refl _ _))).alloc _) ⟨wr.heap.size, 0, none⟩ 1 1 [.int .i64 ((x : Int) + 256 * (y : Int))] (by rfl) (by rfl) (World.news_of_block (cs := #[.int .i64 ((x : Int) + 256 * (y : Int))]) (t := 2) (fr := (0, 0)) (heap_alloc_new wr.drew _)) (by simp [Value.oneCell']) (by omega) (by unfold maxLen; omega) (by omega) (by simp; omega) (wr.heap.size + 1) (by simp) ?_
           intro g cap w3 hown3 hgrow hat hlt3
           obtain ⟨c4', f3, hrb3⟩ := RB_step hbw hsz hrc hfr hown (below_dr (Below.refl _ _)) hgrow hown3 HDSi'.out
           have HX := Lib.hid hrb3
           clear hrb3 hgrow hat hown3))
      all_goals
        go_wp2_with fail
        go_roundw
        case rel => exact ⟨i + 1, kk + 2, by omega, by have := HKK.out; omega, by go_num, HX.out⟩
        case measure => simp [intOf]; omega
    · obtain rfl : i = many := by omega
      have hkn : (s.size : Int) ≤ (kk : Int) + 2 := by have := HSZ.out; omega
      have hkb : kk ≤ 1048576 := by have := HSZ.out; omega
      clear hkk
      obtain ⟨A, c, hbw, hszw, hrc, hfr, hown⟩ := HRB.out
      have HO := Lib.hid hown
      have HRC := Lib.hid hrc
      have HB := Lib.hid (B2.out.trans (hbw.mono B2.out.size))
      have HBOX := Lib.hid (K2.out.keep hbw)
      have HRECi := Lib.hid (HREC.out _ A c wr hrc (Rd.of_own hown))
      have HSTOi := Lib.hid fun hr => HSTO.out hr _ A c wr hrc (Rd.of_own hown)
      clear hbw hszw hrc hfr hown HREC HSTO HDS HRB
      cases R with
      | false =>
        have HN := Lib.hid fun W' hW => HNO.out (.inl rfl) W' hW
        obtain ⟨⟨e0, e1, e2, e3, e4⟩, ef⟩ := HBOX.out
        go_wp2_with fail
        refine HRECi.out.mono ?_
        rintro e w7 ⟨rfl, rfl⟩
        go_wp2_with fail
        refine bodyPost_ret (v := .tuple #[.agg #[.string ⟨#[]⟩, .int .i64 0, .int .u64 0, .int .u64 0, .slice none 0 0], .bool false]) (by simp [results, Tryd.results41, go_sem, e0, e1, e2, e3, e4]) rfl (HN.out _ ?_)
        repeat (first | (with_reducible exact HB.out) | (with_reducible refine below_set ?_ _ _ (by simp; try omega)))
      | true =>
        by_cases hts : T = s
        · subst hts
          have HY := Lib.hid fun A c W' h1 h2 => HYES.out rfl rfl A c W' h1 h2
          go_wp2_with fail
          refine HRECi.out.mono ?_
          rintro e w7 ⟨rfl, rfl⟩
          go_wp2_with fail
          refine (HSTOi.out (by first | rfl | trivial | simp)).mono ?_
          rintro e w8 ⟨rfl, hb8⟩
          have HRC8 := HRC.out.keep hb8
          have HBX8 := HBOX.out.keep hb8
          have HO8 := Lib.hid (own_below HO.out hb8)
          have HB8 := Lib.hid (below_next HB.out hb8)
          have hlt8 := HBX8.lt
          clear hb8
          obtain ⟨d0, d1, d2, d3, d4⟩ := HRC8
          obtain ⟨⟨e0, e1, e2, e3, e4⟩, ef⟩ := HBX8
          go_wp2_with fail
          refine bodyPost_ret (v := .tuple #[.agg #[.string nm, .int .i64 k, .int .u64 a, .int .u64 b, .slice A i c], .bool true]) (by simp [results, Tryd.results41, go_sem, e0, e1, e2, e3, e4]) rfl (HY.out A c _ ?_ ?_)
          · refine own_base (base := w2.heap.size + 1) ?_ (by have := Z2.out; omega)
            repeat (first | (with_reducible exact HO8.out) | (with_reducible refine ownsRow_setCell_below ?_ (by have := Z2.out; simp; try omega) _))
          · repeat (first | (with_reducible exact HB8.out) | (with_reducible refine below_set ?_ _ _ (by simp; try omega)))
        · have HN := Lib.hid fun W' hW => HNO.out (.inr hts) W' hW
          have hne : (T.toList == s.toList) = false := by
            rw [Lib.toList_data, Lib.toList_data]
            exact beq_eq_false_iff_ne.2 fun e => hts (WideShapes.bytes_inj (by rw [e]))
          clear hts
          go_wp2_with fail
          refine HRECi.out.mono ?_
          rintro e w7 ⟨rfl, rfl⟩
          go_wp2_with fail
          refine (HSTOi.out (by first | rfl | trivial | simp)).mono ?_
          rintro e w8 ⟨rfl, hb8⟩
          have HBX8 := HBOX.out.keep hb8
          have HB8 := Lib.hid (below_next HB.out hb8)
          clear hb8
          obtain ⟨⟨e0, e1, e2, e3, e4⟩, ef⟩ := HBX8
          go_wp2_with fail
          refine bodyPost_ret (v := .tuple #[.agg #[.string ⟨#[]⟩, .int .i64 0, .int .u64 0, .int .u64 0, .slice none 0 0], .bool false]) (by simp [results, Tryd.results41, go_sem, e0, e1, e2, e3, e4]) rfl (HN.out _ ?_)
          repeat (first | (with_reducible exact HB8.out) | (with_reducible refine below_set ?_ _ _ (by simp; try omega)))
end Go.Proofs.YtielmnkhcljmeaaDoor
