/-
  impl.firstRecord: the walk where the bytes hold a head and its numbers.
-/
import Derived.Test.YtckdbnnkabgopaaDoorLo6
import Derived.BigQuiet
import Derived.Deep.QuietTactic
namespace Go.Proofs.YtckdbnnkabgopaaDoor
open Go Go.RowKit

/-- bytes lie in block g -/
def BY (s : ByteArray) (g : Nat) (W : World) : Prop := g < W.heap.size ∧ ∀ i (h : i < s.size), W.cell? ⟨g, i, none⟩ = some (.int .u8 (s[i].toNat : Nat))
theorem BY.keep {s : ByteArray} {g : Nat} {W W' : World} (h : BY s g W) (hb : Below W.heap.size W W') : BY s g W' := ⟨Nat.lt_of_lt_of_le h.1 hb.size, fun i hi => keepC hb (h.2 i hi)⟩
theorem BY.rd {s : ByteArray} {g : Nat} {W : World} (h : BY s g W) : Rd W W.heap.size (some ⟨g, 0, none⟩) (bc s.data.toList) := fun _ => by
  refine ⟨g, 0, rfl, h.1, fun j hj => ?_⟩
  rw [bc_len, ← Lib.size_eq] at hj
  rw [Nat.zero_add, h.2 j hj]
  simp [bc]
  rfl
theorem BY.new {s : ByteArray} {w : World} {e : TypeId} {fr : Nat × Nat} {c : Nat} : BY s w.heap.size (w.alloc (.cells (bytesRow s c) e fr)) := by
  refine ⟨by simp, fun i hi => ?_⟩
  have h := bytes_new w s e fr c i (.int .u8 (s[i].toNat : Nat)) (by unfold bc; rw [List.getElem?_map, List.getElem?_eq_getElem (by rw [← Lib.size_eq]; exact hi)]; rfl)
  have hadd : (⟨w.heap.size, 0, none⟩ : Addr).add i = ⟨w.heap.size, i, none⟩ := by unfold Addr.add; split <;> simp_all
  rw [hadd] at h
  exact h
set_option maxRecDepth 100000 in
set_option maxHeartbeats 6400000 in
theorem firstRecord_walk (s : ByteArray) (w : World) (hs : s.size ≤ 1048576) (at_ many : Nat) (hsz : at_ + 19 ≤ s.size) (hat : 5 ≤ at_ ∧ at_ ≤ 260) (hmany : many ≤ 65535) (nm T P : ByteArray) (k a b : Int) (DS : Nat → List Int) (X : Nat → Nat) (by_ : Nat → Nat) (R : Bool) (Q : Ending → World → Prop)
    (hk : 0 ≤ k ∧ k < 256) (hb4 : (5 : Int) + (by_ 4 : Int) = (at_ : Int)) (hkk : (by_ at_ : Int) = k)
    (hIX : ∀ i (h : i < s.size), s[i].toNat = by_ i) (hTT : ∀ i, by_ i < 256)
    (hDS : ∀ i, DS (i + 1) = DS i ++ [(X i : Int)]) (hXX : ∀ i, X i < 65536) (hD0 : DS 0 = [])
    (hNA : ∀ g c W, BY s g W → Calls Tryd.prog 31 #[.slice (some ⟨g, 0, none⟩) s.size c, .int .i64 (at_ + 1 : Nat), .int .i64 8] W (SameOut (.int .u64 a) W))
    (hNB : ∀ g c W, BY s g W → Calls Tryd.prog 31 #[.slice (some ⟨g, 0, none⟩) s.size c, .int .i64 (at_ + 9 : Nat), .int .i64 8] W (SameOut (.int .u64 b) W))
    (hNM : ∀ g c W, BY s g W → Calls Tryd.prog 31 #[.slice (some ⟨g, 0, none⟩) s.size c, .int .i64 (at_ + 17 : Nat), .int .i64 2] W (SameOut (.int .u64 many) W))
    (hND : at_ + 19 + 2 * many ≤ s.size → ∀ i, i < many → ∀ g c W, BY s g W → Calls Tryd.prog 31 #[.slice (some ⟨g, 0, none⟩) s.size c, .int .i64 (at_ + 19 + 2 * i : Nat), .int .i64 2] W (SameOut (.int .u64 (X i)) W))
    (hsA : s.extract 5 at_ = nm) (hsP : at_ + 21 + 2 * many ≤ s.size → s.extract 0 (at_ + 21 + 2 * many) = P)
    (hREC : ∀ A c w, Rd w w.heap.size A (il (DS many)) → Calls Tryd.prog 8 #[.agg #[.string nm, .int .i64 k, .int .u64 a, .int .u64 b, .slice A many c]] w (BoolOut R w))
    (hSTO : R = true → ∀ A c w, Rd w w.heap.size A (il (DS many)) → Calls Tryd.prog 17 #[.agg #[.string nm, .int .i64 k, .int .u64 a, .int .u64 b, .slice A many c]] w (fun e w' => e = .returned (.string T) ∧ Below w.heap.size w w'))
    (hNO : (s.size < at_ + 21 + 2 * many ∨ R = false ∨ T ≠ P) → ∀ W', Below w.heap.size w W' → Q (.returned (.tuple #[.agg #[.string ⟨#[]⟩, .int .i64 0, .int .u64 0, .int .u64 0, .slice none 0 0], .int .i64 0, .bool false])) W')
    (hYES : at_ + 21 + 2 * many ≤ s.size → R = true → T = P → ∀ A c W', W'.ownsRow w.heap.size 2 1 (.slice A many c) many (il (DS many)) → Below w.heap.size w W' → Q (.returned (.tuple #[.agg #[.string nm, .int .i64 k, .int .u64 a, .int .u64 b, .slice A many c], .int .i64 (at_ + 21 + 2 * many : Nat), .bool true])) W') :
    Calls Tryd.prog 18 #[.string s] w Q := by
  obtain ⟨i0, hi0, hz0, hz1, hz2⟩ := info_parts info_i64
  have HNA := Lib.hid hNA
  have HNB := Lib.hid hNB
  have HNM := Lib.hid hNM
  have HND := Lib.hid hND
  have HREC := Lib.hid hREC
  have HSTO := Lib.hid hSTO
  have HNO := Lib.hid hNO
  have HYES := Lib.hid hYES
  have HDS := Lib.hid hDS
  have HD0 := Lib.hid hD0
  have HIX := Lib.hid hIX
  have HTT := Lib.hid hTT
  have HXX := Lib.hid hXX
  obtain ⟨k0, k1⟩ := hk
  obtain ⟨a5, a260⟩ := hat
  have s4 : 4 < s.size := by omega
  have x4 : ((s[4]'s4).toNat : Int) = (by_ 4 : Int) := by rw [HIX.out 4 s4]
  have hatl : at_ < s.size := by omega
  have xat : (s[at_].toNat : Int) = k := by rw [HIX.out at_ hatl]; exact hkk
  have wk : IntKind.i64.wrap k = k := wi (by omega)
  have h24 : ¬ (s.size : Int) < 24 + (by_ 4 : Int) := by omega
  have hs5 : ¬ (s.size : Int) < 5 := by omega
  have hT4 := HTT.out 4
  have HSZ0 := Lib.hid hsz
  have HSP := Lib.hid hsP
  have kb := fun (W : World) => run_bytes_of_string (P := Tryd.prog) W 9 22 5 s Tryd.underlying9 Tryd.underlying22 Tryd.underlying5
  clear hNA hNB hNM hND hREC hSTO hNO hYES hDS hD0 hIX hTT hXX hsz hsP hkk
  go_enter Tryd.func18, Tryd.ntmps18
  go_upto_region 2 with fail
  have hcl := grownCap_ge (w.alloc (.cells #[.string ⟨#[]⟩, .int .i64 0, .int .u64 0, .int .u64 0, .slice none 0 0] 34)) s.size 0 5
  generalize hcap : grownCap _ _ _ _ = cap at *
  generalize hW1 : World.drew _ = w1
  have b1 : Below w.heap.size w w1 := by rw [← hW1]; exact below_dr (below_al (below_al (Below.refl _ _) _) _)
  have Y1 : BY s (w.heap.size + 1) w1 := by
    rw [← hW1]
    have h := BY.new (s := s) (w := w.alloc (.cells #[.string ⟨#[]⟩, .int .i64 0, .int .u64 0, .int .u64 0, .slice none 0 0] 34)) (e := 5) (c := cap) (fr := ((bytesRow s cap).size, (bytesRow s cap).size + 1))
    rw [World.size_alloc] at h
    exact h
  have k1 : B5 w1 w.heap.size (.string ⟨#[]⟩) (.int .i64 0) (.int .u64 0) (.int .u64 0) (.slice none 0 0) := by rw [← hW1]; simp [B5, go_sem]
  have Z1 : w1.heap.size = w.heap.size + 2 := by rw [← hW1]; simp
  clear hW1 hcap
  have HZ1 := Lib.hid Z1
  clear Z1
  have K1 := Lib.hid k1
  have B1 := Lib.hid b1
  have YY := Lib.hid Y1
  have c4 := Y1.2 4 s4
  have cat := Y1.2 at_ hatl
  rw [x4] at c4
  rw [xat] at cat
  clear b1 k1 Y1
  have hcv : (convert 22 9 (.slice (some ⟨w.heap.size + 1, 5, none⟩) (at_ - 5) (cap - 5))).run Tryd.prog w1 = .ok (.string nm) w1 := by
    have h := run_convert_bytes_back (P := Tryd.prog) w1 22 9 5 ⟨w.heap.size + 1, 5, none⟩ (cap - 5) nm.data.toList Tryd.underlying22 Tryd.underlying5 Tryd.underlying9 (fun q hq => by
      have hnl : nm.data.toList.length = at_ - 5 := by rw [← hsA, ext_bytes, List.length_take, List.length_drop, ← Lib.size_eq]; omega
      have hadd : (⟨w.heap.size + 1, 5, none⟩ : Addr).add q = ⟨w.heap.size + 1, 5 + q, none⟩ := by unfold Addr.add; split <;> simp_all
      rw [hadd, YY.out.2 (5 + q) (by omega)]
      simp only [← hsA, ext_bytes]
      rw [List.getElem_take, List.getElem_drop]
      rfl)
    have hnl : nm.data.toList.length = at_ - 5 := by rw [← hsA, ext_bytes, List.length_take, List.length_drop, ← Lib.size_eq]; omega
    rw [hnl] at h
    exact h
  have hc5 : (5 : Int) ≤ (at_ : Int) := by omega
  have hc6 : (at_ : Int) ≤ (cap : Int) := by omega
  clear hsA
  obtain ⟨p1, hp1⟩ : ∃ p, p = at_ + 1 := ⟨_, rfl⟩
  obtain ⟨p9, hp9⟩ : ∃ p, p = at_ + 9 := ⟨_, rfl⟩
  obtain ⟨p17, hp17⟩ : ∃ p, p = at_ + 17 := ⟨_, rfl⟩
  rw [← hp1] at HNA
  rw [← hp9] at HNB
  rw [← hp17] at HNM
  have q1 : IntKind.i64.wrap ((at_ : Int) + 1) = (p1 : Int) := by rw [wi (by omega)]; omega
  have q9 : IntKind.i64.wrap ((at_ : Int) + 9) = (p9 : Int) := by rw [wi (by omega)]; omega
  have q17 : IntKind.i64.wrap ((at_ : Int) + 17) = (p17 : Int) := by rw [wi (by omega)]; omega
  have q17' : (at_ : Int) + 17 = (p17 : Int) := by omega
  clear hp1 hp9 hp17
  unfold SameOut at HNA HNB HNM HND
  go_wp2_with fail
  generalize hW2 : World.alloc w1 _ = w2
  have YY2 := Lib.hid (YY.out.keep (W' := w2) (by rw [← hW2]; exact below_al (Below.refl _ _) _))
  have R2 : RB w1 w1.heap.size nm 0 0 0 0 [] w2 := by
    rw [← hW2]
    exact ⟨none, 0, below_al (Below.refl _ _) _, by simp, by simp [RcAt, go_sem], by simp [go_sem], own_nil _ _⟩
  have hgp : w.heap.size + 1 < w1.heap.size := by have := HZ1.out; omega
  have hl2 : w1.heap.size < w2.heap.size := by rw [← hW2]; simp
  clear hW2 c4 cat
  have cat := YY2.out.2 at_ hatl
  rw [xat] at cat
  have HR2 := Lib.hid R2
  obtain ⟨A2, d2, bw2, sz2, rc2, fr2, ow2⟩ := R2
  obtain ⟨r0, r1, r2, r3, r4⟩ := id rc2
  have HRC2 := Lib.hid rc2
  clear bw2 sz2 ow2 rc2
  go_cut [] (fun wx => RB w1 w1.heap.size nm k a b 0 [] wx)
  case first =>
    go_region_held3 (fun W => W.cell? ⟨w.heap.size + 1, at_, none⟩ = some (.int .u8 k))
      (first | exact cat | (exact (World.cell?_setCell_other _ _ _ _ (fun h => by injection h with h1 h2; omega)).trans ((World.cell?_setCell_other _ _ _ _ (fun h => by injection h with h1 h2; omega)).trans ((World.cell?_setCell_other _ _ _ _ (fun h => by injection h with h1 h2; omega)).trans cat))))
      (first
        | (go_at_call 31; (with_reducible refine (HNB.out _ _ w2.drew YY2.out).mono ?_); rintro e w3 ⟨rfl, rfl⟩)
        | (go_at_call 31; (with_reducible refine (HNA.out _ _ w2.drew YY2.out).mono ?_); rintro e w3 ⟨rfl, rfl⟩))
    all_goals
      go_wp2_with fail
      go_meet
      obtain ⟨A3, d3, bw3, sz3, rc3, fr3, ow3⟩ := HR2.out
      obtain ⟨t0, t1, t2, t3, t4⟩ := rc3
      refine ⟨A3, d3, below_set (below_set (below_set (below_dr bw3) _ _ (Nat.le_refl _)) _ _ (Nat.le_refl _)) _ _ (Nat.le_refl _), ?_, ?_, ?_, ?_⟩
      · simp [World.setCell]; omega
      · simp [RcAt, go_sem, t0, t1, t2, t3, t4]
      · simp [go_sem, fr3]
      · refine own_below ?_ (below_dr (Below.refl _ _))
        repeat (first | (with_reducible exact ow3) | (with_reducible refine ownsRow_setCell_below ?_ (by simp) _))
  rename World => w4
  have HRB4 := Lib.hid hcut
  have YY4 := Lib.hid (YY.out.keep (by obtain ⟨_, _, h, _⟩ := hcut; exact h))
  have hmw : IntKind.i64.wrap (many : Int) = (many : Int) := wi (by omega)
  clear hcut HR2 HRC2 r0 r1 r2 r3 r4 fr2 cat
  by_cases hshort : s.size < at_ + 19 + 2 * many
  · have hend : (s.size : Int) < (at_ : Int) + 19 + 2 * (many : Int) := by omega
    have HN := Lib.hid fun W' hW => HNO.out (.inl (by omega)) W' hW
    obtain ⟨A0, d0, bw0, _⟩ := HRB4.out
    have HB0 := Lib.hid (B1.out.trans (bw0.mono B1.out.size))
    obtain ⟨⟨e0, e1, e2, e3, e4⟩, ef⟩ := K1.out.keep bw0
    clear bw0 hshort
    go_wp2_with fail
    refine (HNM.out _ _ _ YY4.out).mono ?_
    rintro e w5 ⟨rfl, rfl⟩
    go_wp2_with fail
    refine bodyPost_ret (v := .tuple #[.agg #[.string ⟨#[]⟩, .int .i64 0, .int .u64 0, .int .u64 0, .slice none 0 0], .int .i64 0, .bool false]) (by simp [results, Tryd.results18, go_sem, e0, e1, e2, e3, e4]) rfl (HN.out _ ?_)
    repeat (first | (with_reducible exact HB0.out) | (with_reducible refine below_set ?_ _ _ (by simp; try omega)))
  have HSZ : Hid (at_ + 19 + 2 * many ≤ s.size) := Lib.hid (by omega)
  have hend : ¬ (s.size : Int) < (at_ : Int) + 19 + 2 * (many : Int) := by omega
  clear hshort
  go_wp2_with fail
  refine (HNM.out _ _ _ YY4.out).mono ?_
  rintro e w5 ⟨rfl, rfl⟩
  go_wp2_with fail
  go_loopw [10] (fun kv wr => ∃ i kk : Nat, i ≤ many ∧ kk = at_ + 19 + 2 * i ∧ kv = .int .i64 kk ∧ RB w1 w1.heap.size nm k a b i (DS i) wr) (fun kv _ => s.size - (intOf kv).toNat)
  case atStart => exact ⟨0, at_ + 19, by omega, by omega, by go_num, by rw [HD0.out]; exact HRB4.out⟩
  case round =>
    obtain ⟨i, kk, hi, hkk, rfl, hrb⟩ := hrel
    rename World => wr
    have HRB := Lib.hid hrb
    have HKK := Lib.hid hkk
    clear hrb
    by_cases hlt : i < many
    · have hsz := HSZ.out
      have lk : kk < s.size := by omega
      have lk2 : (kk : Int) < (at_ : Int) + 19 + 2 * (many : Int) := by omega
      have HNDi := Lib.hid fun g c W h => HND.out HSZ.out i hlt g c W h
      rw [← hkk] at HNDi
      have HDSi := HDS.out i
      have hX := HXX.out i
      generalize X i = x at *
      have w3' : IntKind.i64.wrap (x : Int) = (x : Int) := wi (by omega)
      have HDSi' := Lib.hid HDSi
      clear hkk HDSi hsz
      obtain ⟨A, c, hbw, hszw, hrc, hfr, hown⟩ := HRB.out
      obtain ⟨c0, c1, c2, c3, c4⟩ := id hrc
      have cc4 : (wr.alloc (.cells #[.int .i64 (x : Int)] 2)).cell? ⟨w1.heap.size, 4, none⟩ = some (.slice A i c) := keepC (below_al (Below.refl _ _) _) c4
      have YYr := Lib.hid (YY.out.keep hbw)
      go_wp2_with fail
      go_region_law (first
        | (refine step_append_lies _ (by rfl) _ _ _ (by rfl) (w1.heap.size + 1) 2 i0 _ 1 8 Tryd.underlying32 hi0 hz0 hz1 hz2 rfl (by omega) (.slice A i c) i (il (DS i)) (by rfl) ((own_below hown (below_dr (Below.refl _ _))).alloc _) ⟨wr.heap.size, 0, none⟩ 1 1 [.int .i64 (x : Int)] (by rfl) (by rfl) (World.news_of_block (cs := #[.int .i64 (x : Int)]) (t := 2) (fr := (0, 0)) (heap_alloc_new wr.drew _)) (by simp [Value.oneCell']) (by omega) (by unfold maxLen; omega) (by omega) (by simp; omega) (wr.heap.size + 1) (by simp) ?_
           intro g cap3 w3 hown3 hgrow hat hlt3
           obtain ⟨c4', f3, hrb3⟩ := RB_step hbw hszw hrc hfr hown (below_dr (Below.refl _ _)) hgrow hown3 HDSi'.out
           have HX := Lib.hid hrb3
           clear hrb3 hgrow hat hown3)
        | (go_simp; go_at_call 31; refine (HNDi.out _ _ wr.drew YYr.out).mono ?_; rintro e w3 ⟨rfl, rfl⟩))
      all_goals
        go_wp2_with fail
        go_roundw
        case rel => exact ⟨i + 1, kk + 2, by omega, by have := HKK.out; omega, by go_num, HX.out⟩
        case measure => simp [intOf]; omega
    · obtain rfl : i = many := by omega
      have hkn : ¬ (kk : Int) < (at_ : Int) + 19 + 2 * (i : Int) := by omega
      have hkb : kk ≤ 1048576 := by have := HSZ.out; omega
      clear hkk
      obtain ⟨A, c, hbw, hszw, hrc, hfr, hown⟩ := HRB.out
      have HO := Lib.hid hown
      have HRC := Lib.hid hrc
      have HB := Lib.hid (B1.out.trans (hbw.mono B1.out.size))
      have HBOX := Lib.hid (K1.out.keep hbw)
      have HRECi := Lib.hid fun W (hW : Below wr.heap.size wr W) => HREC.out A c W ((Rd.of_own hown).at_ hW)
      have HSTOi := Lib.hid fun hr W (hW : Below wr.heap.size wr W) => HSTO.out hr A c W ((Rd.of_own hown).at_ hW)
      clear hbw hszw hrc hfr hown HREC HSTO HDS HRB HND HNA HNB HNM
      obtain ⟨E, hE⟩ : ∃ E, E = at_ + 21 + 2 * i := ⟨_, rfl⟩
      have qE : IntKind.i64.wrap ((at_ : Int) + 19 + 2 * (i : Int) + 2) = (E : Int) := by rw [wi (by omega)]; omega
      have qE2 : (at_ : Int) + 19 + 2 * (i : Int) + 2 = (E : Int) := by omega
      have qE3 : IntKind.i64.wrap (E : Int) = (E : Int) := wi (by omega)
      rw [← hE] at HNO HYES HSP
      have HM : Hid (∀ W, Below wr.heap.size wr W → W.cell? ⟨w1.heap.size, 0, none⟩ = some (.string nm) ∧ W.cell? ⟨w1.heap.size, 1, none⟩ = some (.int .i64 k) ∧ W.cell? ⟨w1.heap.size, 2, none⟩ = some (.int .u64 a) ∧ W.cell? ⟨w1.heap.size, 3, none⟩ = some (.int .u64 b) ∧ W.cell? ⟨w1.heap.size, 4, none⟩ = some (.slice A i c)) := Lib.hid fun W hW => HRC.out.keep hW
      clear hE
      unfold BoolOut at HRECi
      by_cases hbig : s.size < E
      · have hbi : (s.size : Int) < (E : Int) := by omega
        have hbd : decide ((s.size : Int) < (E : Int)) = true := decide_eq_true hbi
        have HN := Lib.hid fun W' hW => HNO.out (.inl hbig) W' hW
        obtain ⟨⟨e0, e1, e2, e3, e4⟩, ef⟩ := HBOX.out
        go_wp2_with fail
        go_quiet (fail)
        go_wp2_with fail
        refine bodyPost_ret (v := .tuple #[.agg #[.string ⟨#[]⟩, .int .i64 0, .int .u64 0, .int .u64 0, .slice none 0 0], .int .i64 0, .bool false]) (by simp [results, Tryd.results18, go_sem, e0, e1, e2, e3, e4]) rfl (HN.out _ ?_)
        repeat (first | (with_reducible exact HB.out) | (with_reducible refine below_set ?_ _ _ (by simp; try omega)) | (with_reducible refine below_dn ?_ _))
      · have hbi : ¬ (s.size : Int) < (E : Int) := by omega
        have hbd : decide ((s.size : Int) < (E : Int)) = false := decide_eq_false hbi
        have hsl : ∀ w, (Instr.slice 9 (.string s) none (some (.int .i64 (E : Int))) none).run Tryd.prog w = .ok (.string P) w := fun w => by
          rw [run_slice_string_to_if (P := Tryd.prog) (w := w) (t := 9) (s := s) (k := .i64) (j := (E : Int)) Tryd.underlying9, if_pos ⟨by omega, by omega⟩, ← HSP.out (by omega)]
          rfl
        cases R with
        | false =>
          have HN := Lib.hid fun W' hW => HNO.out (.inr (.inl rfl)) W' hW
          obtain ⟨m0, m1, m2, m3, m4⟩ := HM.out wr (Below.refl _ _)
          go_wp2_with fail
          refine wp_region_held_drew (S := (fun W => W.cell? ⟨w1.heap.size, 0, none⟩ = some (.string nm) ∧ W.cell? ⟨w1.heap.size, 1, none⟩ = some (.int .i64 k) ∧ W.cell? ⟨w1.heap.size, 2, none⟩ = some (.int .u64 a) ∧ W.cell? ⟨w1.heap.size, 3, none⟩ = some (.int .u64 b) ∧ W.cell? ⟨w1.heap.size, 4, none⟩ = some (.slice A i c))) (by kernel_rfl) (by first | exact HM.out _ (below_dr (Below.refl _ _)) | exact HM.out _ bk7) (fun hHeld => ?_)
          refine wpAnyH_take (i := 0) (v := ?_) rfl (by kernel_rfl) (by kernel_rfl) (by kernel_rfl) (fun _ _ _ h => h) (Or.inl ⟨by rfl, ?_⟩) (by assumption) ?_
          rotate_left
          · intro wS hSw; (try dsimp only at hSw); go_simp; (try (with_reducible rfl))
          (try simp only [Act.put, List.getElem_toArray, List.getElem_cons_zero, List.getElem_cons_succ, List.setIfInBounds_toArray, List.set_cons_zero, List.set_cons_succ])
          refine wpAnyH_take (i := 1) (v := ?_) rfl (by kernel_rfl) (by kernel_rfl) (by kernel_rfl) (fun _ _ _ h => h) (Or.inl ⟨by rfl, ?_⟩) (by assumption) ?_
          rotate_left
          · intro wS hSw; (try dsimp only at hSw); go_simp; (try (with_reducible rfl))
          (try simp only [Act.put, List.getElem_toArray, List.getElem_cons_zero, List.getElem_cons_succ, List.setIfInBounds_toArray, List.set_cons_zero, List.set_cons_succ])
          refine wpAnyH_take (i := 2) (v := ?_) rfl (by kernel_rfl) (by kernel_rfl) (by kernel_rfl) (fun _ _ _ h => h) (Or.inl ⟨by rfl, ?_⟩) (by assumption) ?_
          rotate_left
          · intro wS hSw; (try dsimp only at hSw); go_simp; (try (with_reducible rfl))
          (try simp only [Act.put, List.getElem_toArray, List.getElem_cons_zero, List.getElem_cons_succ, List.setIfInBounds_toArray, List.set_cons_zero, List.set_cons_succ])
          refine wpAnyH_take (i := 3) (v := ?_) rfl (by kernel_rfl) (by kernel_rfl) (by kernel_rfl) (fun _ _ _ h => h) (Or.inl ⟨by rfl, ?_⟩) (by assumption) ?_
          rotate_left
          · intro wS hSw; (try dsimp only at hSw); go_simp; (try (with_reducible rfl))
          (try simp only [Act.put, List.getElem_toArray, List.getElem_cons_zero, List.getElem_cons_succ, List.setIfInBounds_toArray, List.set_cons_zero, List.set_cons_succ])
          refine wpAnyH_take (i := 4) (v := ?_) rfl (by kernel_rfl) (by kernel_rfl) (by kernel_rfl) (fun _ _ _ h => h) (Or.inl ⟨by rfl, ?_⟩) (by assumption) ?_
          rotate_left
          · intro wS hSw; (try dsimp only at hSw); go_simp; (try (with_reducible rfl))
          (try simp only [Act.put, List.getElem_toArray, List.getElem_cons_zero, List.getElem_cons_succ, List.setIfInBounds_toArray, List.set_cons_zero, List.set_cons_succ])
          refine wpAnyH_take (i := 5) (v := ?_) rfl (by kernel_rfl) (by kernel_rfl) (by kernel_rfl) (fun _ _ _ h => h) (Or.inl ⟨by rfl, ?_⟩) (by assumption) ?_
          rotate_left
          · intro wS hSw; (try dsimp only at hSw); go_simp; (try (with_reducible rfl))
          (try simp only [Act.put, List.getElem_toArray, List.getElem_cons_zero, List.getElem_cons_succ, List.setIfInBounds_toArray, List.set_cons_zero, List.set_cons_succ])
          refine wpAnyH_take (i := 6) (v := ?_) rfl (by kernel_rfl) (by kernel_rfl) (by kernel_rfl) (fun _ _ _ h => h) (Or.inl ⟨by rfl, ?_⟩) (by assumption) ?_
          rotate_left
          · intro wS hSw; (try dsimp only at hSw); go_simp; (try (with_reducible rfl))
          (try simp only [Act.put, List.getElem_toArray, List.getElem_cons_zero, List.getElem_cons_succ, List.setIfInBounds_toArray, List.set_cons_zero, List.set_cons_succ])
          refine wpAnyH_ready (rs := [7]) (by kernel_rfl) (by simp) ?_
          refine AllReadyH.cons (o := _) rfl (fun K hK => ?_) AllReadyH.nil
          (try simp only [List.getElem_toArray, List.getElem_cons_zero, List.getElem_cons_succ])
          go_simp
          (go_at_call 8; refine (HRECi.out _ (below_dr (Below.refl _ _))).mono ?_; rintro e w7 ⟨rfl, hb7⟩; have bk7 : Below wr.heap.size wr w7 := below_next (below_dr (Below.refl _ _)) hb7; clear hb7)
          refine hK.out _ _ (by first | exact HM.out _ (below_dr (Below.refl _ _)) | exact HM.out _ bk7) (fun hHeld2 => ?_)
          clear hK K hHeld
          have hHeld := hHeld2
          clear hHeld2
          (try simp only [Act.put, List.getElem_toArray, List.getElem_cons_zero, List.getElem_cons_succ, List.setIfInBounds_toArray, List.set_cons_zero, List.set_cons_succ])
          refine wpAnyH_take (i := 8) (v := ?_) rfl (by kernel_rfl) (by kernel_rfl) (by kernel_rfl) (fun _ _ _ h => h) (Or.inl ⟨by rfl, ?_⟩) (by assumption) ?_
          rotate_left
          · intro wS hSw; (try dsimp only at hSw); go_simp; (try (with_reducible rfl))
          (try simp only [Act.put, List.getElem_toArray, List.getElem_cons_zero, List.getElem_cons_succ, List.setIfInBounds_toArray, List.set_cons_zero, List.set_cons_succ])
          refine wpAnyH_take (i := 9) (v := ?_) rfl (by kernel_rfl) (by kernel_rfl) (by kernel_rfl) (fun _ _ _ h => h) (Or.inl ⟨by rfl, ?_⟩) (by assumption) ?_
          rotate_left
          · intro wS hSw; (try dsimp only at hSw); go_simp; (try (with_reducible rfl))
          (try simp only [Act.put, List.getElem_toArray, List.getElem_cons_zero, List.getElem_cons_succ, List.setIfInBounds_toArray, List.set_cons_zero, List.set_cons_succ])
          refine wpAnyH_take (i := 10) (v := ?_) rfl (by kernel_rfl) (by kernel_rfl) (by kernel_rfl) (fun _ _ _ h => h) (Or.inl ⟨by rfl, ?_⟩) (by assumption) ?_
          rotate_left
          · intro wS hSw; (try dsimp only at hSw); go_simp; (try (with_reducible rfl))
          (try simp only [Act.put, List.getElem_toArray, List.getElem_cons_zero, List.getElem_cons_succ, List.setIfInBounds_toArray, List.set_cons_zero, List.set_cons_succ])
          refine wpAnyH_take (i := 11) (v := undef) rfl (by kernel_rfl) (by kernel_rfl) (by kernel_rfl) (fun _ _ _ h => h) (Or.inr ⟨by rfl, rfl⟩) (by assumption) ?_
          (try simp only [Act.put, List.getElem_toArray, List.getElem_cons_zero, List.getElem_cons_succ, List.setIfInBounds_toArray, List.set_cons_zero, List.set_cons_succ])
          refine wpAnyH_take (i := 12) (v := undef) rfl (by kernel_rfl) (by kernel_rfl) (by kernel_rfl) (fun _ _ _ h => h) (Or.inr ⟨by rfl, rfl⟩) (by assumption) ?_
          (try simp only [Act.put, List.getElem_toArray, List.getElem_cons_zero, List.getElem_cons_succ, List.setIfInBounds_toArray, List.set_cons_zero, List.set_cons_succ])
          refine wpAnyH_take (i := 13) (v := undef) rfl (by kernel_rfl) (by kernel_rfl) (by kernel_rfl) (fun _ _ _ h => h) (Or.inr ⟨by rfl, rfl⟩) (by assumption) ?_
          (try simp only [Act.put, List.getElem_toArray, List.getElem_cons_zero, List.getElem_cons_succ, List.setIfInBounds_toArray, List.set_cons_zero, List.set_cons_succ])
          refine wpAnyH_take (i := 14) (v := undef) rfl (by kernel_rfl) (by kernel_rfl) (by kernel_rfl) (fun _ _ _ h => h) (Or.inr ⟨by rfl, rfl⟩) (by assumption) ?_
          (try simp only [Act.put, List.getElem_toArray, List.getElem_cons_zero, List.getElem_cons_succ, List.setIfInBounds_toArray, List.set_cons_zero, List.set_cons_succ])
          refine wpAnyH_take (i := 15) (v := undef) rfl (by kernel_rfl) (by kernel_rfl) (by kernel_rfl) (fun _ _ _ h => h) (Or.inr ⟨by rfl, rfl⟩) (by assumption) ?_
          (try simp only [Act.put, List.getElem_toArray, List.getElem_cons_zero, List.getElem_cons_succ, List.setIfInBounds_toArray, List.set_cons_zero, List.set_cons_succ])
          refine wpAnyH_take (i := 16) (v := undef) rfl (by kernel_rfl) (by kernel_rfl) (by kernel_rfl) (fun _ _ _ h => h) (Or.inr ⟨by rfl, rfl⟩) (by assumption) ?_
          (try simp only [Act.put, List.getElem_toArray, List.getElem_cons_zero, List.getElem_cons_succ, List.setIfInBounds_toArray, List.set_cons_zero, List.set_cons_succ])
          refine wpAnyH_take (i := 17) (v := undef) rfl (by kernel_rfl) (by kernel_rfl) (by kernel_rfl) (fun _ _ _ h => h) (Or.inr ⟨by rfl, rfl⟩) (by assumption) ?_
          (try simp only [Act.put, List.getElem_toArray, List.getElem_cons_zero, List.getElem_cons_succ, List.setIfInBounds_toArray, List.set_cons_zero, List.set_cons_succ])
          refine wpAnyH_take (i := 18) (v := ?_) rfl (by kernel_rfl) (by kernel_rfl) (by kernel_rfl) (fun _ _ _ h => h) (Or.inl ⟨by rfl, ?_⟩) (by assumption) ?_
          rotate_left
          · intro wS hSw; (try dsimp only at hSw); go_simp; (try (with_reducible rfl))
          (try simp only [Act.put, List.getElem_toArray, List.getElem_cons_zero, List.getElem_cons_succ, List.setIfInBounds_toArray, List.set_cons_zero, List.set_cons_succ])
          refine wpAnyH_done (by kernel_rfl) ?_ _
          have HB7 := Lib.hid (below_next HB.out bk7)
          obtain ⟨⟨e0, e1, e2, e3, e4⟩, ef⟩ := HBOX.out.keep bk7
          clear bk7 hHeld
          go_wp2_with fail
          refine bodyPost_ret (v := .tuple #[.agg #[.string ⟨#[]⟩, .int .i64 0, .int .u64 0, .int .u64 0, .slice none 0 0], .int .i64 0, .bool false]) (by simp [results, Tryd.results18, go_sem, e0, e1, e2, e3, e4]) rfl (HN.out _ ?_)
          repeat (first | (with_reducible exact HB7.out) | (with_reducible refine below_set ?_ _ _ (by simp; try omega)))
        | true =>
          obtain ⟨m0, m1, m2, m3, m4⟩ := HM.out wr (Below.refl _ _)
          by_cases hts : T = P
          · subst hts
            have HY := Lib.hid fun A c W' h1 h2 => HYES.out (by omega) rfl rfl A c W' h1 h2
            go_wp2_with fail
            go_region_held3 (fun W => W.cell? ⟨w1.heap.size, 0, none⟩ = some (.string nm) ∧ W.cell? ⟨w1.heap.size, 1, none⟩ = some (.int .i64 k) ∧ W.cell? ⟨w1.heap.size, 2, none⟩ = some (.int .u64 a) ∧ W.cell? ⟨w1.heap.size, 3, none⟩ = some (.int .u64 b) ∧ W.cell? ⟨w1.heap.size, 4, none⟩ = some (.slice A i c))
              (first | exact HM.out _ (below_dr (Below.refl _ _)) | exact HM.out _ bk7 | exact HM.out _ bk8)
              (first
                | (go_at_call 17; refine (HSTOi.out (by first | rfl | trivial | simp) _ bk7).mono ?_; rintro e w8 ⟨rfl, hb8⟩; have bk8 : Below wr.heap.size wr w8 := below_next bk7 hb8; clear hb8)
                | (go_at_call 8; refine (HRECi.out _ (below_dr (Below.refl _ _))).mono ?_; rintro e w7 ⟨rfl, hb7⟩; have bk7 : Below wr.heap.size wr w7 := below_next (below_dr (Below.refl _ _)) hb7; clear hb7))
            have HB8 := Lib.hid (below_next HB.out bk8)
            have HO8 := Lib.hid (own_below HO.out bk8)
            obtain ⟨⟨e0, e1, e2, e3, e4⟩, ef⟩ := HBOX.out.keep bk8
            obtain ⟨d0, d1, d2, d3, d4⟩ := HM.out _ bk8
            clear bk7 bk8 m0 m1 m2 m3 m4
            go_wp2_with fail
            refine bodyPost_ret (v := .tuple #[.agg #[.string nm, .int .i64 k, .int .u64 a, .int .u64 b, .slice A i c], .int .i64 E, .bool true]) (by simp [results, Tryd.results18, go_sem, e0, e1, e2, e3, e4]) rfl (HY.out A c _ ?_ ?_)
            · refine own_base (base := w1.heap.size + 1) ?_ (by have := HZ1.out; omega)
              repeat (first | (with_reducible exact HO8.out) | (with_reducible refine ownsRow_setCell_below ?_ (by have := HZ1.out; simp; try omega) _))
            · repeat (first | (with_reducible exact HB8.out) | (with_reducible refine below_set ?_ _ _ (by simp; try omega)))
          · have HN := Lib.hid fun W' hW => HNO.out (.inr (.inr hts)) W' hW
            have hne : (T.toList == P.toList) = false := by
              rw [Lib.toList_data, Lib.toList_data]
              exact beq_eq_false_iff_ne.2 fun e => hts (WideShapes.bytes_inj (by rw [e]))
            clear hts
            go_wp2_with fail
            go_region_held3 (fun W => W.cell? ⟨w1.heap.size, 0, none⟩ = some (.string nm) ∧ W.cell? ⟨w1.heap.size, 1, none⟩ = some (.int .i64 k) ∧ W.cell? ⟨w1.heap.size, 2, none⟩ = some (.int .u64 a) ∧ W.cell? ⟨w1.heap.size, 3, none⟩ = some (.int .u64 b) ∧ W.cell? ⟨w1.heap.size, 4, none⟩ = some (.slice A i c))
              (first | exact HM.out _ (below_dr (Below.refl _ _)) | exact HM.out _ bk7 | exact HM.out _ bk8)
              (first
                | (go_at_call 17; refine (HSTOi.out (by first | rfl | trivial | simp) _ bk7).mono ?_; rintro e w8 ⟨rfl, hb8⟩; have bk8 : Below wr.heap.size wr w8 := below_next bk7 hb8; clear hb8)
                | (go_at_call 8; refine (HRECi.out _ (below_dr (Below.refl _ _))).mono ?_; rintro e w7 ⟨rfl, hb7⟩; have bk7 : Below wr.heap.size wr w7 := below_next (below_dr (Below.refl _ _)) hb7; clear hb7))
            have HB8 := Lib.hid (below_next HB.out bk8)
            obtain ⟨⟨e0, e1, e2, e3, e4⟩, ef⟩ := HBOX.out.keep bk8
            clear bk7 bk8 m0 m1 m2 m3 m4
            go_wp2_with fail
            refine bodyPost_ret (v := .tuple #[.agg #[.string ⟨#[]⟩, .int .i64 0, .int .u64 0, .int .u64 0, .slice none 0 0], .int .i64 0, .bool false]) (by simp [results, Tryd.results18, go_sem, e0, e1, e2, e3, e4]) rfl (HN.out _ ?_)
            repeat (first | (with_reducible exact HB8.out) | (with_reducible refine below_set ?_ _ _ (by simp; try omega)))
end Go.Proofs.YtckdbnnkabgopaaDoor

