/-
  A table that a text tells: impl.ReadTable, spec.ReadTable.
-/
import Derived.Test.YtklkgacgmcnlnaaDoorRd4
import Derived.Test.YtklkgacgmcnlnaaDoorTb3
import Derived.Test.YtklkgacgmcnlnaaDoorTt
namespace Go.Proofs.YtklkgacgmcnlnaaDoor
open Go Go.RowKit

def RtOut (s : ByteArray) (w : World) (e : Ending) (w' : World) : Prop := ∃ A c, e = .returned (.tuple #[.agg #[.int .i64 (rtR s), .int .i64 (rtL s), .slice A (rtX s).length c], .bool (rtOk s)]) ∧ w'.ownsRow w.heap.size 2 1 (.slice A (rtX s).length c) (rtX s).length (il (rtX s)) ∧ Below w.heap.size w w'
theorem own_dr {w : World} {base : Nat} {e : TypeId} {sz n : Nat} {v : Value} {xs : List Value} (h : w.ownsRow base e sz v n xs) : w.drew.ownsRow base e sz v n xs := h
theorem rtX_len (s : ByteArray) : (rtX s).length ≤ 16 := by
  cases h : rtOk s with
  | false => unfold rtX; rw [h]; exact Nat.zero_le _
  | true =>
    have h2 := h
    unfold rtOk at h2
    simp only [Bool.and_eq_true] at h2
    unfold rtX
    rw [h]
    exact (tab_facts h2.2).2.2
theorem rt_no {s : ByteArray} (h : rtOk s = false) : rtR s = 0 ∧ rtL s = 0 ∧ rtX s = [] := by
  unfold rtR rtL rtX
  rw [h]
  exact ⟨rfl, rfl, rfl⟩
theorem rt_yes {s : ByteArray} (h : rtOk s = true) : rtR s = (nums (semP s)).1.getD 0 0 ∧ rtL s = (nums (semP s)).1.getD 1 0 ∧ rtX s = (nums (semQ s)).1 := by
  unfold rtR rtL rtX
  rw [h]
  exact ⟨rfl, rfl, rfl⟩
set_option maxRecDepth 100000 in
set_option maxHeartbeats 6400000 in
theorem ReadTable_any (s : ByteArray) (w : World) (hs : s.size ≤ 1048576) (he : Env w) : Calls Tryd.prog 21 #[.string s] w (RtOut s w) := by
  obtain ⟨_, ⟨mx, hmx⟩, _, _⟩ := id he
  obtain ⟨zp, zq⟩ := sem_sizes s
  have HTB := Lib.hid he
  have HC : Hid (∀ W mx, W.cell? ⟨1, 0, none⟩ = some (.int .i64 mx) → Calls Tryd.prog 42 #[.string s, .string ⟨#[59]⟩] W (fun e w' => e = .returned (.tuple #[.string (semP s), .string (semQ s), .bool (semF s)]) ∧ ∃ n, w' = W.drewN n)) := Lib.hid fun W mx h => Tryd.strings_Cut s ⟨#[59]⟩ mx W (by omega) h
  have HP := Lib.hid fun W he => ReadList_any (semP s) W (by omega) he
  have HQ := Lib.hid fun W he => ReadList_any (semQ s) W (by omega) he
  have HV := Lib.hid fun r l A c w hx h => ValidTable_any r l A (nums (semQ s)).1 c w hx h
  have HOK : Hid (rtOk s = (semF s && (nums (semP s)).2 && (nums (semQ s)).2 && decide ((nums (semP s)).1.length = 2) && tabB ((nums (semP s)).1.getD 0 0) ((nums (semP s)).1.getD 1 0) (nums (semQ s)).1)) := Lib.hid rfl
  have HNO := Lib.hid (rt_no (s := s))
  have HYES := Lib.hid (rt_yes (s := s))
  unfold RtOut
  unfold NumsOut at HP HQ
  unfold BoolOut tbV at HV
  clear zp zq he
  generalize rtR s = R at *
  generalize rtL s = L at *
  generalize rtX s = X at *
  generalize rtOk s = ok at *
  generalize semP s = P at *
  generalize semQ s = Q at *
  generalize semF s = F at *
  generalize nums P = NP at *
  generalize nums Q = NQ at *
  obtain ⟨ns, b1⟩ := NP
  obtain ⟨xs, b2⟩ := NQ
  dsimp only at *
  go_enter Tryd.func21, Tryd.ntmps21
  go_wp2_with fail
  generalize hW1 : World.alloc w _ = w1
  have hb1 : Below w.heap.size w w1 := by rw [← hW1]; exact below_al (Below.refl _ _) _
  have X1 : B3 w1 w.heap.size (.int .i64 0) (.int .i64 0) (.slice none 0 0) := by rw [← hW1]; simp [B3, go_sem]
  clear hW1
  refine (HC.out _ mx (keepC hb1 hmx)).mono ?_
  rintro e w2 ⟨rfl, m, rfl⟩
  have B2 := Lib.hid (below_drewN hb1 m)
  have X2 := Lib.hid (X1.keep (below_drewN (Below.refl _ _) m))
  clear hb1 X1 hmx
  go_wp2_with fail
  refine (HP.out _ (HTB.out.keep B2.out)).mono ?_
  rintro e w3 ⟨A1, c1, rfl, ho3, hb3⟩
  have O3 := Lib.hid ho3
  have B3' := Lib.hid (below_next B2.out hb3)
  have X3 := Lib.hid (X2.out.keep hb3)
  clear ho3 hb3 B2 X2
  go_wp2_with fail
  refine (HQ.out _ (HTB.out.keep B3'.out)).mono ?_
  rintro e w4 ⟨A2, c2, rfl, ho4, hb4⟩
  have O4 := Lib.hid ho4
  have O4a := Lib.hid (own_below O3.out hb4)
  have B4 := Lib.hid (below_next B3'.out hb4)
  have X4 := Lib.hid (X3.out.keep hb4)
  have S4 : Hid (w.heap.size < w3.heap.size) := Lib.hid (X3.out.lt)
  clear ho4 hb4 B3' X3 O3
  cases F with
  | false =>
    have HF : Hid (ok = false) := Lib.hid (by rw [HOK.out]; rfl)
    obtain rfl : ok = false := HF.out
    obtain ⟨rfl, rfl, rfl⟩ := HNO.out rfl
    obtain ⟨⟨x0, x1, x2⟩, xf⟩ := X4.out
    go_wp2_with fail
    go_quiet (fail)
    go_wp2_with fail
    refine bodyPost_ret (v := .tuple #[.agg #[.int .i64 0, .int .i64 0, .slice none 0 0], .bool false]) (by simp [results, Tryd.results21, go_sem, x0, x1, x2]) rfl ⟨none, 0, rfl, nil_own _ _, ?_⟩
    exact below_set (below_set (below_set (below_drewN B4.out _) _ _ (by simp)) _ _ (by simp)) _ _ (by simp)
  | true =>
  cases b1 with
  | false =>
    have HF : Hid (ok = false) := Lib.hid (by rw [HOK.out]; rfl)
    obtain rfl : ok = false := HF.out
    obtain ⟨rfl, rfl, rfl⟩ := HNO.out rfl
    obtain ⟨⟨x0, x1, x2⟩, xf⟩ := X4.out
    go_wp2_with fail
    go_quiet (fail)
    go_wp2_with fail
    refine bodyPost_ret (v := .tuple #[.agg #[.int .i64 0, .int .i64 0, .slice none 0 0], .bool false]) (by simp [results, Tryd.results21, go_sem, x0, x1, x2]) rfl ⟨none, 0, rfl, nil_own _ _, ?_⟩
    exact below_set (below_set (below_set (below_drewN B4.out _) _ _ (by simp)) _ _ (by simp)) _ _ (by simp)
  | true =>
  cases b2 with
  | false =>
    have HF : Hid (ok = false) := Lib.hid (by rw [HOK.out]; rfl)
    obtain rfl : ok = false := HF.out
    obtain ⟨rfl, rfl, rfl⟩ := HNO.out rfl
    obtain ⟨⟨x0, x1, x2⟩, xf⟩ := X4.out
    go_wp2_with fail
    go_quiet (fail)
    go_wp2_with fail
    refine bodyPost_ret (v := .tuple #[.agg #[.int .i64 0, .int .i64 0, .slice none 0 0], .bool false]) (by simp [results, Tryd.results21, go_sem, x0, x1, x2]) rfl ⟨none, 0, rfl, nil_own _ _, ?_⟩
    exact below_set (below_set (below_set (below_drewN B4.out _) _ _ (by simp)) _ _ (by simp)) _ _ (by simp)
  | true =>
  by_cases hl2 : ns.length = 2
  · match ns, hl2 with
    | [r, l], _ =>
      have HO2 : Hid (ok = tabB r l xs) := Lib.hid (by rw [HOK.out]; simp)
      have hYES : ok = true → R = r ∧ L = l ∧ X = xs := fun h => HYES.out h
      have HY2 := Lib.hid hYES
      have o4a := O4a.out
      cases A1 with
      | none => have := own_none o4a; simp at this
      | some a1 =>
        obtain ⟨g1, rfl, hg1⟩ := own_some o4a
        have k0 : w4.cell? ⟨g1, 0, none⟩ = some (.int .i64 r) := by rw [o4a.cellAt 0 (by simp)]; rfl
        have k1 : w4.cell? ⟨g1, 1, none⟩ = some (.int .i64 l) := by rw [o4a.cellAt 1 (by simp)]; rfl
        have HM : Hid (∀ W, Below w4.heap.size w4 W → W.cell? ⟨g1, 0, none⟩ = some (.int .i64 r) ∧ W.cell? ⟨g1, 1, none⟩ = some (.int .i64 l)) := Lib.hid fun W hW => ⟨keepC hW k0, keepC hW k1⟩
        have HVt := Lib.hid fun w hx h => HV.out r l A2 c2 w hx h
        have hxs : xs.length ≤ 9223372036854775807 := by
          rcases O4.out.2 with ⟨_, h⟩ | ⟨_, cap, _, _, _, _, h1, h2, _⟩
          · omega
          · unfold maxLen at h2
            omega
        clear HOK HYES hYES HV o4a
        generalize tabB r l xs = T at *
        cases T with
        | false =>
          have HF : Hid (ok = false) := HO2
          obtain rfl : ok = false := HF.out
          obtain ⟨rfl, rfl, rfl⟩ := HNO.out rfl
          go_wp2_with fail
          go_region_held3 (fun W => W.cell? ⟨g1, 0, none⟩ = some (.int .i64 r) ∧ W.cell? ⟨g1, 1, none⟩ = some (.int .i64 l))
            (first | exact HM.out _ (Below.refl _ _) | exact HM.out _ (below_dr (Below.refl _ _)) | exact HM.out _ bk)
            (first
              | (go_at_call 35; refine (HVt.out _ hxs ((Rd.of_own O4.out).at_ (below_dr (Below.refl _ _)))).mono ?_; rintro e w5 ⟨rfl, hb5⟩; have bk : Below w4.heap.size w4 w5 := below_next (below_dr (Below.refl _ _)) hb5; clear hb5))
          have B5 := Lib.hid (below_next B4.out bk)
          obtain ⟨⟨x0, x1, x2⟩, xf⟩ := X4.out.keep bk
          clear bk k0 k1
          go_wp2_with fail
          refine bodyPost_ret (v := .tuple #[.agg #[.int .i64 0, .int .i64 0, .slice none 0 0], .bool false]) (by simp [results, Tryd.results21, go_sem, x0, x1, x2]) rfl ⟨none, 0, rfl, nil_own _ _, ?_⟩
          exact below_set (below_set (below_set B5.out _ _ (by simp)) _ _ (by simp)) _ _ (by simp)
        | true =>
          obtain rfl : ok = true := HO2.out
          obtain ⟨rfl, rfl, rfl⟩ := HY2.out rfl
          go_wp2_with fail
          go_region_held3 (fun W => W.cell? ⟨g1, 0, none⟩ = some (.int .i64 R) ∧ W.cell? ⟨g1, 1, none⟩ = some (.int .i64 L))
            (first | exact HM.out _ (Below.refl _ _) | exact HM.out _ (below_dr (Below.refl _ _)) | exact HM.out _ bk)
            (first
              | (go_at_call 35; refine (HVt.out _ hxs ((Rd.of_own O4.out).at_ (below_dr (Below.refl _ _)))).mono ?_; rintro e w5 ⟨rfl, hb5⟩; have bk : Below w4.heap.size w4 w5 := below_next (below_dr (Below.refl _ _)) hb5; clear hb5))
          have B5 := Lib.hid (below_next B4.out bk)
          have O5 := Lib.hid (own_below O4.out bk)
          have s4 := S4.out
          obtain ⟨k0', k1'⟩ := HM.out _ bk
          obtain ⟨⟨x0, x1, x2⟩, xf⟩ := X4.out.keep bk
          clear bk k0 k1
          go_wp2_with fail
          go_region
          go_wp2_with fail
          refine bodyPost_ret (v := .tuple #[.agg #[.int .i64 R, .int .i64 L, .slice A2 X.length c2], .bool true]) (by simp [results, Tryd.results21, go_sem, x0, x1, x2]) rfl ⟨A2, c2, rfl, ?_, ?_⟩
          · refine own_base (base := w3.heap.size) ?_ (by omega)
            repeat (first | (with_reducible exact O5.out) | (with_reducible refine own_dr ?_) | (with_reducible refine ownsRow_setCell_below ?_ (by simp; try omega) _))
          · repeat (first | (with_reducible exact B5.out) | (with_reducible refine below_drewN ?_ _) | (with_reducible refine below_dr ?_) | (with_reducible refine below_set ?_ _ _ (by first | (simp; done) | (simp; omega))))
  · have HF : Hid (ok = false) := Lib.hid (by rw [HOK.out, decide_eq_false hl2]; simp)
    have hne : (((ns.length : Nat) : Int) != 2) = true := by rw [bne_iff_ne]; omega
    obtain rfl : ok = false := HF.out
    obtain ⟨rfl, rfl, rfl⟩ := HNO.out rfl
    obtain ⟨⟨x0, x1, x2⟩, xf⟩ := X4.out
    go_wp2_with fail
    go_quiet (fail)
    go_wp2_with fail
    refine bodyPost_ret (v := .tuple #[.agg #[.int .i64 0, .int .i64 0, .slice none 0 0], .bool false]) (by simp [results, Tryd.results21, go_sem, x0, x1, x2]) rfl ⟨none, 0, rfl, nil_own _ _, ?_⟩
    exact below_set (below_set (below_set (below_drewN B4.out _) _ _ (by simp)) _ _ (by simp)) _ _ (by simp)

set_option maxRecDepth 100000 in
set_option maxHeartbeats 6400000 in
theorem l08ReadTable_any (s : ByteArray) (w : World) (hs : s.size ≤ 1048576) : Calls Tryd.prog 41 #[.string s] w (RtOut s w) := by
  obtain ⟨zp, zq⟩ := sem_sizes s
  have HC := Lib.hid fun w => Cs.l01Cut_any s w hs
  have HP := Lib.hid fun W => l01Numbers_any (semP s) W (by omega)
  have HQ := Lib.hid fun W => l01Numbers_any (semQ s) W (by omega)
  have HV := Lib.hid fun p r l A c w hx hp h => l06Is_any p r l A (nums (semQ s)).1 c w hx hp h
  have HOK : Hid (rtOk s = (semF s && (nums (semP s)).2 && (nums (semQ s)).2 && decide ((nums (semP s)).1.length = 2) && tabB ((nums (semP s)).1.getD 0 0) ((nums (semP s)).1.getD 1 0) (nums (semQ s)).1)) := Lib.hid rfl
  have HNO := Lib.hid (rt_no (s := s))
  have HYES := Lib.hid (rt_yes (s := s))
  have HPC := Lib.hid (parts_cases s)
  have HPF : Hid ((Cs.cutB s (s.size + 1)).1 = partsS s) := Lib.hid rfl
  unfold RtOut
  unfold NumsOut at HP HQ
  unfold BoolOut at HV
  unfold Cs.cutOut at HC
  rw [HPF.out] at HC
  clear zp zq HPF
  generalize rtR s = R at *
  generalize rtL s = L at *
  generalize rtX s = X at *
  generalize rtOk s = ok at *
  generalize semP s = P at *
  generalize semQ s = Q at *
  generalize semF s = F at *
  generalize partsS s = ps at *
  generalize nums P = NP at *
  generalize nums Q = NQ at *
  obtain ⟨ns, b1⟩ := NP
  obtain ⟨xs, b2⟩ := NQ
  dsimp only at *
  go_enter Tryd.func41, Tryd.ntmps41
  go_wp2_with fail
  generalize hW1 : World.alloc w _ = w1
  have hb1 : Below w.heap.size w w1 := by rw [← hW1]; exact below_al (Below.refl _ _) _
  have X1 : B3 w1 w.heap.size (.int .i64 0) (.int .i64 0) (.slice none 0 0) := by rw [← hW1]; simp [B3, go_sem]
  clear hW1
  refine (HC.out _).mono ?_
  rintro e w2 ⟨A, c, rfl, ho2, hb2⟩
  have O2 := Lib.hid ho2
  have B2 := Lib.hid (below_next hb1 hb2)
  have X2 := Lib.hid (X1.keep hb2)
  clear hb1 X1 ho2 hb2
  rcases HPC.out with ⟨hl, hok⟩ | ⟨hps, hF⟩
  · obtain rfl : ok = false := hok
    obtain ⟨rfl, rfl, rfl⟩ := HNO.out rfl
    have hne : (((ps.length : Nat) : Int) != 2) = true := by rw [bne_iff_ne]; omega
    obtain ⟨⟨x0, x1, x2⟩, xf⟩ := X2.out
    go_wp2_with fail
    refine bodyPost_ret (v := .tuple #[.agg #[.int .i64 0, .int .i64 0, .slice none 0 0], .bool false]) (by simp [results, Tryd.results41, go_sem, x0, x1, x2]) rfl ⟨none, 0, rfl, nil_own _ _, ?_⟩
    exact below_set (below_set (below_set B2.out _ _ (by simp)) _ _ (by simp)) _ _ (by simp)
  · subst hps hF
    have o2 := O2.out
    cases A with
    | none => have := own_none o2; simp at this
    | some a =>
      obtain ⟨g0, rfl, hg0⟩ := own_some o2
      have q0 : w2.cell? ⟨g0, 0, none⟩ = some (.string P) := by rw [o2.cellAt 0 (by simp)]; rfl
      have q1 : w2.cell? ⟨g0, 1, none⟩ = some (.string Q) := by rw [o2.cellAt 1 (by simp)]; rfl
      have Q1 := Lib.hid q1
      clear o2
      simp only [List.length_cons, List.length_nil, Nat.zero_add, Nat.reduceAdd]
      go_wp2_with fail
      refine (HP.out _).mono ?_
      rintro e w3 ⟨A1, c1, rfl, ho3, hb3⟩
      have O3 := Lib.hid ho3
      have B3' := Lib.hid (below_next B2.out hb3)
      have X3 := Lib.hid (X2.out.keep hb3)
      have q1' := keepC hb3 Q1.out
      clear ho3 hb3 B2 X2 q0 q1
      go_wp2_with fail
      refine (HQ.out _).mono ?_
      rintro e w4 ⟨A2, c2, rfl, ho4, hb4⟩
      have O4 := Lib.hid ho4
      have O4a := Lib.hid (own_below O3.out hb4)
      have B4 := Lib.hid (below_next B3'.out hb4)
      have X4 := Lib.hid (X3.out.keep hb4)
      have S4 : Hid (w.heap.size < w3.heap.size) := Lib.hid (X3.out.lt)
      clear ho4 hb4 B3' X3 O3 q1'
      cases b1 with
      | false =>
        have HF : Hid (ok = false) := Lib.hid (by rw [HOK.out]; rfl)
        obtain rfl : ok = false := HF.out
        obtain ⟨rfl, rfl, rfl⟩ := HNO.out rfl
        obtain ⟨⟨x0, x1, x2⟩, xf⟩ := X4.out
        go_wp2_with fail
        refine bodyPost_ret (v := .tuple #[.agg #[.int .i64 0, .int .i64 0, .slice none 0 0], .bool false]) (by simp [results, Tryd.results41, go_sem, x0, x1, x2]) rfl ⟨none, 0, rfl, nil_own _ _, ?_⟩
        exact below_set (below_set (below_set B4.out _ _ (by simp)) _ _ (by simp)) _ _ (by simp)
      | true =>
      cases b2 with
      | false =>
        have HF : Hid (ok = false) := Lib.hid (by rw [HOK.out]; rfl)
        obtain rfl : ok = false := HF.out
        obtain ⟨rfl, rfl, rfl⟩ := HNO.out rfl
        obtain ⟨⟨x0, x1, x2⟩, xf⟩ := X4.out
        go_wp2_with fail
        refine bodyPost_ret (v := .tuple #[.agg #[.int .i64 0, .int .i64 0, .slice none 0 0], .bool false]) (by simp [results, Tryd.results41, go_sem, x0, x1, x2]) rfl ⟨none, 0, rfl, nil_own _ _, ?_⟩
        exact below_set (below_set (below_set B4.out _ _ (by simp)) _ _ (by simp)) _ _ (by simp)
      | true =>
      by_cases hl2 : ns.length = 2
      · match ns, hl2 with
        | [r, l], _ =>
          have HO2 : Hid (ok = tabB r l xs) := Lib.hid (by rw [HOK.out]; simp)
          have hYES : ok = true → R = r ∧ L = l ∧ X = xs := fun h => HYES.out h
          have HY2 := Lib.hid hYES
          have o4a := O4a.out
          cases A1 with
          | none => have := own_none o4a; simp at this
          | some a1 =>
            obtain ⟨g1, rfl, hg1⟩ := own_some o4a
            have k0 : w4.cell? ⟨g1, 0, none⟩ = some (.int .i64 r) := by rw [o4a.cellAt 0 (by simp)]; rfl
            have k1 : w4.cell? ⟨g1, 1, none⟩ = some (.int .i64 l) := by rw [o4a.cellAt 1 (by simp)]; rfl
            have kl : g1 < w4.heap.size := lt_of_cell (a := ⟨g1, 0, none⟩) k0
            have HVt := Lib.hid fun p w hx hp h => HV.out p r l A2 c2 w hx hp h
            have hxs : xs.length ≤ 9223372036854775807 := by
              rcases O4.out.2 with ⟨_, h⟩ | ⟨_, cap, _, _, _, _, h1, h2, _⟩
              · omega
              · unfold maxLen at h2
                omega
            clear HOK HYES hYES HV o4a
            generalize tabB r l xs = T at *
            simp only [List.length_cons, List.length_nil, Nat.zero_add, Nat.reduceAdd]
            go_wp2_with fail
            go_region
            go_wp2_with fail
            generalize hW5 : World.drew (World.alloc w4 _) = W5
            have t5 : TbAt W5 w4.heap.size r l A2 xs.length c2 := by rw [← hW5]; simp [TbAt, go_sem]
            have b5 : Below w4.heap.size w4 W5 := by rw [← hW5]; exact below_dr (below_al (Below.refl _ _) _)
            have X5 := Lib.hid (X4.out.keep b5)
            have O5 := Lib.hid (own_below O4.out b5)
            have B5 := Lib.hid (below_next B4.out b5)
            have T5 := Lib.hid t5
            have s4 := S4.out
            clear hW5 t5 b5 k0 k1 X4 B4
            refine (HVt.out _ _ hxs T5.out (Rd.of_own O5.out)).mono ?_
            rintro e w6 ⟨rfl, hb6⟩
            have O6 := Lib.hid (own_below O5.out hb6)
            have B6 := Lib.hid (below_next B5.out hb6)
            obtain ⟨⟨x0, x1, x2⟩, xf⟩ := X5.out.keep hb6
            obtain ⟨t0, t1, t2⟩ := T5.out.keep hb6
            clear hb6 X5 T5 B5 O5
            cases T with
            | false =>
              obtain rfl : ok = false := HO2.out
              obtain ⟨rfl, rfl, rfl⟩ := HNO.out rfl
              go_wp2_with fail
              refine bodyPost_ret (v := .tuple #[.agg #[.int .i64 0, .int .i64 0, .slice none 0 0], .bool false]) (by simp [results, Tryd.results41, go_sem, x0, x1, x2]) rfl ⟨none, 0, rfl, nil_own _ _, ?_⟩
              exact below_set (below_set (below_set B6.out _ _ (by simp)) _ _ (by simp)) _ _ (by simp)
            | true =>
              obtain rfl : ok = true := HO2.out
              obtain ⟨rfl, rfl, rfl⟩ := HY2.out rfl
              go_wp2_with fail
              refine bodyPost_ret (v := .tuple #[.agg #[.int .i64 R, .int .i64 L, .slice A2 X.length c2], .bool true]) (by simp [results, Tryd.results41, go_sem, x0, x1, x2]) rfl ⟨A2, c2, rfl, ?_, ?_⟩
              · refine own_base (base := w3.heap.size) ?_ (by omega)
                repeat (first | (with_reducible exact O6.out) | (with_reducible refine ownsRow_setCell_below ?_ (by simp; try omega) _))
              · exact below_set (below_set (below_set B6.out _ _ (by simp)) _ _ (by simp)) _ _ (by simp)
      · have HF : Hid (ok = false) := Lib.hid (by rw [HOK.out, decide_eq_false hl2]; simp)
        have hne : (((ns.length : Nat) : Int) != 2) = true := by rw [bne_iff_ne]; omega
        obtain rfl : ok = false := HF.out
        obtain ⟨rfl, rfl, rfl⟩ := HNO.out rfl
        obtain ⟨⟨x0, x1, x2⟩, xf⟩ := X4.out
        go_wp2_with fail
        refine bodyPost_ret (v := .tuple #[.agg #[.int .i64 0, .int .i64 0, .slice none 0 0], .bool false]) (by simp [results, Tryd.results41, go_sem, x0, x1, x2]) rfl ⟨none, 0, rfl, nil_own _ _, ?_⟩
        exact below_set (below_set (below_set B4.out _ _ (by simp)) _ _ (by simp)) _ _ (by simp)
set_option maxRecDepth 100000 in
set_option maxHeartbeats 1600000 in
theorem specReadTable_any (s : ByteArray) (w : World) (hs : s.size ≤ 1048576) : Calls Tryd.prog 20 #[.string s] w (RtOut s w) := by
  have HR := Lib.hid fun w => l08ReadTable_any s w hs
  unfold RtOut at *
  generalize rtR s = R at *
  generalize rtL s = L at *
  generalize rtX s = X at *
  generalize rtOk s = ok at *
  go_enter Tryd.func20, Tryd.ntmps20
  go_wp2_with fail
  generalize hW1 : World.alloc w _ = w1
  have hb1 : Below w.heap.size w w1 := by rw [← hW1]; exact below_al (Below.refl _ _) _
  have hz1 : w.heap.size ≤ w1.heap.size := hb1.size
  have hz2 : w.heap.size < w1.heap.size := by rw [← hW1]; simp
  have X1 : B3 w1 w.heap.size (.int .i64 0) (.int .i64 0) (.slice none 0 0) := by rw [← hW1]; simp [B3, go_sem]
  clear hW1
  refine (HR.out _).mono ?_
  rintro e w2 ⟨A, c, rfl, ho2, hb2⟩
  have O2 := Lib.hid ho2
  have B2 := Lib.hid (below_next hb1 hb2)
  obtain ⟨⟨x0, x1, x2⟩, xf⟩ := X1.keep hb2
  clear hb1 X1 ho2 hb2
  go_wp2_with fail
  refine bodyPost_ret (v := .tuple #[.agg #[.int .i64 R, .int .i64 L, .slice A X.length c], .bool ok]) (by simp [results, Tryd.results20, go_sem, x0, x1, x2]) rfl ⟨A, c, rfl, ?_, ?_⟩
  · refine own_base (base := w1.heap.size) ?_ (by omega)
    repeat (first | (with_reducible exact O2.out) | (with_reducible refine ownsRow_setCell_below ?_ (by simp; try omega) _))
  · exact below_set (below_set (below_set B2.out _ _ (by simp)) _ _ (by simp)) _ _ (by simp)
end Go.Proofs.YtklkgacgmcnlnaaDoor
