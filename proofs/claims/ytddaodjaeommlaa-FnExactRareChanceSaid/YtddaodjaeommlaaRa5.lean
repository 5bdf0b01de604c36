/-
  spec.l07Rare.
-/
import Derived.Test.YtddaodjaeommlaaRa2
import Derived.Test.YtddaodjaeommlaaRa4
namespace Go.Proofs.Ytddaodjaeommlaa
open Go Go.RowKit Ieee

theorem grown_trans {a b c : World} {row : Option Nat} (h : a.grownBy b row) (h' : b.grownBy c row) : a.grownBy c row :=
  ⟨h'.os.trans h.os, h'.tape.trans h.tape, h'.output.trans h.output, Nat.le_trans h.size h'.size, fun k hk hne => (h'.block k (Nat.lt_of_lt_of_le hk h.size) hne).trans (h.block k hk hne)⟩
theorem grown_new {a b c : World} {row r2 : Option Nat} (h : a.grownBy b row) (h' : b.grownBy c r2) (hn : ∀ q, r2 = some q → a.heap.size ≤ q) : a.grownBy c row :=
  ⟨h'.os.trans h.os, h'.tape.trans h.tape, h'.output.trans h.output, Nat.le_trans h.size h'.size, fun k hk hne => (h'.block k (Nat.lt_of_lt_of_le hk h.size) (fun e => by have := hn k e.symm; omega)).trans (h.block k hk hne)⟩
theorem SdTo.next {g : Nat} {k a b a' b' : Int} {w W W' : World} (h : SdTo g k a b w W) (h' : SdTo g k a' b' W W') : SdTo g k a' b' w W' := ⟨grown_trans h.1 h'.1, h'.2⟩
theorem SdTo.dn {g : Nat} {k a b : Int} {w W : World} (h : SdTo g k a b w W) (m : Nat) : SdTo g k a b w (W.drewN m) := ⟨grown_dn h.1 m, h.2⟩
theorem SdTo.al {g : Nat} {k a b : Int} {w W : World} (h : SdTo g k a b w W) (o : Obj) : SdTo g k a b w (W.alloc o) := ⟨grown_trans h.1 (World.grownBy_alloc W o _), h.2.al o⟩
theorem SdTo.row {g : Nat} {k a b : Int} {w W W' : World} {row : Option Nat} (h : SdTo g k a b w W) (hg : W.grownBy W' row) (hr : ∀ q, row = some q → w.heap.size ≤ q) (hlt : g < w.heap.size) : SdTo g k a b w W' :=
  ⟨grown_new h.1 hg hr, h.2.farR hg (fun e => by have := hr g e.symm; omega)⟩
theorem Rd.farG {w W : World} {g : Nat} {A : Option Addr} {vs : List Value} (h : Rd w g A vs) (hg : w.grownBy W (some g)) (hl : g < w.heap.size) : Rd W W.heap.size A vs := by
  intro hpos
  obtain ⟨b, off, e, hb, hc⟩ := h hpos
  have hs := hg.size
  exact ⟨b, off, e, by omega, fun k hk => (hg.cell_far ⟨b, off + k, none⟩ (show b < w.heap.size by omega) (fun e => by injection e with e; have e' : b = g := e; omega)).trans (hc k hk)⟩
theorem Rd.nlFar {w : World} {g : Nat} {A : Option Addr} {ys : List Nat} (h : Rd w g A (nl ys)) (hl : g < w.heap.size) {q : Nat} (hq : q < ys.length) : ∃ b off, A = some ⟨b, off, none⟩ ∧ ∀ W, w.grownBy W (some g) → W.cell? ⟨b, off + q, none⟩ = some (.int .i64 ((ys.getD q 0 : Nat) : Int)) := by
  obtain ⟨b, off, e, hb, hc⟩ := h.nlAt hq
  exact ⟨b, off, e, fun W hg => (hg.cell_far ⟨b, off + q, none⟩ (show b < w.heap.size by omega) (fun e => by injection e with e; have e' : b = g := e; omega)).trans hc⟩
def rareSOut (g : Nat) (xs : List Nat) (n : Nat) (k a b : Int) (i : Nat) (lvs : List Nat) (W : Nat) (w : World) (e : Ending) (w' : World) : Prop :=
  e = .returned (.float .f32 (raP xs n k a b i lvs W)) ∧ SdTo g k (sdT k a b (raT xs n k a b i lvs W)).1 (sdT k a b (raT xs n k a b i lvs W)).2 w w'
theorem rs_out {g : Nat} {xs : List Nat} {n : Nat} {k a b : Int} {i : Nat} {lvs : List Nat} {W E T p : Nat} {w w' : World} (hE : rareE xs n k a b i lvs W = E) (hT : (rareT xs n k a b i lvs W E).1 = T) (hp : (rareT xs n k a b i lvs W E).2.2 = p) (hs : SdTo g k (sdT k a b T).1 (sdT k a b T).2 w w') : rareSOut g xs n k a b i lvs W w (.returned (.float .f32 p)) w' := by
  unfold rareSOut raT raP
  rw [hE, hT, hp]
  exact ⟨rfl, hs⟩
/-- walks of a level -/
def RW (w : World) (g : Nat) (k a b : Int) (H : Nat) (S : Option Addr) (sc : Nat) (st : List Nat) (T : Nat) (came : List Nat) (v : Value) (V : World) : Prop :=
  SdTo g k (sdT k a b T).1 (sdT k a b T).2 w V ∧ H ≤ V.heap.size ∧ V.ownsRow w.heap.size 2 1 (.slice S st.length sc) st.length (nl st) ∧
    ∃ C cc, v = .slice C came.length cc ∧ V.ownsRow H 2 1 (.slice C came.length cc) came.length (nl came)

set_option maxRecDepth 100000 in
set_option maxHeartbeats 3200000 in
theorem l07Rare_any (g : Nat) (k a b : Int) (n i W : Nat) (lvs : List Nat) (A : Option Addr) (xs : List Nat) (c : Nat) (B : Option Addr) (d : Nat) (w : World) (hk : kindB k) (hv : validB n xs = true) (hi : i < n) (hW1 : 1 ≤ W) (hW2 : W ≤ 64) (hL : lvs.length ≤ 8) (hlv : ∀ l ∈ lvs, l ≤ 64) (hg : g < w.heap.size) (hg1 : g + 1 < w.heap.size)
    (hsd : SdAt w g k a b) (h0 : w.cell? ⟨g + 1, 0, none⟩ = some (.int .i64 n)) (h1 : w.cell? ⟨g + 1, 1, none⟩ = some (.slice A xs.length c)) (h : Rd w g A (fl xs)) (h' : Rd w g B (nl lvs)) :
    Calls Try.prog 140 #[.pointer (some ⟨g, 0, none⟩), .pointer (some ⟨g + 1, 0, none⟩), .int .i64 i, .slice B lvs.length d, .int .i64 W] w (rareSOut g xs n k a b i lvs W w) := by
  obtain ⟨n', hn', n1, n2, hl, hp, hrw⟩ := validB_facts hv
  obtain rfl : n = n' := by omega
  have HOK : Hid (∀ j, (∀ q, q < j → (rareT xs n k a b i lvs W (q + 1)).2.1 ≠ []) → (∀ q ∈ (rareT xs n k a b i lvs W j).2.1, q < n) ∧ (rareT xs n k a b i lvs W j).2.1 ≠ [] ∧ (rareT xs n k a b i lvs W j).2.1.length ≤ 64 ∧ unitP (rareT xs n k a b i lvs W j).2.2) := Lib.hid fun j hj => rareT_ok hl hi hW1 hW2 j hj
  have HCW : Hid (∀ lv st T0, (∀ q ∈ st, q < n) → st ≠ [] → ∀ t, (∀ q ∈ (cwT xs n k a b lv st T0 t).2, q < n) ∧ (cwT xs n k a b lv st T0 t).2.length ≤ t) := Lib.hid fun lv st T0 h1 h2 t => cwT_ok hl h1 h2 t
  have HLV : Hid (∀ j, j < lvs.length → lvs.getD j 0 ≤ 64) := Lib.hid fun j hj => by
    rw [List.getD_eq_getElem?_getD, List.getElem?_eq_getElem hj]
    exact hlv _ (List.getElem_mem hj)
  have H0 : Hid ((sdT k a b 0) = (a, b) ∧ rareT xs n k a b i lvs W 0 = (0, [i], 1065353216)) := Lib.hid ⟨rfl, rfl⟩
  have HES : Hid (∀ j, j < lvs.length → (∀ q, q < j → (rareT xs n k a b i lvs W (q + 1)).2.1 ≠ []) → (rareT xs n k a b i lvs W (j + 1)).2.1 = [] → rareE xs n k a b i lvs W = j + 1) := Lib.hid fun j h1 h2 h3 => rareE_some h1 h2 h3
  have HEN : Hid ((∀ q, q < lvs.length → (rareT xs n k a b i lvs W (q + 1)).2.1 ≠ []) → rareE xs n k a b i lvs W = lvs.length) := Lib.hid fun h1 => rareE_none h1
  have HRT : Hid (∀ j, rareT xs n k a b i lvs W (j + 1) = ((cwT xs n k a b (lvs.getD j 0) (rareT xs n k a b i lvs W j).2.1 (rareT xs n k a b i lvs W j).1 W).1, (cwT xs n k a b (lvs.getD j 0) (rareT xs n k a b i lvs W j).2.1 (rareT xs n k a b i lvs W j).1 W).2, chanceN (rareT xs n k a b i lvs W j).2.2 (cwT xs n k a b (lvs.getD j 0) (rareT xs n k a b i lvs W j).2.1 (rareT xs n k a b i lvs W j).1 W).2.length W)) := Lib.hid fun j => rfl
  have HSH : Hid (∀ t V, SdAt V g k (sdT k a b t).1 (sdT k a b t).2 → Calls Try.prog 126 #[.pointer (some ⟨g, 0, none⟩)] V (SShareOut g k (sdT k a b t).1 (sdT k a b t).2 V)) := Lib.hid fun t V hs => l02Share_any g k _ _ hk V hs
  have HCH : Hid (∀ V, w.grownBy V (some g) → V.cell? ⟨g + 1, 0, none⟩ = some (.int .i64 n) ∧ V.cell? ⟨g + 1, 1, none⟩ = some (.slice A xs.length c)) := Lib.hid fun V hV => by
    have hn : some (g + 1) ≠ some g := fun e => by injection e with e; omega
    exact ⟨(hV.cell_far ⟨g + 1, 0, none⟩ hg1 hn).trans h0, (hV.cell_far ⟨g + 1, 1, none⟩ hg1 hn).trans h1⟩
  have HGO : Hid (∀ j u V, j < n → isNan single u = false → w.grownBy V (some g) → Calls Try.prog 127 #[.pointer (some ⟨g + 1, 0, none⟩), .int .i64 (j : Nat), .float .f32 u] V (Quiet (.int .i64 (onC xs n j u)) V)) := Lib.hid fun j u V hj hu hV => l07On_any (g + 1) n j u A xs c V hv hj hu (HCH.out V hV).1 (HCH.out V hV).2 (h.farG hV hg)
  have HSD : Hid (∀ t, nA k (sdT k a b t).1 (sdT k a b t).2 = (sdT k a b (t + 1)).1 ∧ nB k (sdT k a b t).1 (sdT k a b t).2 = (sdT k a b (t + 1)).2 ∧ nU k (sdT k a b t).1 (sdT k a b t).2 = uT k a b t) := Lib.hid fun t => ⟨rfl, rfl, rfl⟩
  have HUN : Hid (∀ t, isNan single (uT k a b t) = false) := Lib.hid fun t => (nU_fin _ _ _).2
  have HPS : Hid (∀ T i m, pR xs n k a b T i (m + 1) = onC xs n (pR xs n k a b T i m) (uT k a b (T + m))) := Lib.hid fun T i m => rfl
  have HPL : Hid (∀ T i m, i < n → pR xs n k a b T i m < n) := Lib.hid fun T i m hi => pR_lt hl hi m
  have HP0 : Hid (∀ T i, pR xs n k a b T i 0 = i) := Lib.hid fun T i => rfl
  have HRM : Hid (∀ lv T i m, m ≤ 64 → (∀ q, q < m → stopB lv (pR xs n k a b T i q) q = false) → stopB lv (pR xs n k a b T i m) m = true → reachM xs n k a b lv T i = m) := Lib.hid fun lv T i m h1 h2 h3 => reachM_is h1 h2 h3
  have HRL : Hid (∀ j, j < lvs.length → ∃ bb off, B = some ⟨bb, off, none⟩ ∧ ∀ V, w.grownBy V (some g) → V.cell? ⟨bb, off + j, none⟩ = some (.int .i64 ((lvs.getD j 0 : Nat) : Int))) := Lib.hid fun j hj => h'.nlFar hg hj
  obtain ⟨i0, hi0, hz0, hz1, hz2⟩ := info_parts info_i64
  have HSDW := Lib.hid hsd
  clear hn' hl hp hrw hv h h' hk hlv h0 h1 hsd HCH
  unfold SShareOut at HSH
  go_enter Try.func140, Try.ntmps140
  go_wp2_with fail
  generalize hW1 : World.alloc w _ = W1
  have ho1 : W1.ownsRow w.heap.size 2 1 (.slice (some ⟨w.heap.size, 0, none⟩) 1 1) 1 (nl [i]) := by
    rw [← hW1]
    have := own_one (w := w) (base := w.heap.size) (e := 2) (x := .int .i64 i) (Nat.le_refl _)
    simpa [nl, il] using this
  have hs1 : SdTo g k a b w W1 := by rw [← hW1]; exact (SdTo.al ⟨grown_refl w _, HSDW.out⟩ _)
  have HO1 := Lib.hid ho1
  have HS1 := Lib.hid hs1
  clear hW1 ho1 hs1
  go_loopw [11, 12, 23] (fun sv pv jv wr => ∃ j S sc, j ≤ lvs.length ∧ jv = .int .i64 (j : Nat) ∧ pv = .float .f32 (rareT xs n k a b i lvs W j).2.2 ∧ sv = .slice S (rareT xs n k a b i lvs W j).2.1.length sc ∧ wr.ownsRow w.heap.size 2 1 (.slice S (rareT xs n k a b i lvs W j).2.1.length sc) (rareT xs n k a b i lvs W j).2.1.length (nl (rareT xs n k a b i lvs W j).2.1) ∧
      SdTo g k (sdT k a b (rareT xs n k a b i lvs W j).1).1 (sdT k a b (rareT xs n k a b i lvs W j).1).2 w wr ∧ (∀ q, q < j → (rareT xs n k a b i lvs W (q + 1)).2.1 ≠ [])) (fun _ _ jv _ => lvs.length - (intOf jv).toNat)
  case atStart => exact ⟨0, _, _, Nat.zero_le _, rfl, by rw [H0.out.2], by rw [H0.out.2]; rfl, by rw [H0.out.2]; exact HO1.out, by rw [H0.out.2]; show SdTo _ _ (sdT k a b 0).1 (sdT k a b 0).2 _ _; rw [H0.out.1]; exact HS1.out, (fun q hq => by omega)⟩
  case round =>
    obtain ⟨j, S, sc, hj, rfl, rfl, rfl, hown, hsd, hne⟩ := hrel
    rename World => wr
    obtain ⟨k1, k2, k3, k4⟩ := HOK.out j hne
    have HRTj := Lib.hid (HRT.out j)
    have HESj := Lib.hid (HES.out j)
    have HNE := Lib.hid hne
    by_cases hjl : j < lvs.length
    · generalize hr : rareT xs n k a b i lvs W j = r at *
      obtain ⟨T0, st, p⟩ := r
      have hlv := HLV.out j hjl
      obtain ⟨bb, off, rfl, hcl⟩ := HRL.out j hjl
      have HCL := Lib.hid hcl
      have HCWj := Lib.hid (HCW.out (lvs.getD j 0) st T0 k1 k2)
      have HRMj := Lib.hid (HRM.out (lvs.getD j 0))
      generalize lvs.getD j 0 = lv at *
      have HS := Lib.hid hsd
      have HO := Lib.hid hown
      have hlt : w.heap.size ≤ wr.heap.size := hsd.1.size
      have hst : 0 < st.length := List.length_pos_iff.2 k2
      obtain ⟨gS, rfl, hgS⟩ : ∃ g, S = some ⟨g, 0, none⟩ ∧ w.heap.size ≤ g := own_at hown hst
      have hgl := (hown.lt gS rfl).2
      have K1 := Lib.hid k1
      have K4 := Lib.hid k4
      clear hsd hown hne hr k1 k2 k4 hcl
      dsimp only at *
      go_wp2_with fail
      have START : Hid (RW w g k a b wr.heap.size (some ⟨gS, 0, none⟩) sc st (cwT xs n k a b lv st T0 0).1 (cwT xs n k a b lv st T0 0).2 (.slice (some ⟨wr.heap.size, 0, none⟩) 0 0) (wr.alloc (.cells #[] 2))) := Lib.hid ⟨HS.out.al _, by simp, HO.out.alloc _, _, _, rfl, World.ownsRow_made wr #[] 0 (Nat.le_refl _) (by unfold maxLen; omega) rfl⟩
      go_loopw [14, 15] (fun v ix V => ∃ t : Nat, t ≤ W ∧ ix = .int .i64 t ∧ RW w g k a b wr.heap.size (some ⟨gS, 0, none⟩) sc st (cwT xs n k a b lv st T0 t).1 (cwT xs n k a b lv st T0 t).2 v V) (fun _ ix _ => W - (intOf ix).toNat)
      case atStart => exact ⟨0, Nat.zero_le _, rfl, START.out⟩
      case round =>
        obtain ⟨t, ht, rfl, hrw⟩ := hrel
        rename World => V
        obtain ⟨c1, c2⟩ := HCWj.out t
        have HCS : Hid (cwT xs n k a b lv st T0 (t + 1) = stepC xs n k a b lv (st.getD (t % st.length) 0) (cwT xs n k a b lv st T0 t)) := Lib.hid rfl
        by_cases htW : t < W
        · obtain ⟨hi', hq⟩ := start_lt (t := t) K1.out (List.length_pos_iff.1 hst)
          have hmod : ((t : Int)).tmod (st.length : Int) = ((t % st.length : Nat) : Int) := by
            rw [Int.tmod_eq_emod_of_nonneg (by omega)]
            rfl
          generalize hcw : cwT xs n k a b lv st T0 t = s at *
          obtain ⟨T, came⟩ := s
          have HCS' := Lib.hid HCS.out
          have HRWt := Lib.hid hrw
          obtain ⟨-, -, hoS, C, cc, rfl, -⟩ := hrw
          have hcS := nl_at hoS hq
          generalize st.getD (t % st.length) 0 = i' at *
          generalize t % st.length = q at *
          have hsl : st.length ≤ 64 := k3
          have hnil : st ≠ [] := List.length_pos_iff.1 hst
          dsimp only at *
          clear hoS c1 hcw HCS
          have HPSt := Lib.hid (HPS.out T i')
          have HPLt := Lib.hid fun m => HPL.out T i' m hi'
          have HP0t := Lib.hid (HP0.out T i')
          have HRMt := Lib.hid (HRMj.out T i')
          have HCT : Hid (∀ M P, reachM xs n k a b lv T i' = M → pR xs n k a b T i' M = P → cwT xs n k a b lv st T0 (t + 1) = (T + M, if lv ≤ P then came ++ [P] else came)) := Lib.hid fun M P hM hP => by
            rw [HCS'.out]
            unfold stepC
            rw [hM, hP]
          clear HCS'
          go_wp2_with fail
          go_loopw [16, 17] (fun pv mv V => ∃ m : Nat, m ≤ 64 ∧ mv = .int .i64 m ∧ pv = .int .i64 (pR xs n k a b T i' m : Nat) ∧ (∀ q, q < m → stopB lv (pR xs n k a b T i' q) q = false) ∧ RW w g k a b wr.heap.size (some ⟨gS, 0, none⟩) sc st (T + m) came (.slice C came.length cc) V) (fun _ mv _ => 64 - (intOf mv).toNat)
          case atStart => exact ⟨0, by omega, rfl, by rw [HP0t.out], (fun q hq => by omega), HRWt.out⟩
          case round =>
            obtain ⟨m, hm, rfl, rfl, hno, hs2, hH2, hoS2, C2, cc2, hC2, hoC2⟩ := hrel
            rename World => V2
            injection hC2 with hC2 _ hC3
            subst hC2 hC3
            have HNO := Lib.hid hno
            have HS2 := Lib.hid hs2
            have HOS2 := Lib.hid hoS2
            have HOC2 := Lib.hid hoC2
            have hcl2 := HCL.out V2 hs2.1
            have hpl := HPLt.out m
            have HRMm := Lib.hid (HRMt.out m hm HNO.out)
            have HCTm := Lib.hid (HCT.out m)
            have HPSm := Lib.hid (HPSt.out m)
            clear hno hs2 hoS2 hoC2 hcS
            generalize hp : pR xs n k a b T i' m = p' at *
            have HP := Lib.hid hp
            clear hp
            by_cases hlp : lv ≤ p'
            · have hM := HRMm.out (by unfold stopB; rw [decide_eq_true hlp]; rfl)
              have HCTe := Lib.hid ((HCTm.out p' hM rfl).trans (by rw [if_pos hlp]))
              clear hM
              go_wp2_with (refine wpList_append_lies _ rfl _ _ _ rfl wr.heap.size 2 i0 _ 1 8 Try.underlying56 hi0 hz0 hz1 hz2 rfl (by omega) (.slice C came.length cc) came.length (nl came) (by rfl) (HOC2.out.alloc _) ⟨V2.heap.size, 0, none⟩ 1 1 [.int .i64 (p' : Int)] (by rfl) (by rfl) (World.news_of_block (cs := #[.int .i64 (p' : Int)]) (t := 2) (fr := (0, 0)) (heap_alloc_new V2 _)) (by simp [Value.oneCell']) (by omega) (by unfold maxLen; omega) (by omega) (by simp; omega) (V2.heap.size + 1) (by simp) ?_; intro g9 cap w9 hown9 hgrow hat hlt9; have HS9 := Lib.hid ((HS2.out.al (.cells #[.int .i64 (p' : Int)] 2)).row hgrow (fun q hq => by have := (HOC2.out.lt q hq).1; omega) hg); have HOS9 := Lib.hid ((HOS2.out.alloc (.cells #[.int .i64 (p' : Int)] 2)).kept hgrow (.inr (fun e => by have := (HOC2.out.lt gS e.symm).1; omega))); have HOC9 := Lib.hid hown9; clear hown9 hgrow hat)
              go_roundw
              case rel =>
                refine ⟨t + 1, by omega, by first | go_num | rfl, ?_⟩
                rw [HCTe.out]
                unfold RW
                dsimp only
                refine ⟨HS9.out, by have := (HOC9.out.lt g9 rfl).1; omega, HOS9.out, some ⟨g9, 0, none⟩, cap, by simp, ?_⟩
                rw [nl_snoc]
                simpa using HOC9.out
              case measure => simp [intOf]; omega
            · by_cases hstp : (0 < m ∧ p' = 0) ∨ m = 64
              · have hM := HRMm.out (by
                  unfold stopB
                  rcases hstp with ⟨h1, h2⟩ | h2
                  · rw [decide_eq_true h1, h2]; simp
                  · rw [h2]; simp)
                have HCTe := Lib.hid ((HCTm.out p' hM rfl).trans (by rw [if_neg hlp]))
                clear hM
                have hcase : (0 < m ∧ m < 64 ∧ p' = 0) ∨ m = 64 := by omega
                clear hstp
                rcases hcase with ⟨h1, h2, rfl⟩ | rfl
                all_goals
                  go_wp2_with fail
                  go_roundw
                  case rel =>
                    refine ⟨t + 1, by omega, by first | go_num | rfl, ?_⟩
                    rw [HCTe.out]
                    exact ⟨HS2.out, hH2, HOS2.out, C, cc, rfl, HOC2.out⟩
                  case measure => simp [intOf]; omega
              · obtain ⟨m', hm'⟩ : ∃ m', m' = m + 1 := ⟨_, rfl⟩
                rw [← hm'] at HPSm
                have HN2 : Hid (∀ q, q < m' → stopB lv (pR xs n k a b T i' q) q = false) := Lib.hid fun q hq => by
                  rcases Nat.lt_or_ge q m with hl | hg
                  · exact HNO.out q hl
                  · obtain rfl : q = m := by omega
                    rw [HP.out]
                    unfold stopB
                    rw [decide_eq_false hlp]
                    have : ¬ (0 < q ∧ p' = 0) := fun h => hstp (.inl h)
                    have h64 : ¬ q = 64 := fun h => hstp (.inr h)
                    clear hm'
                    simp
                    omega
                obtain ⟨q1, q2, q3⟩ := HSD.out (T + m)
                have hsh := HSH.out (T + m) V2 HS2.out.2
                rw [q1, q2, q3, show T + m + 1 = T + m' by omega] at hsh
                have HSHt := Lib.hid hsh
                have HU := Lib.hid (HUN.out (T + m))
                clear q1 q2 q3 hsh
                generalize uT k a b (T + m) = u at *
                have hm64 : m < 64 := by omega
                have hcase : (p' = 0 ∧ m = 0) ∨ p' ≠ 0 := by omega
                clear hstp
                have HG0 : Hid (p' = 0 → ∀ V, w.grownBy V (some g) → Calls Try.prog 127 #[.pointer (some ⟨g + 1, 0, none⟩), .int .i64 0, .float .f32 u] V (Quiet (.int .i64 (onC xs n p' u)) V)) := Lib.hid fun hz V hV => by
                  have := HGO.out p' u V hpl HU.out hV
                  rw [show ((p' : Nat) : Int) = 0 by omega] at this
                  exact this
                rcases hcase with ⟨hz, rfl⟩ | h2
                all_goals
                  first | (have hp0 : ((p' : Int) == 0) = false := by simp; omega) | (have hp1 : (p' : Int) = 0 := by omega)
                  go_wp2_with (first
                    | (go_at_call 126; refine HSHt.out.mono ?_; rintro e w6 ⟨rfl, hs6⟩; have HS6 := Lib.hid (HS2.out.next hs6); have hg6 := HS6.out.1; have HOS6 := Lib.hid (hs6.own HOS2.out hg); have HOC6 := Lib.hid (hs6.own HOC2.out (by omega)); have hH6 : wr.heap.size ≤ w6.heap.size := Nat.le_trans hH2 hs6.1.size; clear hs6)
                    | (go_at_call 127; (with_reducible refine (HGO.out p' u w6 hpl HU.out hg6).mono ?_); rintro e w8 ⟨rfl, m8, rfl⟩)
                    | (go_at_call 127; (with_reducible refine (HG0.out hz w6 hg6).mono ?_); rintro e w8 ⟨rfl, m8, rfl⟩))
                  go_roundw
                  case rel =>
                    refine ⟨m', by omega, by rw [hm']; first | go_num | rfl, by first | (rw [HPSm.out]; done) | (rw [HPSm.out, hz]; done), HN2.out, ?_⟩
                    unfold RW
                    refine ⟨HS6.out.dn m8, hH6, ?_, C, cc, rfl, ?_⟩
                    · exact own_below HOS6.out (below_drewN (Below.refl _ _) m8)
                    · exact own_below HOC6.out (below_drewN (Below.refl _ _) m8)
                  case measure => first | (simp [intOf]; done) | (simp [intOf]; omega)
        · obtain rfl : t = W := by omega
          clear HCS HCWj c1 HRMj HCL
          generalize hcw : cwT xs n k a b lv st T0 t = s at *
          obtain ⟨T, came⟩ := s
          obtain ⟨r1, r2, r3, r4⟩ := chance_runs K4.out c2 hW1 (by omega)
          obtain ⟨hs2, hH2, -, C, cc, rfl, hoC2⟩ := hrw
          have HS2 := Lib.hid hs2
          have HC2 := Lib.hid hoC2
          dsimp only at *
          clear hs2 hoC2 hcw
          have hrun1 := fun w => run_float_arith (P := Try.prog) w .mul 33 .f32 _ _ _ r1
          have hrun2 := fun w => run_float_arith (P := Try.prog) w .quo 33 .f32 _ _ _ r2
          clear r1 r2 r3 r4 HOK K4 K1 HO
          generalize hcame : came.length = l at *
          generalize chanceN p l t = p' at *
          generalize fmul p (rungN l 126) = pm at *
          by_cases hl0 : l = 0
          · subst hl0
            obtain rfl : came = [] := List.length_eq_zero_iff.1 hcame
            have hE := HESj.out hjl HNE.out (by rw [HRTj.out])
            simp only [show (((0 : Nat) : Int)) = (0 : Int) from rfl] at hrun1
            go_wp2_with fail
            go_ret
            exact rs_out hE (by rw [HRTj.out]) (by rw [HRTj.out]) HS2.out
          · have hcn : ((l : Int) == 0) = false := by simp; omega
            have HNE2 : Hid (∀ q, q < j + 1 → (rareT xs n k a b i lvs t (q + 1)).2.1 ≠ []) := Lib.hid fun q hq => by
              rcases Nat.lt_or_ge q j with hl | hg
              · exact HNE.out q hl
              · obtain rfl : q = j := by omega
                rw [HRTj.out]
                exact fun e => hl0 (by rw [← hcame, show came = [] from e]; rfl)
            have HOWN := Lib.hid (own_base HC2.out hlt)
            clear HESj HC2
            go_wp2_with fail
            go_roundw
            case rel =>
              refine ⟨j + 1, C, cc, by omega, by first | go_num | rfl, ?_⟩
              rw [HRTj.out]
              dsimp only
              rw [hcame]
              exact ⟨rfl, rfl, HOWN.out, HS2.out, HNE2.out⟩
            case measure => simp [intOf]; omega
    · obtain rfl : j = lvs.length := by omega
      have hE := HEN.out hne
      generalize hr : rareT xs n k a b i lvs W lvs.length = r at *
      obtain ⟨T0, st, p⟩ := r
      have HS := Lib.hid hsd
      dsimp only at *
      have HR := Lib.hid hr
      clear hown hsd hne HRTj HESj HNE k1 k2 k3 k4 hr
      go_wp2_with fail
      go_ret
      exact rs_out hE (by rw [HR.out]) (by rw [HR.out]) HS.out
end Go.Proofs.Ytddaodjaeommlaa
