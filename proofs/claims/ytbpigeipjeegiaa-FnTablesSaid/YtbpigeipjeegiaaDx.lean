/-
  A drawn table: spec.l06DrawSides, spec.R8Table (the walks).
-/
import Derived.Test.YtbpigeipjeegiaaDw
namespace Go.Proofs.Ytbpigeipjeegiaa
open Go Go.RowKit

theorem at_new (W : World) (cs : Array Value) (t : TypeId) (i B : Nat) (v : Value) (hB : W.heap.size = B) (hv : cs[i]? = some v) : (W.alloc (.cells cs t)).cell? ⟨B, i, none⟩ = some v := by
  subst hB
  rw [World.cell?_alloc_new]
  exact hv
theorem fz_new' (W : World) (cs : Array Value) (t : TypeId) (o B : Nat) (hB : W.heap.size = B) : (W.alloc (.cells cs t)).frozen? ⟨B, o, none⟩ = false := by
  subst hB
  simp
theorem at_up {W : World} {p : Addr} {v : Value} (o : Obj) (h : W.cell? p = some v) : (W.alloc o).cell? p = some v := keepC (below_al (Below.refl _ _) o) h
theorem fz_up' {W : World} {b i : Nat} (o : Obj) (hb : b < W.heap.size) (h : W.frozen? ⟨b, i, none⟩ = false) : (W.alloc o).frozen? ⟨b, i, none⟩ = false := ((below_al (Below.refl W.heap.size W) o).frozen (p := ⟨b, i, none⟩) hb).trans h
theorem at_block {W : World} {b : Nat} {cs : Array Value} {t : TypeId} (h : W.heap[b]? = some (.cells cs t (0, 0))) (i : Nat) {v : Value} (hv : cs[i]? = some v) : W.cell? ⟨b, i, none⟩ = some v := by
  unfold World.cell?
  simp [h, hv]
theorem fz_block {W : World} {b : Nat} {cs : Array Value} {t : TypeId} (h : W.heap[b]? = some (.cells cs t (0, 0))) (i : Nat) : W.frozen? ⟨b, i, none⟩ = false := by
  unfold World.frozen?
  simp [h]
theorem set3_block {W : World} {b : Nat} {x y z : Value} {t : TypeId} (h : W.heap[b]? = some (.cells #[x, y, z] t (0, 0))) (u0 u1 u2 : Value) : (((W.setCell ⟨b, 0, none⟩ u0).setCell ⟨b, 1, none⟩ u1).setCell ⟨b, 2, none⟩ u2).heap[b]? = some (.cells #[u0, u1, u2] t (0, 0)) := by
  simp [World.setCell, Array.getElem?_modify, h]
set_option maxRecDepth 100000 in
set_option maxHeartbeats 3200000 in
theorem drawSides_any (g R C M N n c m : Nat) (A : Option Addr) (w : World) (hn : n ≤ 1048576) (hm : m ≤ 1000) (hN : IntKind.i64.wrap ((R : Int) * (C : Int)) = (N : Int)) (hN1 : 1 ≤ N ∧ N ≤ 9) (hM : 1 ≤ M ∧ M ≤ 100) (h : Sc w g A n c m) :
    Calls Try.prog 16 #[.pointer (some ⟨g, 0, none⟩), .int .i64 R, .int .i64 C, .int .i64 M] w (fun e w' => ∃ (x0 : Nat) (xs : List Nat) (g3 c3 : Nat), xs.length + 1 = N ∧ x0 ≤ M ∧ (∀ x, x ∈ xs → x ≤ M) ∧ e = .returned (.agg #[.int .i64 R, .int .i64 C, .slice (some ⟨g3, 0, none⟩) N c3]) ∧ w'.ownsRow w.heap.size 2 1 (.slice (some ⟨g3, 0, none⟩) N c3) N (nlv ((x0 + 1) :: xs)) ∧ Kp [g] w w') := by
  obtain ⟨i0, hi0, hz0, hz1, hz2⟩ := info_parts info_i64
  have hM1 : IntKind.i64.wrap ((M : Int) + 1) = (M : Int) + 1 := IntWalk.i64_in _ (by omega)
  have HS := Lib.hid h
  have hlg := h.lt
  have HLG := Lib.hid hlg
  have START : Hid (∀ W, W = ((w.alloc (.cells #[.int .i64 0, .int .i64 0, .slice none 0 0] 26)).alloc (.cells #[] 2)).alloc (.cells #[.int .i64 R, .int .i64 C, .slice (some ⟨w.heap.size + 1, 0, none⟩) 0 0] 26) → DS w g w.heap.size (w.heap.size + 1 + 1) R C A n c m [] (w.heap.size + 1) 0 W) := Lib.hid fun W hW => by
    have hb : Below w.heap.size w W := by
      rw [hW]
      repeat (first | exact Below.refl _ _ | refine below_al ?_ _)
    refine ⟨Kp.of_below hb, ?_, ?_, ?_, ?_, ?_, ?_, HS.out.keep hb, by omega, by omega, by omega, HLG.out, by omega, by omega⟩
    · rw [hW]; exact at_new _ _ _ _ _ _ (by simp) rfl
    · rw [hW]; exact at_new _ _ _ _ _ _ (by simp) rfl
    · rw [hW]; exact at_new _ _ _ _ _ _ (by simp) rfl
    · intro o; rw [hW]; exact fz_new' _ _ _ _ _ (by simp)
    · rw [hW, heap_alloc_old _ _ (by simp; omega), heap_alloc_old _ _ (by simp), heap_alloc_new]
    · rw [hW]
      have h1 : (w.alloc (.cells #[.int .i64 0, .int .i64 0, .slice none 0 0] 26)).heap.size = w.heap.size + 1 := by simp
      have := World.ownsRow_made (w.alloc (.cells #[.int .i64 0, .int .i64 0, .slice none 0 0] 26)) (e := 2) (size := 1) #[] 0 (Nat.le_refl _) (by unfold maxLen; omega) rfl
      rw [h1] at this
      exact (own_base this (by omega)).alloc _
  clear h hlg
  go_enter Try.func16, Try.ntmps16
  go_upto_region 2 with fail
  have D0 := Lib.hid (START.out _ rfl)
  clear START
  generalize World.alloc (World.alloc (World.alloc w _) _) _ = W0 at *
  generalize w.heap.size + 1 + 1 = bt at *
  go_wp2_with fail
  go_loopg [10] N (fun k iv wr => ∃ (xs : List Nat) (g3 c3 : Nat), iv = .int .i64 k ∧ xs.length + k ≤ N ∧ N ≤ xs.length + k ∧ (∀ x, x ∈ xs → x ≤ M) ∧ DS w g w.heap.size bt R C A n c (m + 2 * xs.length) xs g3 c3 wr)
  case atStart => exact ⟨[], _, _, rfl, by simp, by simp, fun x hx => absurd hx (by simp), D0.out⟩
  case round =>
    clear D0
    obtain ⟨xs, g3, c3, rfl, h1, h2, h3, hD⟩ := hrel
    have HX := Lib.hid h3
    have D := Lib.hid hD
    have HL := Lib.hid (And.intro h1 h2)
    by_cases hk : 0 < gk
    · have hkI : (0 : Int) < (gk : Int) := by omega
      have hxl : xs.length ≤ 9 := by omega
      have hkw : IntKind.i64.wrap ((gk : Int) - 1) = ((gk - 1 : Nat) : Int) := by
        rw [show (gk : Int) - 1 = ((gk - 1 : Nat) : Int) by omega]
        exact IntWalk.i64_in _ (by omega)
      have HPq : Hid (Calls Try.prog 29 #[.pointer (some ⟨g, 0, none⟩), .int .i64 ((M : Int) + 1)] wr.drew (PickOut g A n c (m + 2 * xs.length) (M + 1) wr.drew)) := Lib.hid (pick_any g A n c (m + 2 * xs.length) (M + 1) wr.drew hn (by omega) (by omega) hD.sc)
      unfold PickOut at HPq
      have t2 := hD.t2
      have hown := Lib.hid hD.ow
      have HNE : Hid (∀ w2, wr.drew.grownBy w2 (some g) → w2.cell? ⟨bt, 2, none⟩ = some (.slice (some ⟨g3, 0, none⟩) xs.length c3) ∧ w2.ownsRow w.heap.size 2 1 (.slice (some ⟨g3, 0, none⟩) xs.length c3) xs.length (nlv xs) ∧ w.heap.size ≤ w2.heap.size ∧ bt < w2.heap.size) := Lib.hid fun w2 hg => by
        have kd := Kp.of_grown hg
        have k9 : Kp [g] wr w2 := ⟨kd.os, kd.tape, kd.output, kd.size, kd.block⟩
        have e1 := D.out.lg
        have e2 := D.out.l1
        have e3 := (D.out.ow.lt g3 rfl).1
        exact ⟨k9.cell (p := ⟨bt, 2, none⟩) D.out.t2 (by simp; omega), own_block D.out.ow (k9.block g3 (own_ltg D.out.ow) (by simp; omega)), Nat.le_trans D.out.kp.size k9.size, Nat.lt_of_lt_of_le (lt_of_cell (a := ⟨bt, 0, none⟩) D.out.t0) k9.size⟩
      have hbtl : bt < wr.heap.size := lt_of_cell (a := ⟨bt, 0, none⟩) D.out.t0
      clear h1 h2 h3 hD
      go_wp2_with fail
      go_region_law (first
        | (refine step_append_lies _ (by rfl) _ _ _ (by rfl) w.heap.size 2 i0 _ 1 8 Try.underlying24 hi0 hz0 hz1 hz2 rfl (by omega) (.slice (some ⟨g3, 0, none⟩) xs.length c3) xs.length (nlv xs) (by rfl) (HO9.out.alloc _) ⟨w9.heap.size, 0, none⟩ 1 1 [.int .i64 (x : Nat)] (by rfl) (by rfl) (World.news_of_block (cs := #[.int .i64 (x : Nat)]) (t := 2) (fr := (0, 0)) (heap_alloc_new w9 _)) (by simp [Value.oneCell']) (by omega) (by unfold maxLen; omega) (by omega) (by have := HZ9.out; simp; omega) (w9.heap.size + 1) (by simp) ?_
           intro g8 cap8 w3 hown3 hgrow hat hlt3
           obtain ⟨c4', f3, hD8⟩ := D.out.step HS9.out hgrow hown3 (by rcases hat with e | e; exact .inl (Option.some.inj e).symm; exact .inr e)
           have D8 := Lib.hid hD8
           clear hD8 hgrow hat hown3)
        | (go_simp; go_at_call 29; refine HPq.out.mono ?_; rintro e w9 ⟨x, hxM, _, rfl, hs⟩; obtain ⟨k4, o9, z9, k9⟩ := HNE.out _ hs.1; have HO9 := Lib.hid o9; have HZ9 := Lib.hid z9; have HS9 := Lib.hid hs; clear hs o9 z9))
      all_goals
        go_wp2_with fail
        go_roundg (gk - 1)
        case rel =>
          refine ⟨xs ++ [x], g8, cap8, by first | rfl | go_num | (congr 1; omega), by have := HL.out; simp; omega, by have := HL.out; simp; omega, fun d hd => ?_, ?_⟩
          · rw [List.mem_append] at hd
            rcases hd with hd | hd
            · exact HX.out d hd
            · have hd : d = x := by simpa using hd
              omega
          · rw [List.length_append, show m + 2 * (xs.length + [x].length) = m + 2 * xs.length + 2 by simp; omega]
            exact D8.out
        case measure => omega
    · obtain rfl : gk = 0 := by omega
      obtain ⟨x0, xr, rfl⟩ : ∃ x0 xr, xs = x0 :: xr := by
        cases xs with
        | nil =>
          have := HL.out
          simp at this
          omega
        | cons a l => exact ⟨a, l, rfl⟩
      have hown := hD.ow
      have t0 := hD.t0
      have t1 := hD.t1
      have t2 := hD.t2
      have q0 := hown.cellAt 0 (by simp)
      have qf := hown.frozenAt 0
      rw [show (nlv (x0 :: xr))[0]? = some (.int .i64 (x0 : Nat)) from rfl] at q0
      have hx0 := h3 x0 (by simp)
      have hw0 : IntKind.i64.wrap ((x0 : Int) + 1) = ((x0 + 1 : Nat) : Int) := by
        rw [show (x0 : Int) + 1 = ((x0 + 1 : Nat) : Int) by omega]
        exact IntWalk.i64_in _ (by omega)
      have hlen : (x0 :: xr).length = N := by have := HL.out; omega
      have hN0 : (0 : Int) < (N : Int) := by omega
      have hSX := hown.stored 0 (.int .i64 ((x0 + 1 : Nat) : Int))
      have F9 : Hid (∀ W, W = wr.setCell ⟨g3, 0, none⟩ (.int .i64 ((x0 + 1 : Nat) : Int)) → W.cell? ⟨bt, 0, none⟩ = some (.int .i64 R) ∧ W.cell? ⟨bt, 1, none⟩ = some (.int .i64 C) ∧ W.cell? ⟨bt, 2, none⟩ = some (.slice (some ⟨g3, 0, none⟩) N c3) ∧ W.heap[w.heap.size]? = some (.cells #[.int .i64 0, .int .i64 0, .slice none 0 0] 26 (0, 0)) ∧ W.ownsRow w.heap.size 2 1 (.slice (some ⟨g3, 0, none⟩) N c3) N (nlv ((x0 + 1) :: xr)) ∧ Kp [g] w W ∧ g3 ≠ w.heap.size) := Lib.hid fun W hW => by
        subst hW
        have d1 := D.out.d1
        have d2 := D.out.d2
        have o3 := (D.out.ow.lt g3 rfl).1
        rw [← hlen]
        refine ⟨(World.cell?_setCell_other _ _ _ _ (by first | (simp; done) | (simp; omega))).trans D.out.t0, (World.cell?_setCell_other _ _ _ _ (by first | (simp; done) | (simp; omega))).trans D.out.t1, (World.cell?_setCell_other _ _ _ _ (by first | (simp; done) | (simp; omega))).trans D.out.t2, ?_, ?_, D.out.kp.set g3 0 _ (.inr o3), d2⟩
        · rw [Below.heap_setCell _ _ _ _ (fun e => d2 e.symm)]
          exact D.out.rb
        · exact hSX.1
      clear h1 h2 hD hown hSX
      rw [hlen] at t2
      have hy0 : x0 + 1 = x0 + 1 := rfl
      generalize hyy : x0 + 1 = y0 at *
      have HYY := Lib.hid hyy
      clear hyy hy0
      go_upto_region 7 with fail
      have hF := F9.out _ rfl
      have FF := Lib.hid hF
      obtain ⟨e0, e1, e2, rb, -, -, -⟩ := hF
      have r0 := at_block rb 0 rfl
      have r1 := at_block rb 1 rfl
      have r2 := at_block rb 2 rfl
      have f0 := fz_block rb 0
      have f1 := fz_block rb 1
      have f2 := fz_block rb 2
      clear F9 t0 t1 t2 q0 qf rb
      generalize World.setCell wr _ _ = W9 at *
      go_wp2_with fail
      obtain ⟨-, -, -, rb, ow, kp, hne⟩ := FF.out
      rw [← HYY.out] at ow
      refine bodyPost_ret (results_cell_row rfl _ _ w.heap.size 26 #[.int .i64 R, .int .i64 C, .slice (some ⟨g3, 0, none⟩) N c3] (0, 0) _ (by rfl) (set3_block rb _ _ _) Try.underlying26 rfl (by kernel_rfl)) rfl ?_
      refine ⟨x0, xr, g3, c3, by simpa using hlen, hx0, fun x hx => HX.out x (by simp [hx]), rfl, own_block ow ?_, ((kp.set _ 0 _ (.inr (Nat.le_refl _))).set _ 1 _ (.inr (Nat.le_refl _))).set _ 2 _ (.inr (Nat.le_refl _))⟩
      rw [Below.heap_setCell _ _ _ _ hne, Below.heap_setCell _ _ _ _ hne, Below.heap_setCell _ _ _ _ hne]
theorem below_set3 {w W : World} (h : Below w.heap.size w W) (u0 u1 u2 : Value) : Below w.heap.size w (((W.setCell ⟨w.heap.size, 0, none⟩ u0).setCell ⟨w.heap.size, 1, none⟩ u1).setCell ⟨w.heap.size, 2, none⟩ u2) :=
  below_set (below_set (below_set h ⟨w.heap.size, 0, none⟩ u0 (Nat.le_refl _)) ⟨w.heap.size, 1, none⟩ u1 (Nat.le_refl _)) ⟨w.heap.size, 2, none⟩ u2 (Nat.le_refl _)
set_option maxRecDepth 100000 in
set_option maxHeartbeats 3200000 in
theorem R8Table_any (R C M N n c : Nat) (A : Option Addr) (w : World) (hn : n ≤ 1048576) (hN : IntKind.i64.wrap ((R : Int) * (C : Int)) = (N : Int)) (hN1 : 1 ≤ N ∧ N ≤ 9) (hM : 1 ≤ M ∧ M ≤ 100) (h : ∀ a, a < n → ∃ b off v, A = some ⟨b, off, none⟩ ∧ b < w.heap.size ∧ (v : Nat) ≤ 255 ∧ w.cell? ⟨b, off + a, none⟩ = some (.int .u8 (v : Nat))) :
    Calls Try.prog 5 #[.slice A n c, .int .i64 R, .int .i64 C, .int .i64 M] w (fun e w' => ∃ (x0 : Nat) (xs : List Nat) (g3 c3 : Nat), xs.length + 1 = N ∧ x0 ≤ M ∧ (∀ x, x ∈ xs → x ≤ M) ∧ e = .returned (.agg #[.int .i64 R, .int .i64 C, .slice (some ⟨g3, 0, none⟩) N c3]) ∧ w'.ownsRow w.heap.size 2 1 (.slice (some ⟨g3, 0, none⟩) N c3) N (nlv ((x0 + 1) :: xs)) ∧ Below w.heap.size w w') := by
  have HF : Hid (∀ W, Below w.heap.size w W → Calls Try.prog 15 #[.slice A n c] W (fun e w' => e = .returned (.pointer (some ⟨W.heap.size, 0, none⟩)) ∧ Below W.heap.size W w' ∧ w'.heap.size = W.heap.size + 1 ∧ Sc w' W.heap.size A n c 0)) := Lib.hid fun W hW => l00From_any A n c W fun a ha => by
    obtain ⟨b, off, v, e, hb, hv, hc⟩ := h a ha
    exact ⟨b, off, v, e, Nat.lt_of_lt_of_le hb hW.size, hv, keepC hW hc⟩
  have HD : Hid (∀ g W, Sc W g A n c 0 → Calls Try.prog 16 #[.pointer (some ⟨g, 0, none⟩), .int .i64 R, .int .i64 C, .int .i64 M] W (fun e w' => ∃ (x0 : Nat) (xs : List Nat) (g3 c3 : Nat), xs.length + 1 = N ∧ x0 ≤ M ∧ (∀ x, x ∈ xs → x ≤ M) ∧ e = .returned (.agg #[.int .i64 R, .int .i64 C, .slice (some ⟨g3, 0, none⟩) N c3]) ∧ w'.ownsRow W.heap.size 2 1 (.slice (some ⟨g3, 0, none⟩) N c3) N (nlv ((x0 + 1) :: xs)) ∧ Kp [g] W w')) := Lib.hid fun g W hs => drawSides_any g R C M N n c 0 A W hn (by omega) hN hN1 hM hs
  clear h hN hN1 hM hn
  go_enter Try.func5, Try.ntmps5
  go_upto_region 1 with fail
  have rb := heap_alloc_new w (.cells #[.int .i64 0, .int .i64 0, .slice none 0 0] 26)
  have B0 : Below w.heap.size w (w.alloc (.cells #[.int .i64 0, .int .i64 0, .slice none 0 0] 26)) := below_al (Below.refl _ _) _
  have hz : (w.alloc (.cells #[.int .i64 0, .int .i64 0, .slice none 0 0] 26)).heap.size = w.heap.size + 1 := by simp
  have RB := Lib.hid rb
  have BB := Lib.hid B0
  have HZ := Lib.hid hz
  clear rb B0 hz
  generalize World.alloc w _ = W0 at *
  have HF0 := Lib.hid (HF.out W0 BB.out)
  rw [HZ.out] at HF0
  clear HF
  go_wp2_with fail
  refine HF0.out.mono ?_
  rintro e W1 ⟨rfl, hb1, hz1, hs1⟩
  have rb1 := (hb1.block w.heap.size (by have := HZ.out; omega)).trans RB.out
  have HD1 := Lib.hid (HD.out _ _ hs1)
  have RB1 := Lib.hid rb1
  have B1 := Lib.hid (BB.out.trans (hb1.mono (Nat.le_succ _)))
  have HZ1 := Lib.hid hz1
  clear HD HF0 hb1 hz1 hs1 rb1 RB
  go_wp2_with fail
  refine HD1.out.mono ?_
  rintro e W2 ⟨x0, xs, g3, c3, hl, hx0, hxs, rfl, hown, hk⟩
  have rb2 := (hk.block w.heap.size (by have h1 := HZ.out; have h2 := HZ1.out; omega) (by simp)).trans RB1.out
  have r0 := at_block rb2 0 rfl
  have r1 := at_block rb2 1 rfl
  have r2 := at_block rb2 2 rfl
  have f0 := fz_block rb2 0
  have f1 := fz_block rb2 1
  have f2 := fz_block rb2 2
  have RB2 := Lib.hid rb2
  have HO := Lib.hid hown
  have HX := Lib.hid (And.intro hl (And.intro hx0 hxs))
  have HK := Lib.hid (show Below w.heap.size w W2 from B1.out.trans (hk.below (B0 := w.heap.size) (by have h1 := HZ.out; have h2 := HZ1.out; omega) (fun b hb => by simp at hb; omega)))
  clear HD1 rb2 hown hl hx0 hxs hk
  go_wp2_with fail
  refine bodyPost_ret (results_cell_row rfl _ _ w.heap.size 26 #[.int .i64 R, .int .i64 C, .slice (some ⟨g3, 0, none⟩) N c3] (0, 0) _ (by rfl) (set3_block RB2.out _ _ _) Try.underlying26 rfl (by kernel_rfl)) rfl ?_
  have hlt := (HO.out.lt g3 rfl).1
  have hne : g3 ≠ w.heap.size := by have h1 := HZ.out; have h2 := HZ1.out; omega
  refine ⟨x0, xs, g3, c3, HX.out.1, HX.out.2.1, HX.out.2.2, rfl, own_base (own_block HO.out ?_) (by have h1 := HZ.out; have h2 := HZ1.out; omega), below_set3 HK.out _ _ _⟩
  rw [Below.heap_setCell _ _ _ _ hne, Below.heap_setCell _ _ _ _ hne, Below.heap_setCell _ _ _ _ hne]
end Go.Proofs.Ytbpigeipjeegiaa
