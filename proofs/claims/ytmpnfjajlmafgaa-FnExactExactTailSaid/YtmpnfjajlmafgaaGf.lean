/-
  spec.l06Walk, a column more, two rows (printed by walkgen.py).
-/
import Derived.Test.YtmpnfjajlmafgaaGl
namespace Go.Proofs.Ytmpnfjajlmafgaa
open Go Go.RowKit

set_option maxRecDepth 100000 in
set_option maxHeartbeats 3200000 in
theorem l06Walk2_any (own : Int) (C cc : Nat) (cols : List Nat) (hC : C ≤ 4) (hcl : cols.length = C) (hcb : ∀ i : Nat, cols[i]! ≤ 60) : ∀ (m at9 : Nat), at9 + m = C → ∀ (wt : Int) (gr cr gc r0 r1 : Nat) (w : World), r0 ≤ 60 → r1 ≤ 60 → w.cell? ⟨gr, 0, none⟩ = some (.int .i64 (r0 : Nat)) → w.cell? ⟨gr, 1, none⟩ = some (.int .i64 (r1 : Nat)) → (∀ i : Nat, i < C → w.cell? ⟨gc, i, none⟩ = some (.int .i64 (cols[i]! : Nat))) →
    Calls Try.prog 40 #[.slice (some ⟨gr, 0, none⟩) 2 cr, .slice (some ⟨gc, 0, none⟩) C cc, .int .i64 at9, .int .i64 wt, .int .i64 own] w (walkOut (wlk2 own (cols.drop at9) r0 r1 wt) w)
  | 0, at9, hm, wt, gr, cr, gc, r0, r1, w, b0, b1, q0, q1, hc => by
    obtain rfl : at9 = C := by omega
    rw [List.drop_of_length_le (by omega)]
    exact walk2_base own wt at9 gr cr gc cc r0 r1 w q0 q1
  | m + 1, at9, hm, wt, gr, cr, gc, r0, r1, w, b0, b1, q0, q1, hc => by
    obtain ⟨i0, hi0, hz0, hz1, hz2⟩ := info_parts info_i64
    have ih := l06Walk2_any own C cc cols hC hcl hcb m (at9 + 1) (by omega)
    have hlt : at9 < C := by omega
    have hdr : cols.drop at9 = cols[at9]! :: cols.drop (at9 + 1) := by
      rw [getElem!_pos cols at9 (by omega)]
      exact List.drop_eq_getElem_cons (by omega)
    rw [hdr]
    have HIH : Hid (∀ (W : World) (wt2 : Int) (g2 c2 p0 p1 : Nat), Below w.heap.size w W → p0 ≤ 60 → p1 ≤ 60 → W.ownsRow w.heap.size 2 1 (.slice (some ⟨g2, 0, none⟩) 2 c2) 2 [.int .i64 (p0 : Nat), .int .i64 (p1 : Nat)] → Calls Try.prog 40 #[.slice (some ⟨g2, 0, none⟩) 2 c2, .slice (some ⟨gc, 0, none⟩) C cc, .int .i64 ((at9 + 1 : Nat) : Int), .int .i64 wt2, .int .i64 own] W (walkOut (wlk2 own (cols.drop (at9 + 1)) p0 p1 wt2) W)) := Lib.hid fun W wt2 g2 c2 p0 p1 hW k0 k1 ho => ih wt2 g2 c2 gc p0 p1 W k0 k1 (own_cellAt ho rfl) (own_cellAt ho rfl) (fun i hi => keepC hW (hc i hi))
    have qc := hc at9 hlt
    have hcc := hcb at9
    clear ih hdr hc
    generalize cols[at9]! = c at *
    obtain ⟨G, hG⟩ : ∃ G : Nat → Nat → Int × Int → Int × Int, G = fun x y acc => if c - x - y = 0 then addP acc (wlk2 own (cols.drop (at9 + 1)) (r0 - x) (r1 - y) (IntKind.i64.wrap (wt * wyTo [x, y] 2))) else acc := ⟨_, rfl⟩
    have HGY : Hid (∀ x y acc, c - x - y = 0 → G x y acc = addP acc (wlk2 own (cols.drop (at9 + 1)) (r0 - x) (r1 - y) (IntKind.i64.wrap (wt * wyTo [x, y] 2)))) := Lib.hid fun x y acc h => by
      rw [hG]
      exact if_pos h
    have HGN : Hid (∀ x y acc, ¬ (c - x - y = 0) → G x y acc = acc) := Lib.hid fun x y acc h => by
      rw [hG]
      exact if_neg h
    obtain ⟨F, hF⟩ : ∃ F : Nat → Int × Int, F = fun k => foldN (fun x acc => foldN (G x) (min r1 (c - x) + 1) acc) k (0, 0) := ⟨_, rfl⟩
    have HF0 : Hid (F 0 = (0, 0)) := Lib.hid (by rw [hF]; rfl)
    have HFS : Hid (∀ x, foldN (G x) (min r1 (c - x) + 1) (F x) = F (x + 1)) := Lib.hid fun x => by rw [hF]; rfl
    have HFE : Hid (wlk2 own (c :: cols.drop (at9 + 1)) r0 r1 wt = F (min r0 c + 1)) := Lib.hid (by rw [hF, hG]; rfl)
    have HI0 : Hid (∀ x a, foldN (G x) 0 a = a) := Lib.hid fun x a => rfl
    have HIS : Hid (∀ x k a, foldN (G x) (k + 1) a = G x k (foldN (G x) k a)) := Lib.hid fun x k a => rfl
    rw [HFE.out]
    have HM1 : Hid (∀ W, Calls Try.prog 64 #[.int .i64 (r0 : Nat), .int .i64 (c : Nat)] W (SameOut (.int .i64 ((min r0 c : Nat) : Int)) W)) := Lib.hid fun W => by
      have := l00Min_any (r0 : Nat) (c : Nat) W
      rw [show (if ((r0 : Nat) : Int) < ((c : Nat) : Int) then ((r0 : Nat) : Int) else ((c : Nat) : Int)) = ((min r0 c : Nat) : Int) by split <;> omega] at this
      exact this
    have HM2 : Hid (∀ (e : Nat) W, Calls Try.prog 64 #[.int .i64 (r1 : Nat), .int .i64 (e : Nat)] W (SameOut (.int .i64 ((min r1 e : Nat) : Int)) W)) := Lib.hid fun e W => by
      have := l00Min_any (r1 : Nat) (e : Nat) W
      rw [show (if ((r1 : Nat) : Int) < ((e : Nat) : Int) then ((r1 : Nat) : Int) else ((e : Nat) : Int)) = ((min r1 e : Nat) : Int) by split <;> omega] at this
      exact this
    have HWY : Hid (∀ (g9 c9 : Nat) (xs : List Nat) (W : World), xs.length = 2 → xs.sum ≤ 60 → W.ownsRow w.heap.size 2 1 (.slice (some ⟨g9, 0, none⟩) 2 c9) 2 (nlv xs) → Calls Try.prog 73 #[.slice (some ⟨g9, 0, none⟩) 2 c9] W (fun e w' => e = .returned (.int .i64 (wyTo xs 2)) ∧ Below W.heap.size W w')) := Lib.hid fun g9 c9 xs W hl hs ho =>
      l06Ways_any g9 0 2 c9 xs W (by omega) (fun i hi => Nat.le_trans (preSum_sum xs i (by omega)) hs) fun i hi => by
        rw [Nat.zero_add]
        exact own_cellAt ho (nlv_at (by omega))
    have hwc : ∀ x : Nat, x ≤ c → IntKind.i64.wrap ((c : Int) - (x : Int)) = ((c - x : Nat) : Int) := fun x h => by
      rw [show (c : Int) - (x : Int) = ((c - x : Nat) : Int) by omega]
      exact IntWalk.i64_in _ (by omega)
    have HWC := Lib.hid hwc
    have hatI : (at9 : Int) < (C : Int) := by omega
    have hatN : ¬ (at9 : Int) = (C : Int) := by omega
    have hatN2 : ¬ at9 = C := by omega
    have hatB : ((at9 : Int) == (C : Int)) = false := by simp; omega
    have hat1 : IntKind.i64.wrap ((at9 : Int) + 1) = ((at9 + 1 : Nat) : Int) := by
      rw [show (at9 : Int) + 1 = ((at9 + 1 : Nat) : Int) by omega]
      exact IntWalk.i64_in _ (by omega)
    unfold walkOut at *
    unfold SameOut at HM1 HM2
    clear hG hF hwc HFE hm hcl hcb
    generalize wlk2 own (cols.drop (at9 + 1)) = rec at *
    go_enter Try.func40, Try.ntmps40
    go_wp2_with fail
    go_loopg [13, 14, 15] (min r0 c + 1) (fun k pv av iv wr => ∃ x : Nat, x + k ≤ min r0 c + 1 ∧ min r0 c + 1 ≤ x + k ∧ iv = .int .i64 x ∧ pv = .int .i64 (F x).1 ∧ av = .int .i64 (F x).2 ∧ Below w.heap.size w wr)
    case atStart => exact ⟨0, by omega, by omega, rfl, by rw [HF0.out], by rw [HF0.out], Below.refl _ _⟩
    case round =>
      obtain ⟨x, hx, hx2, rfl, rfl, rfl, hb⟩ := hrel
      have B := Lib.hid hb
      clear hb
      have k0 := keepC B.out q0
      have k1 := keepC B.out q1
      have kc := keepC B.out qc
      by_cases hxm : x ≤ min r0 c
      · have hxI : (x : Int) ≤ ((min r0 c : Nat) : Int) := by omega
        have hxc := HWC.out x (by omega)
        obtain ⟨ko, hko⟩ : ∃ ko, gk = ko + 1 := ⟨gk - 1, by omega⟩
        subst hko
        have HXK : Hid (x + 1 + ko ≤ min r0 c + 1 ∧ min r0 c + 1 ≤ x + 1 + ko) := Lib.hid (by omega)
        clear hx hx2
        go_wp2_with fail
        go_quiet ((with_reducible exact (HM1.out _).mono fun _ _ h => ⟨h.1, _, h.2.symm⟩))
        have B := Lib.hid (below_drewN B.out nq)
        clear k0 k1 kc
        generalize wr.drewN nq = w1 at *
        have HMY := Lib.hid fun W => HM2.out (c - x) W
        clear HM1 HM2
        go_wp2_with fail
        go_loopg [13, 14, 16] (min r1 (c - x) + 1) (fun k pv av iv wk => ∃ y : Nat, y + k ≤ min r1 (c - x) + 1 ∧ min r1 (c - x) + 1 ≤ y + k ∧ iv = .int .i64 y ∧ pv = .int .i64 (foldN (G x) y (F x)).1 ∧ av = .int .i64 (foldN (G x) y (F x)).2 ∧ Below w.heap.size w wk)
        case atStart => exact ⟨0, by omega, by omega, rfl, by rw [HI0.out], by rw [HI0.out], B.out⟩
        case round =>
          rename World => wk
          obtain ⟨y, hy, hy2, rfl, rfl, rfl, hb⟩ := hrel
          clear B
          have B := Lib.hid hb
          clear hb
          have k0 := keepC B.out q0
          have k1 := keepC B.out q1
          have kc := keepC B.out qc
          by_cases hym : y ≤ min r1 (c - x)
          · have hyI : (y : Int) ≤ ((min r1 (c - x) : Nat) : Int) := by omega
            obtain ⟨ki, hki⟩ : ∃ ki, gk = ki + 1 := ⟨gk - 1, by omega⟩
            subst hki
            have HYK : Hid (y + 1 + ki ≤ min r1 (c - x) + 1 ∧ min r1 (c - x) + 1 ≤ y + 1 + ki) := Lib.hid (by omega)
            clear hy hy2
            have hyc : IntKind.i64.wrap (((c - x : Nat) : Int) - (y : Int)) = ((c - x - y : Nat) : Int) := by
              rw [show ((c - x : Nat) : Int) - (y : Int) = ((c - x - y : Nat) : Int) by omega]
              exact IntWalk.i64_in _ (by omega)
            have hw0 : IntKind.i64.wrap ((r0 : Int) - (x : Int)) = ((r0 - x : Nat) : Int) := by
              rw [show (r0 : Int) - (x : Int) = ((r0 - x : Nat) : Int) by omega]
              exact IntWalk.i64_in _ (by omega)
            have hw1 : IntKind.i64.wrap ((r1 : Int) - (y : Int)) = ((r1 - y : Nat) : Int) := by
              rw [show (r1 : Int) - (y : Int) = ((r1 - y : Nat) : Int) by omega]
              exact IntWalk.i64_in _ (by omega)
            go_wp2_with fail
            go_quiet ((with_reducible exact (HMY.out _).mono fun _ _ h => ⟨h.1, _, h.2.symm⟩))
            have B := Lib.hid (below_drewN B.out nq)
            clear k0 k1 kc
            generalize wk.drewN nq = w2 at *
            have k0 := keepC B.out q0
            have k1 := keepC B.out q1
            have kc := keepC B.out qc
            by_cases hz : c - x - y = 0
            · have HST := Lib.hid (HIS.out x y (F x))
              have HGG := Lib.hid (HGY.out x y (foldN (G x) y (F x)) hz)
              have hzI : ((c - x - y : Nat) : Int) = 0 := by omega
              have HM : Hid (∀ W, Below w2.heap.size w2 W → W.cell? ⟨gr, 0, none⟩ = some (.int .i64 (r0 : Nat)) ∧ W.cell? ⟨gr, 1, none⟩ = some (.int .i64 (r1 : Nat))) := Lib.hid fun W hW => ⟨keepC hW k0, keepC hW k1⟩
              have hS := HM.out w2 (Below.refl _ _)
              have hbs := B.out.size
              have N2 : Hid (∀ W, W = ((w2.alloc (.cells #[.int .i64 ((r0 - x : Nat) : Int), .int .i64 ((r1 - y : Nat) : Int)] 2)).alloc (.cells #[.int .i64 x, .int .i64 y] 2)).drew → W.ownsRow w.heap.size 2 1 (.slice (some ⟨w2.heap.size, 0, none⟩) 2 2) 2 [.int .i64 ((r0 - x : Nat) : Int), .int .i64 ((r1 - y : Nat) : Int)] ∧ W.ownsRow w.heap.size 2 1 (.slice (some ⟨w2.heap.size + 1, 0, none⟩) 2 2) 2 [.int .i64 x, .int .i64 y] ∧ Below w.heap.size w W ∧ Below w2.heap.size w2 W) := Lib.hid fun W hW => by
                subst hW
                refine ⟨own_below ((own_two (w := w2) hbs).alloc _) (below_dr (Below.refl _ _)), own_below ?_ (below_dr (Below.refl _ _)), below_dr (below_al (below_al B.out _) _), below_dr (below_al (below_al (Below.refl _ _) _) _)⟩
                have := own_two (w := w2.alloc (.cells #[.int .i64 ((r0 - x : Nat) : Int), .int .i64 ((r1 - y : Nat) : Int)] 2)) (base := w.heap.size) (e := 2) (x := .int .i64 x) (y := .int .i64 y) (by simp; omega)
                rw [show (w2.alloc (.cells #[.int .i64 ((r0 - x : Nat) : Int), .int .i64 ((r1 - y : Nat) : Int)] 2)).heap.size = w2.heap.size + 1 by simp] at this
                exact this
              go_wp2_with fail
              go_region_held3 (fun W => W.cell? ⟨gr, 0, none⟩ = some (.int .i64 (r0 : Nat)) ∧ W.cell? ⟨gr, 1, none⟩ = some (.int .i64 (r1 : Nat)))
                (first | exact hS | exact HM.out _ (Below.refl _ _) | exact HM.out _ (below_dr (Below.refl _ _)) | exact HM.out _ (below_al (below_dr (Below.refl _ _)) _))
                (fail)
              go_upto_region 22 with fail
              have N3 := Lib.hid (N2.out _ rfl)
              generalize World.drew _ = w3 at *
              have HSM : Hid ([x, y].sum ≤ 60) := Lib.hid (by simp; omega)
              have HCW := Lib.hid (HWY.out _ _ [x, y] _ rfl HSM.out N3.out.2.1)
              have HCK := Lib.hid fun (W : World) (hW : Below w3.heap.size w3 W) => HIH.out W (IntKind.i64.wrap (wt * wyTo [x, y] 2)) _ _ (r0 - x) (r1 - y) (below_next N3.out.2.2.1 hW) (Nat.le_trans (Nat.sub_le _ _) b0) (Nat.le_trans (Nat.sub_le _ _) b1) (own_below N3.out.1 hW)
              clear HWY HIH HMY HIS HGY HGN HM N2 HSM
              generalize rec (r0 - x) (r1 - y) (IntKind.i64.wrap (wt * wyTo [x, y] 2)) = z at *
              generalize wyTo [x, y] 2 = wy at *
              generalize foldN (G x) y (F x) = acc at *
              have HCK3 : Hid (∀ W : World, Below w3.heap.size w3 W → Calls Try.prog 40 #[.slice (some ⟨w2.heap.size, 0, none⟩) 2 2, .slice (some ⟨gc, 0, none⟩) C cc, .int .i64 ((at9 : Int) + 1), .int .i64 (wrap64 (wt * wy)), .int .i64 own] W (fun e w' => e = .returned (.tuple #[.int .i64 z.1, .int .i64 z.2]) ∧ Below W.heap.size W w')) := Lib.hid fun W hW => by
                rw [w64y]
                exact HCK.out W hW
              go_wp2_with (first
                | (go_at_call 73; (with_reducible refine HCW.out.mono ?_); rintro e w8 ⟨rfl, hb8⟩; have B8 := Lib.hid hb8; clear hb8)
                | (go_at_call 40; (with_reducible refine (HCK3.out _ B8.out).mono ?_); rintro e w9 ⟨rfl, hb9⟩; have B9 := Lib.hid (below_next (below_next N3.out.2.2.1 B8.out) hb9); clear hb9))
              go_roundg ki
              case rel => exact ⟨y + 1, HYK.out.1, HYK.out.2, by go_num, by rw [HST.out, HGG.out]; show _ = Value.int IntKind.i64 (IntKind.i64.wrap (acc.1 + z.1)); first | rfl | rw [← w64y], by rw [HST.out, HGG.out]; show _ = Value.int IntKind.i64 (IntKind.i64.wrap (acc.2 + z.2)); first | rfl | rw [← w64y], B9.out⟩
              case measure => exact Nat.lt_succ_self _
            · have HST := Lib.hid (HIS.out x y (F x))
              have HGG := Lib.hid (HGN.out x y (foldN (G x) y (F x)) hz)
              have hzI : ¬ ((c - x - y : Nat) : Int) = 0 := by omega
              go_wp2_with fail
              go_roundg ki
              case rel => exact ⟨y + 1, HYK.out.1, HYK.out.2, by go_num, by rw [HST.out, HGG.out], by rw [HST.out, HGG.out], B.out⟩
              case measure => exact Nat.lt_succ_self _
          · have hyI : ¬ (y : Int) ≤ ((min r1 (c - x) : Nat) : Int) := by omega
            obtain rfl : y = min r1 (c - x) + 1 := by omega
            have HE := Lib.hid (HFS.out x)
            go_wp2_with fail
            go_quiet ((with_reducible exact (HMY.out _).mono fun _ _ h => ⟨h.1, _, h.2.symm⟩))
            have B := Lib.hid (below_drewN B.out nq)
            generalize wk.drewN nq = w2 at *
            go_wp2_with fail
            go_roundg ko
            case rel => exact ⟨x + 1, HXK.out.1, HXK.out.2, by go_num, by rw [← HE.out], by rw [← HE.out], B.out⟩
            case measure => exact Nat.lt_succ_self _
      · have hxI : ¬ (x : Int) ≤ ((min r0 c : Nat) : Int) := by omega
        obtain rfl : x = min r0 c + 1 := by omega
        go_wp2_with fail
        go_quiet ((with_reducible exact (HM1.out _).mono fun _ _ h => ⟨h.1, _, h.2.symm⟩))
        have B := Lib.hid (below_drewN B.out nq)
        generalize wr.drewN nq = w1 at *
        go_wp2_with fail
        go_ret2
        exact ⟨rfl, B.out⟩
end Go.Proofs.Ytmpnfjajlmafgaa
