/-
  Joined chains: spec.JoinChains, the way that gives a chain.
-/
import Derived.Test.YtddaodjaeommlaaJoi2
import Derived.BigQuiet
namespace Go.Proofs.Ytddaodjaeommlaa
open Go Go.RowKit Ieee
attribute [local go_sem] run_store_float

set_option maxRecDepth 100000 in
set_option maxHeartbeats 6400000 in
theorem specJoinChains_ok (n : Nat) (A : Option Addr) (xs : List Nat) (c : Nat) (B : Option Addr) (ys : List Nat) (d : Nat) (w : World) (hx : xs.length ≤ 9223372036854775807) (hy : ys.length ≤ 9223372036854775807) (hA : Rd w w.heap.size A (fl xs)) (hB : Rd w w.heap.size B (fl ys)) (hv : validB n xs = true) (hv2 : validB n ys = true) :
    Calls Try.prog 45 #[.agg #[.int .i64 n, .slice A xs.length c], .agg #[.int .i64 n, .slice B ys.length d]] w (chGive n (tab n (joinF xs ys n)) w) := by
  have HIA : Hid (∀ b W, W.cell? ⟨b, 0, none⟩ = some (.int .i64 n) → W.cell? ⟨b, 1, none⟩ = some (.slice A xs.length c) → Rd W W.heap.size A (fl xs) → Calls Try.prog 95 #[.pointer (some ⟨b, 0, none⟩)] W (Quiet (.bool true) W)) := fun b W h0 h1 h2 => by have := l07Is_any b n A xs c W hx h0 h1 h2; rwa [hv] at this
  have HIB : Hid (∀ b W, W.cell? ⟨b, 0, none⟩ = some (.int .i64 n) → W.cell? ⟨b, 1, none⟩ = some (.slice B ys.length d) → Rd W W.heap.size B (fl ys) → Calls Try.prog 95 #[.pointer (some ⟨b, 0, none⟩)] W (Quiet (.bool true) W)) := fun b W h0 h1 h2 => by have := l07Is_any b n B ys d W hy h0 h1 h2; rwa [hv2] at this
  obtain ⟨n', hn', hn1, hn2, hl, hp, -⟩ := validB_facts hv
  obtain rfl : n = n' := by omega
  obtain ⟨n', hn'', -, -, hl2, hp2, -⟩ := validB_facts hv2
  obtain rfl : n = n' := by omega
  have hnn : n * n ≤ 144 := Nat.mul_le_mul hn2 hn2
  have HG : Hid (∀ W A' c', Rd W W.heap.size A' (fl (tab n (joinF xs ys n))) → Calls Try.prog 103 #[.agg #[.int .i64 n, .slice A' (n * n) c']] W (fun e w' => (e = .returned (.tuple #[if validB n (tab n (joinF xs ys n)) = true then .agg #[.int .i64 n, .slice A' (n * n) c'] else .agg #[.int .i64 0, .slice none 0 0], .bool (validB n (tab n (joinF xs ys n)))])) ∧ Below W.heap.size W w')) := fun W A' c' hR => by
    have h := l07Give_any n A' (tab n (joinF xs ys n)) c' W (by rw [tab_len]; omega) hR
    rw [tab_len] at h
    exact h
  have HTB : Hid (tabTo n (joinF xs ys n) (n * n) = tab n (joinF xs ys n)) := rfl
  have HTL : Hid ((tab n (joinF xs ys n)).length = n * n) := tab_len _ _
  have HSU : Hid (∀ i k, i < n → k < n → tabTo n (joinF xs ys n) (i * n + k + 1) = tabTo n (joinF xs ys n) (i * n + k) ++ [dotTo xs ys n i k n]) := fun i k hi hk => tab_succ n (joinF xs ys n) hk
  have HR : Hid (∀ i k j, i < n → k < n → j < n → floatBits .mul .f32 (stepOf xs n i j) (stepOf ys n j k) = some (fmul (stepOf xs n i j) (stepOf ys n j k)) ∧ floatBits .add .f32 (dotTo xs ys n i k j) (fmul (stepOf xs n i j) (stepOf ys n j k)) = some (dotTo xs ys n i k (j + 1))) := fun i k j hi hk hj => (dot_runs hl hp hl2 hp2 hi hk j (by omega)).2 hj
  have HIX : Hid (∀ i k, i < n → k < n → i * n + k < n * n) := fun i k hi hk => idx_lt hi hk
  obtain ⟨b1, o1, rfl, hb1, hc1⟩ := hA (by rw [fl_len, hl]; exact Nat.mul_pos (by omega) (by omega))
  obtain ⟨b2, o2, rfl, hb2, hc2⟩ := hB (by rw [fl_len, hl2]; exact Nat.mul_pos (by omega) (by omega))
  have HC1 : Hid (∀ i k, i < n → k < n → w.cell? ⟨b1, o1 + (i * n + k), none⟩ = some (.float .f32 (stepOf xs n i k))) := fun i k hi hk => stepOf_cell hl hi hk hc1
  have HC2 : Hid (∀ i k, i < n → k < n → w.cell? ⟨b2, o2 + (i * n + k), none⟩ = some (.float .f32 (stepOf ys n i k))) := fun i k hi hk => stepOf_cell hl2 hi hk hc2
  obtain ⟨i0, hi0, hz0, hz1, hz2⟩ := info_parts info_f32
  have hRA := Lib.hid hA
  have hRB := Lib.hid hB
  have hxl : n * n ≤ xs.length := by omega
  have hyl : n * n ≤ ys.length := by omega
  have HL1 := Lib.hid hl
  have HL2 := Lib.hid hl2
  clear hv hv2 hp hp2 hn' hn'' hc1 hc2 hA hB hl hl2 hx hy
  generalize tab n (joinF xs ys n) = zs at *
  generalize joinF xs ys n = f at *
  go_enter Try.func45, Try.ntmps45
  go_wp2_with fail
  generalize hW0 : World.alloc (World.alloc (World.alloc _ _) _) _ = W0
  have a0 : W0.cell? ⟨w.heap.size, 0, none⟩ = some (.int .i64 n) := by rw [← hW0]; simp [go_sem]
  have a1 : W0.cell? ⟨w.heap.size, 1, none⟩ = some (.slice (some ⟨b1, o1, none⟩) xs.length c) := by rw [← hW0]; simp [go_sem]
  have a2 : W0.cell? ⟨w.heap.size + 1, 0, none⟩ = some (.int .i64 n) := by rw [← hW0]; simp [go_sem]
  have a3 : W0.cell? ⟨w.heap.size + 1, 1, none⟩ = some (.slice (some ⟨b2, o2, none⟩) ys.length d) := by rw [← hW0]; simp [go_sem]
  have a4 : W0.cell? ⟨w.heap.size + 1 + 1, 0, none⟩ = some (.int .i64 0) := by rw [← hW0]; simp [go_sem]
  have a5 : W0.cell? ⟨w.heap.size + 1 + 1, 1, none⟩ = some (.slice none 0 0) := by rw [← hW0]; simp [go_sem]
  have af : ∀ o, W0.frozen? ⟨w.heap.size + 1 + 1, o, none⟩ = false := fun o => by rw [← hW0]; simp [go_sem]
  have s0 : W0.heap.size = w.heap.size + 1 + 1 + 1 := by rw [← hW0]; simp
  have hB0 : Below w.heap.size w W0 := by rw [← hW0]; repeat (first | exact Below.refl _ _ | refine Below.alloc ?_ (by first | (simp; done) | (simp; omega)) _)
  have HB0 := Lib.hid hB0
  clear hW0 hB0
  refine (HIA.out _ _ a0 a1 (hRA.out.at_ HB0.out)).mono ?_
  rintro e w1 ⟨rfl, m1, rfl⟩
  go_wp2_with (go_at_call 95; refine (HIB.out _ _ (by simp [a2]) (by simp [a3]) ((hRB.out.at_ HB0.out).drewN m1)).mono ?_; rintro e w2 ⟨rfl, m2, rfl⟩)
  generalize hW1 : World.alloc (World.drewN _ _) _ = W1
  have hK : Below W0.heap.size W0 W1 := by rw [← hW1]; exact (below_drewN (Below.refl _ _) _).alloc (Nat.le_refl _) _
  have k0 : W1.cell? ⟨w.heap.size + 1 + 1, 0, none⟩ = some (.int .i64 0) := keepC hK a4
  have k1 : W1.cell? ⟨w.heap.size + 1 + 1, 1, none⟩ = some (.slice none 0 0) := keepC hK a5
  have kf : ∀ o, W1.frozen? ⟨w.heap.size + 1 + 1, o, none⟩ = false := fun o => (hK.frozen (p := ⟨_, o, none⟩) (by show w.heap.size + 1 + 1 < W0.heap.size; omega)).trans (af o)
  have j0 : W1.cell? ⟨w.heap.size, 1, none⟩ = some (.slice (some ⟨b1, o1, none⟩) xs.length c) := keepC hK a1
  have j1 : W1.cell? ⟨w.heap.size + 1, 1, none⟩ = some (.slice (some ⟨b2, o2, none⟩) ys.length d) := keepC hK a3
  have c0 : W1.cell? ⟨w.heap.size + 1 + 1 + 1, 0, none⟩ = some (.int .i64 n) := by rw [← hW1, ← s0]; exact World.cell?_alloc_new (W0.drewN _) _ _ 0
  have c1 : W1.cell? ⟨w.heap.size + 1 + 1 + 1, 1, none⟩ = some (.slice none 0 0) := by rw [← hW1, ← s0]; exact World.cell?_alloc_new (W0.drewN _) _ _ 1
  have cf : ∀ o, W1.frozen? ⟨w.heap.size + 1 + 1 + 1, o, none⟩ = false := fun o => by rw [← hW1, ← s0]; simp [go_sem, World.frozen?, World.alloc, World.drewN]
  have s1 : W1.heap.size = w.heap.size + 1 + 1 + 2 := by rw [← hW1]; simp; omega
  have hB1 : Below w.heap.size w W1 := HB0.out.trans (hK.mono (by omega))
  have START : Hid (CB W1 (w.heap.size + 1 + 1) n f 0 W1) := ⟨none, 0, Below.refl _ _, by rw [s1]; exact Nat.le_refl _, c0, c1, cf, World.ownsRow_nil _ _ _ _⟩
  have HRA : Hid (∀ i k, i < n → k < n → W1.cell? ⟨b1, o1 + (i * n + k), none⟩ = some (.float .f32 (stepOf xs n i k))) := fun i k hi hk => (hB1.cell (p := ⟨b1, _, none⟩) hb1).trans (HC1.out i k hi hk)
  have HRB : Hid (∀ i k, i < n → k < n → W1.cell? ⟨b2, o2 + (i * n + k), none⟩ = some (.float .f32 (stepOf ys n i k))) := fun i k hi hk => (hB1.cell (p := ⟨b2, _, none⟩) hb2).trans (HC2.out i k hi hk)
  have K0 := Lib.hid k0
  have K1 := Lib.hid k1
  have KF := Lib.hid kf
  have J0 := Lib.hid j0
  have J1 := Lib.hid j1
  have HB1 := Lib.hid hB1
  clear hW1 k0 k1 kf j0 j1 c0 c1 cf s1 hB1 hK a0 a1 a2 a3 a4 a5 af s0
  go_loopw [8] (fun i wr => ∃ k : Nat, k ≤ n ∧ i = .int .i64 k ∧ CB W1 (w.heap.size + 1 + 1) n f (k * n) wr) (fun i _ => n - (intOf i).toNat)
  case atStart => exact ⟨0, Nat.zero_le _, rfl, by rw [Nat.zero_mul]; exact START.out⟩
  case round =>
    obtain ⟨i, hi, rfl, hcb⟩ := hrel
    have HCB := Lib.hid hcb
    clear hcb
    by_cases hlt : i < n
    · go_wp2_with fail
      go_loopw [9] (fun k wr => ∃ j : Nat, j ≤ n ∧ k = .int .i64 j ∧ CB W1 (w.heap.size + 1 + 1) n f (i * n + j) wr) (fun k _ => n - (intOf k).toNat)
      case atStart => exact ⟨0, Nat.zero_le _, rfl, HCB.out⟩
      case round =>
        obtain ⟨k, hk, rfl, hcj⟩ := hrel
        by_cases hkt : k < n
        · rename_i wr
          obtain ⟨A', c', hbw, hsz, d0, d1, hfr, hown⟩ := hcj
          have hp0 := HIX.out i k hlt hkt
          have hstep := HSU.out i k hlt hkt
          have b0 : wr.cell? ⟨w.heap.size, 1, none⟩ = some (.slice (some ⟨b1, o1, none⟩) xs.length c) := (hbw.cell (show w.heap.size < w.heap.size + 1 + 1 + 1 by omega)).trans J0.out
          have b1' : wr.cell? ⟨w.heap.size + 1, 1, none⟩ = some (.slice (some ⟨b2, o2, none⟩) ys.length d) := (hbw.cell (show w.heap.size + 1 < w.heap.size + 1 + 1 + 1 by omega)).trans J1.out
          have HXA : Hid (∀ j, j < n → wr.cell? ⟨b1, o1 + (i * n + j), none⟩ = some (.float .f32 (stepOf xs n i j))) := fun j hj => (hbw.cell (p := ⟨b1, _, none⟩) (show b1 < w.heap.size + 1 + 1 + 1 by omega)).trans (HRA.out i j hlt hj)
          have HXB : Hid (∀ j, j < n → wr.cell? ⟨b2, o2 + (j * n + k), none⟩ = some (.float .f32 (stepOf ys n j k))) := fun j hj => (hbw.cell (p := ⟨b2, _, none⟩) (show b2 < w.heap.size + 1 + 1 + 1 by omega)).trans (HRB.out j k hj hkt)
          have HRR := Lib.hid (fun j hj => HR.out i k j hlt hkt hj)
          have HXI := Lib.hid (fun j hj => HIX.out i j hlt hj)
          have wq : IntKind.i64.wrap ((i : Int) * (n : Int)) = ((i * n : Nat) : Int) := by rw [show (i : Int) * (n : Int) = ((i * n : Nat) : Int) by push_cast; rfl]; exact IntWalk.i64_in _ (by omega)
          have HD0 : Hid (dotTo xs ys n i k 0 = 0) := rfl
          have HSTEP := Lib.hid hstep
          have HBW := Lib.hid hbw
          clear hstep hbw
          generalize dotTo xs ys n i k = dt at *
          have HPP : Hid (i * n + (k + 1) = i * n + k + 1) := (Nat.add_assoc _ _ _).symm
          generalize hpq : i * n = q at *
          have HQ := Lib.hid hpq
          clear hpq
          go_wp2_with fail
          go_loopw [10, 11] (fun s t W => ∃ j r : Nat, j ≤ n ∧ t = .int .i64 j ∧ s = .float .f32 (dt j) ∧ W = wr.drewN r) (fun _ t _ => n - (intOf t).toNat)
          case atStart => exact ⟨0, 0, Nat.zero_le _, rfl, by rw [HD0.out], rfl⟩
          case round =>
            obtain ⟨j, r, hj, rfl, rfl, rfl⟩ := hrel
            by_cases hjt : j < n
            · obtain ⟨r1, r2⟩ := HRR.out j hjt
              have e1 := fun w => run_float_arith (P := Try.prog) w .mul 33 .f32 _ _ _ r1
              have e2 := fun w => run_float_arith (P := Try.prog) w .add 33 .f32 _ _ _ r2
              have xa := HXA.out j hjt
              have xb := HXB.out j hjt
              have xi := HXI.out j hjt
              have xj := HIX.out j k hjt hkt
              have wj : IntKind.i64.wrap ((j : Int) * (n : Int)) = ((j * n : Nat) : Int) := by rw [show (j : Int) * (n : Int) = ((j * n : Nat) : Int) by push_cast; rfl]; exact IntWalk.i64_in _ (by omega)
              clear r1 r2
              generalize fmul (stepOf xs n i j) (stepOf ys n j k) = z at *
              generalize stepOf xs n i j = x at *
              generalize stepOf ys n j k = y at *
              generalize j * n = jn at *
              go_wp2_with fail
              go_quiet (fail)
              go_wp2_with fail
              go_roundw
              case rel => exact ⟨j + 1, _, by omega, by go_num, rfl, rfl⟩
              case measure => simp [intOf]; omega
            · have hje : n = j := by omega
              subst hje
              go_wp2_with (refine wpList_append_lies _ rfl _ _ _ rfl (w.heap.size + 1 + 1 + 2) 33 i0 _ 1 4 Try.underlying22 hi0 hz0 hz1 hz2 rfl (by omega) (.slice A' (q + k) c') (q + k) (fl (tabTo n f (q + k))) (by rfl) ((own_below hown (below_drewN (Below.refl _ _) r)).alloc _) ⟨wr.heap.size, 0, none⟩ 1 1 [.float .f32 (dt n)] (by rfl) (by rfl) (World.news_of_block (cs := #[.float .f32 (dt n)]) (t := 33) (fr := (0, 0)) (heap_alloc_new (wr.drewN r) _)) (by simp [Value.oneCell']) (by omega) (by unfold maxLen; omega) (by omega) (by simp; omega) (wr.heap.size + 1) (by simp) ?_; intro g cap w3 hown3 hgrow hat hlt3; obtain ⟨c3, f3, hcb3⟩ := CB_step HBW.out hsz d0 d1 hfr hown (below_drewN (Below.refl _ _) r) hgrow hown3 HSTEP.out; have HX := Lib.hid hcb3; clear hcb3)
              go_roundw
              case rel => exact ⟨k + 1, by omega, by go_num, by rw [HPP.out]; exact HX.out⟩
              case measure => simp [intOf]; omega
        · obtain rfl : k = n := by omega
          have HCJ := Lib.hid hcj
          clear hcj
          go_wp2_with fail
          go_roundw
          case rel => exact ⟨i + 1, by omega, by go_num, by rw [Nat.add_mul, Nat.one_mul]; exact HCJ.out⟩
          case measure => simp [intOf]; omega
    · obtain rfl : i = n := by omega
      obtain ⟨A', c', hbw, hsz, d0, d1, hfr, hown⟩ := HCB.out
      rw [HTB.out] at hown
      have HO := Lib.hid hown
      have g0 : wr.cell? ⟨w.heap.size + 1 + 1, 0, none⟩ = some (.int .i64 0) := (hbw.cell (show w.heap.size + 1 + 1 < w.heap.size + 1 + 1 + 1 by omega)).trans K0.out
      have g1 : wr.cell? ⟨w.heap.size + 1 + 1, 1, none⟩ = some (.slice none 0 0) := (hbw.cell (show w.heap.size + 1 + 1 < w.heap.size + 1 + 1 + 1 by omega)).trans K1.out
      have gf : ∀ o, wr.frozen? ⟨w.heap.size + 1 + 1, o, none⟩ = false := fun o => (hbw.frozen (show w.heap.size + 1 + 1 < w.heap.size + 1 + 1 + 1 by omega)).trans (KF.out o)
      have HBR := Lib.hid (HB1.out.trans (hbw.mono (by omega)))
      clear hown hbw
      cases hvb : validB i zs
      · have HVB := Lib.hid hvb
        rw [hvb] at HG
        clear hvb
        go_wp2_with (go_at_call 103; refine (HG.out _ _ _ ((Rd.of_own HO.out).at_ (by first | exact Below.refl _ _ | exact (Below.refl _ _).drew))).mono ?_; rintro e w5 ⟨rfl, hb5⟩; have hk5 : Below wr.heap.size wr w5 := hb5; have z0 : w5.cell? ⟨w.heap.size + 1 + 1, 0, none⟩ = some (.int .i64 0) := keepC hk5 g0; have z1 : w5.cell? ⟨w.heap.size + 1 + 1, 1, none⟩ = some (.slice none 0 0) := keepC hk5 g1; have zf : ∀ o, w5.frozen? ⟨w.heap.size + 1 + 1, o, none⟩ = false := fun o => (hk5.frozen (p := ⟨_, o, none⟩) (by show w.heap.size + 1 + 1 < wr.heap.size; omega)).trans (gf o))
        have hB : Below w.heap.size w w5 := HBR.out.trans (hk5.mono (by omega))
        refine bodyPost_ret (v := .tuple #[.agg #[.int .i64 0, .slice none 0 0], .bool false]) (by simp [results, Try.results45, go_sem, z0, z1]) rfl (ChainRes.out ⟨(hB.setCell (by simp; omega) _).setCell (by simp; omega) _, .inl ⟨HVB.out, rfl⟩⟩)
      · have HVB := Lib.hid hvb
        rw [hvb] at HG
        clear hvb
        go_wp2_with (go_at_call 103; refine (HG.out _ _ _ ((Rd.of_own HO.out).at_ (by first | exact Below.refl _ _ | exact (Below.refl _ _).drew))).mono ?_; rintro e w5 ⟨rfl, hb5⟩; have hk5 : Below wr.heap.size wr w5 := hb5; have z0 : w5.cell? ⟨w.heap.size + 1 + 1, 0, none⟩ = some (.int .i64 0) := keepC hk5 g0; have z1 : w5.cell? ⟨w.heap.size + 1 + 1, 1, none⟩ = some (.slice none 0 0) := keepC hk5 g1; have zf : ∀ o, w5.frozen? ⟨w.heap.size + 1 + 1, o, none⟩ = false := fun o => (hk5.frozen (p := ⟨_, o, none⟩) (by show w.heap.size + 1 + 1 < wr.heap.size; omega)).trans (gf o))
        have hB : Below w.heap.size w w5 := HBR.out.trans (hk5.mono (by omega))
        have hO := own_below HO.out hk5
        refine bodyPost_ret (v := .tuple #[.agg #[.int .i64 i, .slice A' (i * i) c'], .bool true]) (by simp [results, Try.results45, go_sem, z0, z1]) rfl (ChainRes.out ⟨(hB.setCell (by simp; omega) _).setCell (by simp; omega) _, .inr ⟨HVB.out, A', c', by rw [HTL.out], ?_⟩⟩)
        rw [HTL.out]
        exact own_base (ownsRow_setCell_below (ownsRow_setCell_below hO (show w.heap.size + 1 + 1 < w.heap.size + 1 + 1 + 2 by omega) _) (show w.heap.size + 1 + 1 < w.heap.size + 1 + 1 + 2 by omega) _) (by omega)
end Go.Proofs.Ytddaodjaeommlaa
