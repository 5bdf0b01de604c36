/-
  spec.BackChain.
-/
import Derived.Test.YtlhepgdheopgaaaBak
import Derived.BigRegion
namespace Go.Proofs.Ytlhepgdheopgaaa
open Go Go.RowKit Ieee
attribute [local go_sem] run_store_float
attribute [-go_sem] Builtin.append_

set_option maxRecDepth 100000 in
set_option maxHeartbeats 1600000 in
theorem specBackChain_bad (side : Int) (A : Option Addr) (xs : List Nat) (c : Nat) (B : Option Addr) (row : List Nat) (d : Nat) (w : World) (hx : xs.length ≤ 9223372036854775807) (hr : row.length ≤ 9223372036854775807) (hA : Rd w w.heap.size A (fl xs)) (hB : Rd w w.heap.size B (fl row)) (hb : bkB side xs row = false) :
    Calls Try.prog 15 #[.agg #[.int .i64 side, .slice A xs.length c], .slice B row.length d] w (chOut 0 [] false w) := by
  have HF := Lib.hid fun b W h0 h1 h h' => l07Fits_any b side A xs c B row d W hx hr h0 h1 h h'
  have HP := Lib.hid fun W h => l07Above_any B row d W hr h
  unfold bkB at hb
  cases hf : fitB side xs row with
  | false =>
    rw [hf] at HF
    clear hb hf HP
    go_enter Try.func15, Try.ntmps15
    go_wp2_with fail
    generalize hW1 : World.alloc (World.alloc w _) _ = W1
    have c0 : W1.cell? ⟨w.heap.size, 0, none⟩ = some (.int .i64 side) := by rw [← hW1]; simp [go_sem]
    have c1 : W1.cell? ⟨w.heap.size, 1, none⟩ = some (.slice A xs.length c) := by rw [← hW1]; simp [go_sem]
    have c4 : W1.cell? ⟨w.heap.size + 1, 0, none⟩ = some (.int .i64 0) := by rw [← hW1]; simp [go_sem]
    have c5 : W1.cell? ⟨w.heap.size + 1, 1, none⟩ = some (.slice none 0 0) := by rw [← hW1]; simp [go_sem]
    have cf : ∀ o, W1.frozen? ⟨w.heap.size + 1, o, none⟩ = false := fun o => by rw [← hW1]; simp [go_sem]
    have cs : w.heap.size + 1 < W1.heap.size := by rw [← hW1]; simp
    have HB1 : Hid (Below w.heap.size w W1) := by rw [← hW1]; exact Lib.hid (below_al (below_al (Below.refl _ _) _) _)
    clear hW1
    refine (HF.out _ W1 c0 c1 (hA.at_ HB1.out) (hB.at_ HB1.out)).mono ?_
    rintro e w2 ⟨rfl, m2, rfl⟩
    go_wp2_with fail
    refine bodyPost_ret (v := .tuple #[.agg #[.int .i64 0, .slice none 0 0], .bool false]) (by simp [results, Try.results15, go_sem, c4, c5]) rfl (chOut_none rfl ?_)
    exact ((below_drewN HB1.out _).setCell (by simp) _).setCell (by simp) _
  | true =>
    rw [hf, Bool.true_and] at hb
    rw [hf] at HF
    rw [hb] at HP
    clear hb hf
    go_enter Try.func15, Try.ntmps15
    go_wp2_with fail
    generalize hW1 : World.alloc (World.alloc w _) _ = W1
    have c0 : W1.cell? ⟨w.heap.size, 0, none⟩ = some (.int .i64 side) := by rw [← hW1]; simp [go_sem]
    have c1 : W1.cell? ⟨w.heap.size, 1, none⟩ = some (.slice A xs.length c) := by rw [← hW1]; simp [go_sem]
    have c4 : W1.cell? ⟨w.heap.size + 1, 0, none⟩ = some (.int .i64 0) := by rw [← hW1]; simp [go_sem]
    have c5 : W1.cell? ⟨w.heap.size + 1, 1, none⟩ = some (.slice none 0 0) := by rw [← hW1]; simp [go_sem]
    have cf : ∀ o, W1.frozen? ⟨w.heap.size + 1, o, none⟩ = false := fun o => by rw [← hW1]; simp [go_sem]
    have cs : w.heap.size + 1 < W1.heap.size := by rw [← hW1]; simp
    have HB1 : Hid (Below w.heap.size w W1) := by rw [← hW1]; exact Lib.hid (below_al (below_al (Below.refl _ _) _) _)
    clear hW1
    refine (HF.out _ W1 c0 c1 (hA.at_ HB1.out) (hB.at_ HB1.out)).mono ?_
    rintro e w2 ⟨rfl, m2, rfl⟩
    go_wp2_with (go_at_call 47; refine (HP.out _ ((hB.at_ HB1.out).drewN m2)).mono ?_; rintro e w3 ⟨rfl, m3, rfl⟩)
    refine bodyPost_ret (v := .tuple #[.agg #[.int .i64 0, .slice none 0 0], .bool false]) (by simp [results, Try.results15, go_sem, c4, c5]) rfl (chOut_none rfl ?_)
    exact ((below_drewN HB1.out _).setCell (by simp) _).setCell (by simp) _

def Dummy (P : Prop) : Prop := P
theorem of_dummy {P : Prop} (h : Dummy P) : P := h
theorem dummy_true {P : Prop} (h : P) : Dummy P = True := eq_true h
theorem below_drB {a w : World} {B : Nat} (h : Below B a w) : Below B a w.drew := below_drewN h 1

set_option maxRecDepth 100000 in
set_option maxHeartbeats 6400000 in
theorem specBackChain_ok (n : Nat) (A : Option Addr) (xs : List Nat) (c : Nat) (B : Option Addr) (row : List Nat) (d : Nat) (w : World) (hx : xs.length ≤ 9223372036854775807) (hA : Rd w w.heap.size A (fl xs)) (hB : Rd w w.heap.size B (fl row)) (hb : bkB n xs row = true) :
    Calls Try.prog 15 #[.agg #[.int .i64 n, .slice A xs.length c], .slice B row.length d] w (chGive n (tab n (backF xs row n)) w) := by
  unfold bkB at hb
  rw [Bool.and_eq_true] at hb
  obtain ⟨hf, hab⟩ := hb
  obtain ⟨n', hn', hn1, hn2, hl, hp, hrl, hrw, hv, hw⟩ := fitB_facts hf
  obtain rfl : n = n' := by omega
  have HF := Lib.hid fun b W h0 h1 h h' => l07Fits_any b n A xs c B row d W hx (by omega) h0 h1 h h'
  have HP := Lib.hid fun W h => l07Above_any B row d W (by omega) h
  rw [hf] at HF
  rw [hab] at HP
  have hnn : n * n ≤ 144 := Nat.mul_le_mul hn2 hn2
  have HG : Hid (∀ W A' c', Rd W W.heap.size A' (fl (tab n (backF xs row n))) → Calls Try.prog 48 #[.agg #[.int .i64 n, .slice A' (n * n) c']] W (fun e w' => (e = .returned (.tuple #[if validB n (tab n (backF xs row n)) = true then .agg #[.int .i64 n, .slice A' (n * n) c'] else .agg #[.int .i64 0, .slice none 0 0], .bool (validB n (tab n (backF xs row n)))])) ∧ Below W.heap.size W w')) := Lib.hid fun W A' c' hR => by
    have h := l07Give_any n A' (tab n (backF xs row n)) c' W (by rw [tab_len]; omega) hR
    rw [tab_len] at h
    exact h
  have HTB : Hid (tabTo n (backF xs row n) (n * n) = tab n (backF xs row n)) := Lib.hid rfl
  have HTL : Hid ((tab n (backF xs row n)).length = n * n) := Lib.hid (tab_len _ _)
  have HSU : Hid (∀ i k, i < n → k < n → tabTo n (backF xs row n) (i * n + k + 1) = tabTo n (backF xs row n) (i * n + k) ++ [backF xs row n i k]) := Lib.hid fun i k _ hk => tab_succ n (backF xs row n) hk
  have HR : Hid (∀ i k, i < n → k < n → floatBits .mul .f32 (rowOf row k) (stepOf xs n k i) = some (fmul (rowOf row k) (stepOf xs n k i)) ∧ floatBits .quo .f32 (fmul (rowOf row k) (stepOf xs n k i)) (rowOf row i) = some (backF xs row n i k)) := Lib.hid fun i k hi hk => back_runs hl hp hrl hrw hab hi hk
  have HIX : Hid (∀ i k, i < n → k < n → i * n + k < n * n) := Lib.hid fun i k hi hk => idx_lt hi hk
  obtain ⟨b2, o2, rfl, hb2, hc2⟩ := hB (by rw [fl_len]; omega)
  obtain ⟨b1, o1, rfl, hb1, hc1⟩ := hA (by rw [fl_len, hl]; exact Nat.mul_pos (by omega) (by omega))
  have HRC : Hid (∀ i, i < n → w.cell? ⟨b2, o2 + i, none⟩ = some (.float .f32 (rowOf row i))) := Lib.hid fun i hi => rowOf_cell (by omega) hc2
  have HXC : Hid (∀ i k, i < n → k < n → w.cell? ⟨b1, o1 + (i * n + k), none⟩ = some (.float .f32 (stepOf xs n i k))) := Lib.hid fun i k hi hk => stepOf_cell hl hi hk hc1
  obtain ⟨i0, hi0, hz0, hz1, hz2⟩ := info_parts info_f32
  have HA := Lib.hid hA
  have HB := Lib.hid hB
  have hxl : n * n ≤ xs.length := by omega
  have HL := Lib.hid hl
  rw [hrl] at HF HP ⊢
  clear hf hab hp hl hrl hrw hv hw hx hn' hc1 hc2 hA hB
  generalize tab n (backF xs row n) = zs at *
  generalize backF xs row n = f at *
  go_enter Try.func15, Try.ntmps15
  go_wp2_with fail
  generalize hW0 : World.alloc (World.alloc w _) _ = W0
  have a0 : W0.cell? ⟨w.heap.size, 0, none⟩ = some (.int .i64 n) := by rw [← hW0]; simp [go_sem]
  have a1 : W0.cell? ⟨w.heap.size, 1, none⟩ = some (.slice (some ⟨b1, o1, none⟩) xs.length c) := by rw [← hW0]; simp [go_sem]
  have a4 : W0.cell? ⟨w.heap.size + 1, 0, none⟩ = some (.int .i64 0) := by rw [← hW0]; simp [go_sem]
  have a5 : W0.cell? ⟨w.heap.size + 1, 1, none⟩ = some (.slice none 0 0) := by rw [← hW0]; simp [go_sem]
  have af : ∀ o, W0.frozen? ⟨w.heap.size + 1, o, none⟩ = false := fun o => by rw [← hW0]; simp [go_sem]
  have s0 : W0.heap.size = w.heap.size + 1 + 1 := by rw [← hW0]; simp
  have HB0 : Hid (Below w.heap.size w W0) := by rw [← hW0]; exact Lib.hid (below_al (below_al (Below.refl _ _) _) _)
  clear hW0
  refine (HF.out _ W0 a0 a1 (HA.out.at_ HB0.out) (HB.out.at_ HB0.out)).mono ?_
  rintro e w1 ⟨rfl, m1, rfl⟩
  go_wp2_with (go_at_call 47; refine (HP.out _ ((HB.out.at_ HB0.out).drewN m1)).mono ?_; rintro e w2 ⟨rfl, m2, rfl⟩)
  generalize hW1 : World.alloc (World.drewN _ _) _ = W1
  have hK : Below W0.heap.size W0 W1 := by rw [← hW1]; exact below_al (below_drewN (Below.refl _ _) _) _
  have k0 : W1.cell? ⟨w.heap.size + 1, 0, none⟩ = some (.int .i64 0) := keepC hK a4
  have k1 : W1.cell? ⟨w.heap.size + 1, 1, none⟩ = some (.slice none 0 0) := keepC hK a5
  have kf : ∀ o, W1.frozen? ⟨w.heap.size + 1, o, none⟩ = false := fun o => (hK.frozen (p := ⟨_, o, none⟩) (by show w.heap.size + 1 < W0.heap.size; omega)).trans (af o)
  have j0 : W1.cell? ⟨w.heap.size, 0, none⟩ = some (.int .i64 n) := keepC hK a0
  have j1 : W1.cell? ⟨w.heap.size, 1, none⟩ = some (.slice (some ⟨b1, o1, none⟩) xs.length c) := keepC hK a1
  have c0 : W1.cell? ⟨w.heap.size + 1 + 1, 0, none⟩ = some (.int .i64 n) := by rw [← hW1, ← s0]; exact World.cell?_alloc_new (W0.drewN _) _ _ 0
  have c1 : W1.cell? ⟨w.heap.size + 1 + 1, 1, none⟩ = some (.slice none 0 0) := by rw [← hW1, ← s0]; exact World.cell?_alloc_new (W0.drewN _) _ _ 1
  have cf : ∀ o, W1.frozen? ⟨w.heap.size + 1 + 1, o, none⟩ = false := fun o => by rw [← hW1, ← s0]; simp [go_sem, World.frozen?, World.alloc, World.drewN]
  have s1 : W1.heap.size = w.heap.size + 1 + 2 := by rw [← hW1]; simp; omega
  have hB1 : Below w.heap.size w W1 := below_next HB0.out hK
  have START : Hid (CB W1 (w.heap.size + 1) n f 0 W1) := Lib.hid ⟨none, 0, Below.refl _ _, by rw [s1]; exact Nat.le_refl _, c0, c1, cf, World.ownsRow_nil _ _ _ _⟩
  have HRA : Hid (∀ i k, i < n → k < n → W1.cell? ⟨b1, o1 + (i * n + k), none⟩ = some (.float .f32 (stepOf xs n i k))) := Lib.hid fun i k hi hk => (hB1.cell (p := ⟨b1, _, none⟩) hb1).trans (HXC.out i k hi hk)
  have HRB : Hid (∀ i, i < n → W1.cell? ⟨b2, o2 + i, none⟩ = some (.float .f32 (rowOf row i))) := Lib.hid fun i hi => (hB1.cell (p := ⟨b2, _, none⟩) hb2).trans (HRC.out i hi)
  have K0 := Lib.hid k0
  have K1 := Lib.hid k1
  have KF := Lib.hid kf
  have J0 := Lib.hid j0
  have J1 := Lib.hid j1
  have HB1 := Lib.hid hB1
  clear hW1 k0 k1 kf j0 j1 c0 c1 cf s1 hB1 hK a0 a1 a4 a5 af s0 HF HP HRC HXC
  go_loopw [23] (fun i wr => ∃ k : Nat, k ≤ n ∧ i = .int .i64 k ∧ CB W1 (w.heap.size + 1) n f (k * n) wr) (fun i _ => n - (intOf i).toNat)
  case atStart => exact ⟨0, Nat.zero_le _, rfl, by rw [Nat.zero_mul]; exact START.out⟩
  case round =>
    obtain ⟨i, hi, rfl, hcb⟩ := hrel
    have HCB := Lib.hid hcb
    clear hcb
    by_cases hlt : i < n
    · go_wp2_with fail
      go_loopw [28] (fun k wr => ∃ j : Nat, j ≤ n ∧ k = .int .i64 j ∧ CB W1 (w.heap.size + 1) n f (i * n + j) wr) (fun k _ => n - (intOf k).toNat)
      case atStart => exact ⟨0, Nat.zero_le _, rfl, HCB.out⟩
      case round =>
        obtain ⟨k, hk, rfl, hcj⟩ := hrel
        by_cases hkt : k < n
        · rename World => wr
          obtain ⟨A', c', hbw, hsz, d0, d1, hfr, hown⟩ := hcj
          have hp0 := HIX.out i k hlt hkt
          have hstep := HSU.out i k hlt hkt
          have b0 : wr.cell? ⟨w.heap.size, 0, none⟩ = some (.int .i64 n) := (hbw.cell (show w.heap.size < w.heap.size + 1 + 1 by omega)).trans J0.out
          have b0' : wr.cell? ⟨w.heap.size, 1, none⟩ = some (.slice (some ⟨b1, o1, none⟩) xs.length c) := (hbw.cell (show w.heap.size < w.heap.size + 1 + 1 by omega)).trans J1.out
          have x1 : wr.cell? ⟨b1, o1 + (k * n + i), none⟩ = some (.float .f32 (stepOf xs n k i)) := (hbw.cell (p := ⟨b1, _, none⟩) (show b1 < w.heap.size + 1 + 1 by omega)).trans (HRA.out k i hkt hlt)
          have x2 : wr.cell? ⟨b2, o2 + k, none⟩ = some (.float .f32 (rowOf row k)) := (hbw.cell (p := ⟨b2, _, none⟩) (show b2 < w.heap.size + 1 + 1 by omega)).trans (HRB.out k hkt)
          have x3 : wr.cell? ⟨b2, o2 + i, none⟩ = some (.float .f32 (rowOf row i)) := (hbw.cell (p := ⟨b2, _, none⟩) (show b2 < w.heap.size + 1 + 1 by omega)).trans (HRB.out i hlt)
          obtain ⟨r1, r2⟩ := HR.out i k hlt hkt
          have e1 := fun w => run_float_arith (P := Try.prog) w .mul 31 .f32 _ _ _ r1
          have e2 := fun w => run_float_arith (P := Try.prog) w .quo 31 .f32 _ _ _ r2
          have xi := HIX.out k i hkt hlt
          have wq : IntKind.i64.wrap ((k : Int) * (n : Int)) = ((k * n : Nat) : Int) := by rw [show (k : Int) * (n : Int) = ((k * n : Nat) : Int) by push_cast; rfl]; exact IntWalk.i64_in _ (by omega)
          have HSTEP := Lib.hid hstep
          have HBW := Lib.hid hbw
          have hs4 : w.heap.size + 1 + 2 ≤ wr.heap.size := hsz
          clear hstep hbw r1 r2
          have HPP : Hid (i * n + (k + 1) = i * n + k + 1) := Lib.hid (Nat.add_assoc _ _ _).symm
          generalize hpq : i * n = q at *
          have HQ := Lib.hid hpq
          clear hpq
          generalize fmul (rowOf row k) (stepOf xs n k i) = z at *
          generalize rowOf row k = rk at *
          generalize rowOf row i = ri at *
          generalize stepOf xs n k i = x at *
          generalize k * n = kn at *
          generalize f i k = res at *
          have q1 : 0 < 1 := by omega
          have q2 : q + k + 1 ≤ maxLen := by unfold maxLen; omega
          have q3 : (q + k + 1) * 4 ≤ 140737488355328 := by omega
          have q5 : kn + i < xs.length := by omega
          have v1 : IntKind.i64.wrap ((kn : Int) + (i : Int)) = ((kn + i : Nat) : Int) := by rw [show (kn : Int) + (i : Int) = ((kn + i : Nat) : Int) by push_cast; rfl]; exact IntWalk.i64_in _ (by omega)
          generalize kn + i = ki at *
          have hSM : Hid (∀ W, Below (w.heap.size + 1 + 1) wr W → W.cell? ⟨w.heap.size, 0, none⟩ = some (.int .i64 n) ∧ W.cell? ⟨w.heap.size, 1, none⟩ = some (.slice (some ⟨b1, o1, none⟩) xs.length c) ∧ W.cell? ⟨b1, o1 + ki, none⟩ = some (.float .f32 x) ∧ W.cell? ⟨b2, o2 + k, none⟩ = some (.float .f32 rk) ∧ W.cell? ⟨b2, o2 + i, none⟩ = some (.float .f32 ri)) := Lib.hid fun W hW => ⟨(hW.cell (p := ⟨w.heap.size, 0, none⟩) (show w.heap.size < w.heap.size + 1 + 1 by omega)).trans b0, (hW.cell (p := ⟨w.heap.size, 1, none⟩) (show w.heap.size < w.heap.size + 1 + 1 by omega)).trans b0', (hW.cell (p := ⟨b1, o1 + ki, none⟩) (show b1 < w.heap.size + 1 + 1 by omega)).trans x1, (hW.cell (p := ⟨b2, o2 + k, none⟩) (show b2 < w.heap.size + 1 + 1 by omega)).trans x2, (hW.cell (p := ⟨b2, o2 + i, none⟩) (show b2 < w.heap.size + 1 + 1 by omega)).trans x3⟩
          have g6 : w.heap.size + 1 + 1 < wr.heap.size := by omega
          clear b0 b0' x1 x2 x3
          obtain ⟨g, cap, w3, hrun, hown3, hgrow, hat, hlt3⟩ := run_append_lies (P := Try.prog) (w := (wr.alloc (.cells #[.float .f32 res] 31)).drew) 24 24 (w.heap.size + 1 + 2) 31 i0 _ 1 4 Try.underlying24 hi0 hz0 hz1 hz2 rfl q1 (.slice A' (q + k) c') (q + k) (fl (tabTo n f (q + k))) ((own_below hown (below_dr (Below.refl _ _))).alloc _) ⟨wr.heap.size, 0, none⟩ 1 1 [.float .f32 res] (by rfl) (World.news_of_block (cs := #[.float .f32 res]) (t := 31) (fr := (0, 0)) (heap_alloc_new wr.drew _)) (by simp [Value.oneCell']) q1 q2 q3 (Nat.le_trans hs4 (by simp)) (wr.heap.size + 1) (by simp)
          have hX3 := CB_step HBW.out hsz d0 d1 hfr hown (w2 := wr.drew) (o := .cells #[.float .f32 res] 31) (below_dr (Below.refl _ _)) hgrow hown3 HSTEP.out
          obtain ⟨c3, f3, hcb3⟩ := hX3
          have HX := Lib.hid hcb3
          obtain ⟨y0, y1, y2, y3, y4⟩ := hSM.out wr (Below.refl _ _)
          clear hcb3 hgrow hat hlt3 hown3
          go_wp2_with fail
          go_region
          all_goals
            go_wp2_with fail
            go_roundw
            case rel => exact ⟨k + 1, by omega, by go_num, by rw [HPP.out]; exact HX.out⟩
            case measure => simp [intOf]; omega
        · obtain rfl : k = n := by omega
          have HCJ := Lib.hid hcj
          clear hcj
          go_wp2_with fail
          go_roundw
          case rel => exact ⟨i + 1, by omega, by go_num, by rw [Nat.add_mul, Nat.one_mul]; exact HCJ.out⟩
          case measure => simp [intOf]; omega
    · obtain rfl : i = n := by omega
      rename World => wr
      obtain ⟨A', c', hbw, hsz, d0, d1, hfr, hown⟩ := HCB.out
      rw [HTB.out] at hown
      have HO := Lib.hid hown
      have g0 : wr.cell? ⟨w.heap.size + 1, 0, none⟩ = some (.int .i64 0) := (hbw.cell (show w.heap.size + 1 < w.heap.size + 1 + 1 by omega)).trans K0.out
      have g1 : wr.cell? ⟨w.heap.size + 1, 1, none⟩ = some (.slice none 0 0) := (hbw.cell (show w.heap.size + 1 < w.heap.size + 1 + 1 by omega)).trans K1.out
      have gf : ∀ o, wr.frozen? ⟨w.heap.size + 1, o, none⟩ = false := fun o => (hbw.frozen (show w.heap.size + 1 < w.heap.size + 1 + 1 by omega)).trans (KF.out o)
      have HBR := Lib.hid (HB1.out.trans (hbw.mono (by omega)))
      clear hown hbw
      cases hvb : validB i zs
      · have HVB := Lib.hid hvb
        rw [hvb] at HG
        clear hvb
        go_wp2_with (go_at_call 48; refine (HG.out _ _ _ ((Rd.of_own HO.out).at_ (by first | exact Below.refl _ _ | exact (Below.refl _ _).drew))).mono ?_; rintro e w5 ⟨rfl, hb5⟩; have hk5 : Below wr.heap.size wr w5 := hb5; have z0 : w5.cell? ⟨w.heap.size + 1, 0, none⟩ = some (.int .i64 0) := keepC hk5 g0; have z1 : w5.cell? ⟨w.heap.size + 1, 1, none⟩ = some (.slice none 0 0) := keepC hk5 g1; have zf : ∀ o, w5.frozen? ⟨w.heap.size + 1, o, none⟩ = false := fun o => (hk5.frozen (p := ⟨_, o, none⟩) (by show w.heap.size + 1 < wr.heap.size; omega)).trans (gf o))
        have hB : Below w.heap.size w w5 := HBR.out.trans (hk5.mono (by omega))
        refine bodyPost_ret (v := .tuple #[.agg #[.int .i64 0, .slice none 0 0], .bool false]) (by simp [results, Try.results15, go_sem, z0, z1]) rfl (ChainRes.out ⟨(hB.setCell (by simp) _).setCell (by simp) _, .inl ⟨HVB.out, rfl⟩⟩)
      · have HVB := Lib.hid hvb
        rw [hvb] at HG
        clear hvb
        go_wp2_with (go_at_call 48; refine (HG.out _ _ _ ((Rd.of_own HO.out).at_ (by first | exact Below.refl _ _ | exact (Below.refl _ _).drew))).mono ?_; rintro e w5 ⟨rfl, hb5⟩; have hk5 : Below wr.heap.size wr w5 := hb5; have z0 : w5.cell? ⟨w.heap.size + 1, 0, none⟩ = some (.int .i64 0) := keepC hk5 g0; have z1 : w5.cell? ⟨w.heap.size + 1, 1, none⟩ = some (.slice none 0 0) := keepC hk5 g1; have zf : ∀ o, w5.frozen? ⟨w.heap.size + 1, o, none⟩ = false := fun o => (hk5.frozen (p := ⟨_, o, none⟩) (by show w.heap.size + 1 < wr.heap.size; omega)).trans (gf o))
        have hB : Below w.heap.size w w5 := HBR.out.trans (hk5.mono (by omega))
        have hO := own_below HO.out hk5
        refine bodyPost_ret (v := .tuple #[.agg #[.int .i64 i, .slice A' (i * i) c'], .bool true]) (by simp [results, Try.results15, go_sem, z0, z1]) rfl (ChainRes.out ⟨(hB.setCell (by simp) _).setCell (by simp) _, .inr ⟨HVB.out, A', c', by rw [HTL.out], ?_⟩⟩)
        rw [HTL.out]
        exact own_base (ownsRow_setCell_below (ownsRow_setCell_below hO (show w.heap.size + 1 < w.heap.size + 1 + 2 by omega) _) (show w.heap.size + 1 < w.heap.size + 1 + 2 by omega) _) (by omega)
end Go.Proofs.Ytlhepgdheopgaaa

