/-
  Rings: spec.RingChain, the way that gives a chain.
-/
import Derived.Test.YtddaodjaeommlaaRin2
import Derived.RegionTactic
import Derived.ChangeAlike
namespace Go.Proofs.Ytddaodjaeommlaa
open Go Go.RowKit Ieee
attribute [local go_sem] run_store_float

theorem row_made (w : World) (G : Nat) (hG : w.heap.size = G) (z : Value) (n : Nat) (t : TypeId) (o : Obj) : ((w.alloc (.cells (madeCells #[z] n) t)).alloc o).rowIs G t n (fun _ => z) := by
  subst hG
  exact (World.rowIs_made w z n t).alloc o
def RS3 (W0 : World) (G N n s r l i : Nat) (wr : World) : Prop :=
  Below (G + 1) W0 wr ∧ wr.cell? ⟨G + 2, 0, none⟩ = some (.int .i64 n) ∧ wr.cell? ⟨G + 2, 1, none⟩ = some (.slice (some ⟨G + 1, 0, none⟩) N N) ∧ wr.rowIs (G + 1) 33 N (fun p => .float .f32 (ringTo n s r l i p))

set_option maxRecDepth 100000 in
set_option maxHeartbeats 3200000 in
theorem specRingChain_ok (n : Nat) (s r : Nat) (w : World) (hok : ringOk n s r = true) : Calls Try.prog 37 #[.int .i64 n, .float .f32 s, .float .f32 r] w (chGive n (tab n (ringF n s r (leftB s r))) w) := by
  have HW := Lib.hid fun w => l00In_any n 3 12 w
  have HS := Lib.hid fun w => l02Part_any s w
  have HR := Lib.hid fun w => l02Part_any r w
  unfold ringOk at hok
  rw [Bool.and_eq_true, Bool.and_eq_true] at hok
  obtain ⟨hin, hp, hge⟩ := hok
  rw [hin] at HW
  have hn : 3 ≤ n ∧ n ≤ 12 := by have := of_decide_eq_true hin; omega
  obtain ⟨hs, hr⟩ : partB s = true ∧ partB r = true := by simpa using hp
  rw [hs] at HS
  rw [hr] at HR
  have e1' := (fsub_run one_notNan (part_key hs).2.2.2)
  have e2' := (fsub_run e1'.2 (part_key hr).2.2.2).1
  have e1 := fun w => run_float_arith (P := Try.prog) w .sub 33 .f32 _ _ _ e1'.1
  have hL : leftB s r = fsub (fsub 1065353216 s) r := rfl
  rw [← hL] at e2'
  have e2 := fun w => run_float_arith (P := Try.prog) w .sub 33 .f32 _ _ _ e2'
  clear hin hp hs hr e1' e2' hL
  generalize leftB s r = left at *
  obtain ⟨hn1, hn2⟩ := hn
  have hq2 : n * n ≤ 144 := Nat.mul_le_mul hn2 hn2
  have HG : Hid (∀ W, Rd W W.heap.size (some ⟨w.heap.size + 1, 0, none⟩) (fl (tab n (ringF n s r left))) → Calls Try.prog 103 #[.agg #[.int .i64 n, .slice (some ⟨w.heap.size + 1, 0, none⟩) (n * n) (n * n)]] W (fun e w' => (e = .returned (.tuple #[if validB n (tab n (ringF n s r left)) = true then .agg #[.int .i64 n, .slice (some ⟨w.heap.size + 1, 0, none⟩) (n * n) (n * n)] else .agg #[.int .i64 0, .slice none 0 0], .bool (validB n (tab n (ringF n s r left)))])) ∧ Below W.heap.size W w')) := fun W hR => by
    have h := l07Give_any n (some ⟨w.heap.size + 1, 0, none⟩) (tab n (ringF n s r left)) (n * n) W (by rw [tab_len]; omega) hR
    rw [tab_len] at h
    exact h
  have wn : IntKind.i64.wrap ((n : Int) * (n : Int)) = ((n * n : Nat) : Int) := by rw [show (n : Int) * (n : Int) = ((n * n : Nat) : Int) by push_cast; rfl]; exact IntWalk.i64_in _ (by omega)
  obtain ⟨i0, hi0, hz0, hz1, hz2⟩ := info_parts info_f32
  have hmk := run_make_row (P := Try.prog) 22 33 i0 (.float .f32 0) Try.underlying22 hi0 hz0 hz1 rfl .i64 .i64 (n * n) (by rw [hz2]; omega) (by omega)
  have hti := fun i (hi : i < n) p => ringTo_step (s := s) (r := r) (l := left) hn1 hi p
  have HTI := Lib.hid hti
  have HALL : Hid ((List.range (n * n)).map (ringTo n s r left n) = tab n (ringF n s r left)) := ringTo_all hn1
  have HLN : Hid ((tab n (ringF n s r left)).length = n * n) := tab_len _ _
  have HIX : Hid (∀ i k, i < n → k < n → i * n + k < n * n) := fun i k hi hk => idx_lt hi hk
  clear hi0 hz0 hz1 hz2 hti
  generalize hNN : n * n = N at *
  clear hNN
  go_enter Try.func37, Try.ntmps37
  go_wp2_with (first
    | (go_at_call 101; refine (HW.out _).mono ?_; rintro e w1 ⟨rfl, m, rfl⟩)
    | (go_at_call 102; first | (refine (HS.out _).mono ?_; rintro e w1 ⟨rfl, m2, rfl⟩) | (refine (HR.out _).mono ?_; rintro e w1 ⟨rfl, m3, rfl⟩)))
  generalize hW0 : World.alloc (World.alloc (World.drewN _ _) _) _ = W0
  have k0 : W0.cell? ⟨w.heap.size, 0, none⟩ = some (.int .i64 0) := by rw [← hW0]; simp [go_sem]
  have k1 : W0.cell? ⟨w.heap.size, 1, none⟩ = some (.slice none 0 0) := by rw [← hW0]; simp [go_sem]
  have kf : ∀ o, W0.frozen? ⟨w.heap.size, o, none⟩ = false := fun o => by rw [← hW0]; simp [go_sem]
  have c0 : W0.cell? ⟨w.heap.size + 2, 0, none⟩ = some (.int .i64 n) := by rw [← hW0]; simp [go_sem]
  have c1 : W0.cell? ⟨w.heap.size + 2, 1, none⟩ = some (.slice (some ⟨w.heap.size + 1, 0, none⟩) N N) := by rw [← hW0]; simp [go_sem]
  have hrw : W0.rowIs (w.heap.size + 1) 33 N (fun _ => .float .f32 0) := by rw [← hW0]; exact row_made _ _ (by simp) _ _ _ _
  have s0 : W0.heap.size = w.heap.size + 3 := by rw [← hW0]; simp
  have hB0 : Below w.heap.size w W0 := by rw [← hW0]; exact ((below_drewN ((Below.refl _ _).alloc (Nat.le_refl _) _) _).alloc (by simp) _).alloc (by simp; omega) _
  have K0 := Lib.hid k0
  have K1 := Lib.hid k1
  have KF := Lib.hid kf
  have S0 := Lib.hid s0
  have HB0 := Lib.hid hB0
  have START : Hid (RS3 W0 w.heap.size N n s r left 0 W0) := ⟨Below.refl _ _, c0, c1, hrw.congr fun p _ => by unfold ringTo; rw [if_neg (Nat.not_lt_zero _)]⟩
  clear hW0 k0 k1 kf c0 c1 hrw s0 hB0
  go_loopw [9] (fun i wr => ∃ k : Nat, k ≤ n ∧ i = .int .i64 k ∧ RS3 W0 w.heap.size N n s r left k wr) (fun i _ => n - (intOf i).toNat)
  case atStart => exact ⟨0, Nat.zero_le _, rfl, START.out⟩
  case round =>
    obtain ⟨k, hk, rfl, b1, c0, c1, hrow⟩ := hrel
    by_cases hlt : k < n
    · rename_i wr
      have HR1 := HTI.out k hlt
      have x1 := HIX.out k k hlt hlt
      have x2 := HIX.out k ((k + 1) % n) hlt (Nat.mod_lt _ (by omega))
      have x3 := HIX.out k ((k + n - 1) % n) hlt (Nat.mod_lt _ (by omega))
      have wq : IntKind.i64.wrap ((k : Int) * (n : Int)) = ((k * n : Nat) : Int) := by rw [show (k : Int) * (n : Int) = ((k * n : Nat) : Int) by push_cast; rfl]; exact IntWalk.i64_in _ (by omega)
      have t1 : ((k : Int) + 1).tmod n = ((k + 1) % n : Nat) := by
        rw [show (k : Int) + 1 = ((k + 1 : Nat) : Int) by omega, Int.tmod_eq_emod_of_nonneg (by omega)]
        rfl
      have t2 : ((k : Int) + n - 1).tmod n = ((k + n - 1) % n : Nat) := by
        rw [show (k : Int) + n - 1 = ((k + n - 1 : Nat) : Int) by omega, Int.tmod_eq_emod_of_nonneg (by omega)]
        rfl
      generalize k * n = q at *
      generalize (k + 1) % n = d1 at *
      generalize (k + n - 1) % n = d2 at *
      have HR2 := Lib.hid HR1
      clear HR1
      have hcl := hrow.cell x1
      have hfz := hrow.frozen (q + k)
      obtain ⟨y1, y2, y3, y4⟩ := RS_set b1 c0 c1 hrow (q + k) (.float .f32 s)
      have Y := Lib.hid (And.intro y1 (And.intro y2 (And.intro y3 y4)))
      clear y1 y2 y3 y4 b1 hrow
      go_wp2_with fail
      obtain ⟨b1, c0, c1, hrow⟩ := Y.out
      clear Y hcl hfz
      generalize wr.setCell ⟨w.heap.size + 1, q + k, none⟩ (.float .f32 s) = W1 at b1 c0 c1 hrow ⊢
      have hcl := hrow.cell x2
      have hfz := hrow.frozen (q + d1)
      have hy := RS_set b1 c0 c1 hrow (q + d1) (.float .f32 r)
      have Y : Hid (Below (w.heap.size + 1) W0 (W1.setCell ⟨w.heap.size + 1, q + d1, none⟩ (.float .f32 r)).drew ∧ _) := ⟨hy.1.drew, hy.2⟩
      clear hy b1 hrow
      go_region
      go_wp2_with fail
      obtain ⟨b1, c0, c1, hrow⟩ := Y.out
      clear Y hcl hfz
      have hrow := hrow.drew
      have c0' : (W1.setCell ⟨w.heap.size + 1, q + d1, none⟩ (.float .f32 r)).drew.cell? ⟨w.heap.size + 2, 0, none⟩ = some (.int .i64 n) := c0
      have c1' : (W1.setCell ⟨w.heap.size + 1, q + d1, none⟩ (.float .f32 r)).drew.cell? ⟨w.heap.size + 2, 1, none⟩ = some (.slice (some ⟨w.heap.size + 1, 0, none⟩) N N) := c1
      clear c0 c1
      generalize (W1.setCell ⟨w.heap.size + 1, q + d1, none⟩ (.float .f32 r)).drew = W2 at b1 c0' c1' hrow ⊢
      have hcl := hrow.cell x3
      have hfz := hrow.frozen (q + d2)
      have hy := RS_set b1 c0' c1' hrow (q + d2) (.float .f32 left)
      have Y : Hid (RS3 W0 w.heap.size N n s r left (k + 1) (W2.setCell ⟨w.heap.size + 1, q + d2, none⟩ (.float .f32 left)).drew) := ⟨hy.1.drew, hy.2.1, hy.2.2.1, hy.2.2.2.drew.congr fun p _ => by rw [← HR2.out p]; split; rfl; split; rfl; split <;> rfl⟩
      clear hy b1 hrow
      go_region
      go_wp2_with fail
      go_roundw
      case rel => exact ⟨k + 1, by omega, by go_num, Y.out⟩
      case measure => simp [intOf]; omega
    · rename_i wr
      have hke : n = k := by omega
      subst hke
      have ho := own_of_row hrow (base := w.heap.size + 1) (Nat.le_refl _) (by unfold maxLen; omega)
      have hfl : (List.range N).map (fun p => Value.float .f32 (ringTo n s r left n p)) = fl (tab n (ringF n s r left)) := by
        rw [← HALL.out]
        unfold fl
        rw [List.map_map]
        rfl
      rw [hfl] at ho
      have HO := Lib.hid ho
      have g0 : wr.cell? ⟨w.heap.size, 0, none⟩ = some (.int .i64 0) := (b1.cell (show w.heap.size < w.heap.size + 1 by omega)).trans K0.out
      have g1 : wr.cell? ⟨w.heap.size, 1, none⟩ = some (.slice none 0 0) := (b1.cell (show w.heap.size < w.heap.size + 1 by omega)).trans K1.out
      have gf : ∀ o, wr.frozen? ⟨w.heap.size, o, none⟩ = false := fun o => (b1.frozen (show w.heap.size < w.heap.size + 1 by omega)).trans (KF.out o)
      have HBR := Lib.hid (HB0.out.trans (b1.mono (by omega)))
      have hlt := hrow.lt
      have HL2 := HLN.out
      clear ho hfl b1 hrow
      generalize tab n (ringF n s r left) = xs at *
      cases hvb : validB n xs
      · have HVB := Lib.hid hvb
        rw [hvb] at HG
        clear hvb
        go_wp2_with (go_at_call 103; refine (HG.out _ ((Rd.of_own HO.out).at_ (by first | exact Below.refl _ _ | exact (Below.refl _ _).drew))).mono ?_; rintro e w5 ⟨rfl, hb5⟩; have hk5 : Below wr.heap.size wr w5 := hb5; have z0 : w5.cell? ⟨w.heap.size, 0, none⟩ = some (.int .i64 0) := keepC hk5 g0; have z1 : w5.cell? ⟨w.heap.size, 1, none⟩ = some (.slice none 0 0) := keepC hk5 g1; have zf : ∀ o, w5.frozen? ⟨w.heap.size, o, none⟩ = false := fun o => (hk5.frozen (p := ⟨_, o, none⟩) (by show w.heap.size < wr.heap.size; omega)).trans (gf o))
        have hB : Below w.heap.size w w5 := HBR.out.trans (hk5.mono (by omega))
        refine bodyPost_ret (v := .tuple #[.agg #[.int .i64 0, .slice none 0 0], .bool false]) (by simp [results, Try.results37, go_sem, z0, z1]) rfl (ChainRes.out ⟨(hB.setCell (Nat.le_refl _) _).setCell (Nat.le_refl _) _, .inl ⟨HVB.out, rfl⟩⟩)
      · have HVB := Lib.hid hvb
        rw [hvb] at HG
        clear hvb
        go_wp2_with (go_at_call 103; refine (HG.out _ ((Rd.of_own HO.out).at_ (by first | exact Below.refl _ _ | exact (Below.refl _ _).drew))).mono ?_; rintro e w5 ⟨rfl, hb5⟩; have hk5 : Below wr.heap.size wr w5 := hb5; have z0 : w5.cell? ⟨w.heap.size, 0, none⟩ = some (.int .i64 0) := keepC hk5 g0; have z1 : w5.cell? ⟨w.heap.size, 1, none⟩ = some (.slice none 0 0) := keepC hk5 g1; have zf : ∀ o, w5.frozen? ⟨w.heap.size, o, none⟩ = false := fun o => (hk5.frozen (p := ⟨_, o, none⟩) (by show w.heap.size < wr.heap.size; omega)).trans (gf o))
        have hB : Below w.heap.size w w5 := HBR.out.trans (hk5.mono (by omega))
        have hO := own_below HO.out hk5
        refine bodyPost_ret (v := .tuple #[.agg #[.int .i64 n, .slice (some ⟨w.heap.size + 1, 0, none⟩) N N], .bool true]) (by simp [results, Try.results37, go_sem, z0, z1]) rfl (ChainRes.out ⟨(hB.setCell (Nat.le_refl _) _).setCell (Nat.le_refl _) _, .inr ⟨HVB.out, _, N, by rw [HL2], ?_⟩⟩)
        rw [HL2]
        exact own_base (ownsRow_setCell_below (ownsRow_setCell_below hO (Nat.lt_succ_self _) _) (Nat.lt_succ_self _) _) (by omega)
end Go.Proofs.Ytddaodjaeommlaa
