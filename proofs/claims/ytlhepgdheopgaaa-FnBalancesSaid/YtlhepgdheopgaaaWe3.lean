/-
  impl.chainBy where a step may give a NaN; impl.WeighChain.
-/
import Derived.Test.YtlhepgdheopgaaaWe2
import Derived.Deep.RegionLaw
namespace Go.Proofs.Ytlhepgdheopgaaa
open Go Go.RowKit Ieee
attribute [local go_sem] run_store_float

def allV (V : Nat → Nat → Nat → Prop) (n : Nat) (f : Nat → Nat → Nat) (p : Nat) : Prop := ∀ i k, k < n → i * n + k < p → V i k (f i k)
def updF (f : Nat → Nat → Nat) (i k v : Nat) : Nat → Nat → Nat := fun a b => if a = i ∧ b = k then v else f a b
theorem allV_zero (V : Nat → Nat → Nat → Prop) (n : Nat) (f : Nat → Nat → Nat) : allV V n f 0 := fun _ _ _ h => absurd h (by omega)
theorem at_same {n i k a b : Nat} (hk : k < n) (hb : b < n) (h : a * n + b = i * n + k) : a = i ∧ b = k := by
  have h1 : (a * n + b) / n = a := by rw [Nat.mul_comm, Nat.mul_add_div (by omega), Nat.div_eq_of_lt hb, Nat.add_zero]
  have h2 : (i * n + k) / n = i := by rw [Nat.mul_comm, Nat.mul_add_div (by omega), Nat.div_eq_of_lt hk, Nat.add_zero]
  have h3 : (a * n + b) % n = b := by rw [Nat.mul_comm, Nat.mul_add_mod, Nat.mod_eq_of_lt hb]
  have h4 : (i * n + k) % n = k := by rw [Nat.mul_comm, Nat.mul_add_mod, Nat.mod_eq_of_lt hk]
  rw [h] at h1 h3
  exact ⟨h1.symm.trans h2, h3.symm.trans h4⟩
theorem allV_step {V : Nat → Nat → Nat → Prop} {n : Nat} {f : Nat → Nat → Nat} {i k v : Nat} (h : allV V n f (i * n + k)) (hk : k < n) (hv : V i k v) : allV V n (updF f i k v) (i * n + k + 1) := by
  intro a b hb hlt
  unfold updF
  by_cases he : a = i ∧ b = k
  · rw [if_pos he, he.1, he.2]
    exact hv
  · rw [if_neg he]
    refine h a b hb ?_
    have : a * n + b ≠ i * n + k := fun heq => he (at_same hk hb heq)
    omega
theorem updF_before (f : Nat → Nat → Nat) {n i k : Nat} (hk : k < n) (v : Nat) : tabTo n (updF f i k v) (i * n + k) = tabTo n f (i * n + k) := by
  unfold tabTo
  refine List.map_congr_left fun p hp => ?_
  have hlt := List.mem_range.1 hp
  unfold updF
  rw [if_neg]
  rintro ⟨h1, h2⟩
  have := Nat.div_add_mod p n
  rw [h1, h2, Nat.mul_comm] at this
  omega
theorem updF_succ (f : Nat → Nat → Nat) {n i k : Nat} (hk : k < n) (v : Nat) : tabTo n (updF f i k v) (i * n + k + 1) = tabTo n (updF f i k v) (i * n + k) ++ [v] := by
  rw [tab_succ n (updF f i k v) hk]
  congr 2
  unfold updF
  rw [if_pos ⟨rfl, rfl⟩]

set_option maxRecDepth 100000 in
set_option maxHeartbeats 3200000 in
theorem chainByWeigh (n : Nat) (p0 p1 : Value) (V : Nat → Nat → Nat → Prop) (w : World) (hn : 1 ≤ n) (hn2 : n ≤ 12)
    (hg : ∀ W, Below w.heap.size w W → ∀ i k : Nat, i < n → k < n → Calls Try.prog 38 #[.int .i64 i, .int .i64 k, p0, p1] W (fun e W' => ∃ v, e = .returned (.float .f32 v) ∧ V i k v ∧ Below W.heap.size W W')) :
    Calls Try.prog 37 #[.int .i64 n, .func (.func 38) #[] #[p0, p1]] w (fun e w' => ∃ g : Nat → Nat → Nat, (∀ i k, i < n → k < n → V i k (g i k)) ∧ ChainRes w n (tab n g) e w') := by
  obtain ⟨i0, hi0, hz0, hz1, hz2⟩ := info_parts info_f32
  have HG := Lib.hid hg
  clear hg
  have HV := Lib.hid fun A xs c w (hx : xs.length ≤ c) (hc : c ≤ 9223372036854775807) h => ValidChain_any n A xs c w hx hc h
  have hnn : n * n ≤ 144 := Nat.mul_le_mul hn2 hn2
  go_enter Try.func37, Try.ntmps37
  go_wp2_with fail
  generalize hW1 : ((w.alloc (.cells #[.int .i64 0, .slice none 0 0] 26)).alloc (.cells #[.int .i64 n, .slice none 0 0] 26)) = W1
  have s1 : W1.heap.size = w.heap.size + 2 := by rw [← hW1]; simp
  have k0 : W1.cell? ⟨w.heap.size, 0, none⟩ = some (.int .i64 0) := by rw [← hW1]; simp [go_sem]
  have k1 : W1.cell? ⟨w.heap.size, 1, none⟩ = some (.slice none 0 0) := by rw [← hW1]; simp [go_sem]
  have k2 : W1.cell? ⟨w.heap.size + 1, 0, none⟩ = some (.int .i64 n) := by rw [← hW1]; simp [go_sem]
  have k3 : W1.cell? ⟨w.heap.size + 1, 1, none⟩ = some (.slice none 0 0) := by rw [← hW1]; simp [go_sem]
  have f0 : ∀ o, W1.frozen? ⟨w.heap.size, o, none⟩ = false := fun o => by rw [← hW1]; simp [go_sem]
  have f1 : ∀ o, W1.frozen? ⟨w.heap.size + 1, o, none⟩ = false := fun o => by rw [← hW1]; simp [go_sem]
  have B1 : Below w.heap.size w W1 := by rw [← hW1]; exact ((Below.refl _ _).alloc (Nat.le_refl _) _).alloc (by simp) _
  have S1 := Lib.hid s1
  have K0 := Lib.hid k0
  have K1 := Lib.hid k1
  have F0 := Lib.hid f0
  have HB1 := Lib.hid B1
  have START : Hid (CB W1 w.heap.size n (fun _ _ => 0) 0 W1) := ⟨none, 0, Below.refl _ _, by rw [s1]; exact Nat.le_refl _, k2, k3, f1, World.ownsRow_nil _ _ _ _⟩
  clear hW1 s1 k0 k1 k2 k3 f0 f1 B1
  go_loopw [7, 12] (fun _ i wr => ∃ (k : Nat) (f : Nat → Nat → Nat), k ≤ n ∧ i = .int .i64 k ∧ allV V n f (k * n) ∧ CB W1 w.heap.size n f (k * n) wr) (fun _ i _ => n - (intOf i).toNat)
  case atStart => exact ⟨0, fun _ _ => 0, Nat.zero_le _, rfl, by rw [Nat.zero_mul]; exact allV_zero _ _ _, by rw [Nat.zero_mul]; exact START.out⟩
  case round =>
    obtain ⟨k, f0, hk, rfl, hal0, hcb⟩ := hrel
    have HAL0 := Lib.hid hal0
    clear hal0
    have HCB := Lib.hid hcb
    clear hcb
    by_cases hlt : k < n
    · go_wp2_with fail
      go_loopw [8, 16] (fun _ i wr => ∃ (j : Nat) (f : Nat → Nat → Nat), j ≤ n ∧ i = .int .i64 j ∧ allV V n f (k * n + j) ∧ CB W1 w.heap.size n f (k * n + j) wr) (fun _ i _ => n - (intOf i).toNat)
      case atStart => exact ⟨0, f0, Nat.zero_le _, rfl, HAL0.out, HCB.out⟩
      case round =>
        obtain ⟨j, f, hj, rfl, hal, hcj⟩ := hrel
        have HAL := Lib.hid hal
        clear hal
        by_cases hjt : j < n
        · rename_i wr
          obtain ⟨A, c, hbw, hsz, c0, c1, hfr, hown⟩ := hcj
          have hp : k * n + j < n * n := idx_lt hlt hjt
          have HUP : Hid (∀ v, V k j v → allV V n (updF f k j v) (k * n + j + 1)) := Lib.hid fun v hv => allV_step HAL.out hjt hv
          have HF : Hid (∀ v, tabTo n (updF f k j v) (k * n + j + 1) = tabTo n (updF f k j v) (k * n + j) ++ [v]) := Lib.hid fun v => updF_succ f hjt v
          have HFS : Hid (∀ v, tabTo n (updF f k j v) (k * n + j) = tabTo n f (k * n + j)) := Lib.hid fun v => updF_before f hjt v
          have HBW := Lib.hid hbw
          have hcall := HG.out
          clear hbw
          have hMk : Hid (∀ W, Below wr.heap.size wr W → W.cell? ⟨w.heap.size + 1, 0, none⟩ = some (.int .i64 n) ∧ W.cell? ⟨w.heap.size + 1, 1, none⟩ = some (.slice A (k * n + j) c)) := fun W hW => ⟨keepC hW c0, keepC hW c1⟩
          have HGC : Hid (∀ W, Below wr.heap.size wr W → Calls Try.prog 38 #[.int .i64 k, .int .i64 j, p0, p1] W (fun e W' => ∃ v, e = .returned (.float .f32 v) ∧ V k j v ∧ Below W.heap.size W W')) := fun W hW => HG.out W ((HB1.out.trans (HBW.out.mono (by omega))).trans (hW.mono (by have := HBW.out.size; have := S1.out; omega))) k j hlt hjt
          clear hcall
          generalize hpq : k * n + j = p at *
          have HPQ := Lib.hid hpq
          clear hpq
          go_wp2_with fail
          go_region_law (first
            | (have hkk := hk2
               refine step_append_lies _ (by rfl) _ _ _ (by rfl) (w.heap.size + 2) 31 i0 _ 1 4 Try.underlying24 hi0 hz0 hz1 hz2 rfl (by omega) (.slice A p c) p (fl (tabTo n f p)) (by rfl) ((own_below hown hk2).alloc _) ⟨w2.heap.size, 0, none⟩ 1 1 [.float .f32 v] (by rfl) (by rfl) (World.news_of_block (cs := #[.float .f32 v]) (t := 31) (fr := (0, 0)) (heap_alloc_new w2 _)) (by simp [Value.oneCell']) (by omega) (by unfold maxLen; omega) (by omega) (by simp; have := hk2.size; omega) (w2.heap.size + 1) (by simp) ?_
               intro g cap w3 hown3 hgrow hat hlt
               obtain ⟨c3, f3, hcb3⟩ := CB_step (f := updF f k j v) HBW.out hsz c0 c1 hfr (by rw [HFS.out]; exact hown) hk2 hgrow (by rw [HFS.out]; exact hown3) (HF.out v)
               have HX := Lib.hid hcb3
               clear hcb3)
            | (go_simp; go_at_call 38; refine (HGC.out _ (Below.refl _ _).drew).mono ?_; rintro e w2 ⟨v, rfl, hv, hb2⟩; have HVV := Lib.hid hv; clear hv; have hk2 : Below wr.heap.size wr w2 := Below.trans (Below.refl _ _).drew hb2; have cc1 : w2.cell? ⟨w.heap.size + 1, 1, none⟩ = some (.slice A p c) := keepC hk2 c1; have cc2 : (w2.alloc (.cells #[.float .f32 v] 31)).cell? ⟨w.heap.size + 1, 1, none⟩ = some (.slice A p c) := keepC (hk2.alloc hk2.size _) c1))
          all_goals
            go_wp2_with fail
            go_roundw
            case rel => exact ⟨j + 1, updF f k j v, by omega, by go_num, by rw [← Nat.add_assoc, HPQ.out]; exact HUP.out v HVV.out, by rw [← Nat.add_assoc, HPQ.out]; exact HX.out⟩
            case measure => simp [intOf]; omega
        · have hje : j = n := by omega
          subst hje
          have HCJ := Lib.hid hcj
          clear hcj
          go_wp2_with fail
          go_roundw
          case rel => exact ⟨k + 1, f, by omega, by go_num, by rw [Nat.add_mul, Nat.one_mul]; exact HAL.out, by rw [Nat.add_mul, Nat.one_mul]; exact HCJ.out⟩
          case measure => simp [intOf]; omega
    · rename_i wr
      have hke : n = k := by omega
      subst hke
      obtain ⟨A, c, hbw, hsz, c0, c1, hfr, hown⟩ := HCB.out
      have HV : Hid (∀ W, Below wr.heap.size wr W → Calls Try.prog 20 #[.agg #[.int .i64 n, .slice A (n * n) c]] W (fun e w' => e = .returned (.bool (validB n (tab n f0))) ∧ Below W.heap.size W w')) := fun W hW => by
        have h1 : (tab n f0).length = n * n := tab_len n f0
        have h2 := own_cap hown
        have h := ValidChain_any n A (tab n f0) c W (by rw [h1]; exact h2.1) h2.2 ((Rd.of_own hown).next (Nat.le_refl _) hW)
        rw [h1] at h
        exact h
      have g0 : wr.cell? ⟨w.heap.size, 0, none⟩ = some (.int .i64 0) := (hbw.cell (show w.heap.size < w.heap.size + 1 by omega)).trans K0.out
      have g1 : wr.cell? ⟨w.heap.size, 1, none⟩ = some (.slice none 0 0) := (hbw.cell (show w.heap.size < w.heap.size + 1 by omega)).trans K1.out
      have gf : ∀ o, wr.frozen? ⟨w.heap.size, o, none⟩ = false := fun o => (hbw.frozen (show w.heap.size < w.heap.size + 1 by omega)).trans (F0.out o)
      have hbwr : Below w.heap.size w wr := HB1.out.trans (hbw.mono (by omega))
      have HBR := Lib.hid hbwr
      have HOWN := Lib.hid hown
      have HSZ := Lib.hid hsz
      clear hbwr hown hbw hsz
      cases hvb : validB n (tab n f0)
      · have HVB := Lib.hid hvb
        rw [hvb] at HV
        clear hvb
        go_wp2_with (go_at_call 20; refine (HV.out _ (by first | exact Below.refl _ _ | exact (Below.refl _ _).drew)).mono ?_; rintro e w5 ⟨rfl, hb5⟩; have hk5 : Below wr.heap.size wr w5 := hb5; have z0 : w5.cell? ⟨w.heap.size, 0, none⟩ = some (.int .i64 0) := keepC hk5 g0; have z1 : w5.cell? ⟨w.heap.size, 1, none⟩ = some (.slice none 0 0) := keepC hk5 g1; have zf : ∀ o, w5.frozen? ⟨w.heap.size, o, none⟩ = false := fun o => (hk5.frozen (p := ⟨_, o, none⟩) (lt_of_cell (a := ⟨w.heap.size, 0, none⟩) g0)).trans (gf o); have y0 : w5.cell? ⟨w.heap.size + 1, 0, none⟩ = some (.int .i64 n) := keepC hk5 c0; have y1 : w5.cell? ⟨w.heap.size + 1, 1, none⟩ = some (.slice A (n * n) c) := keepC hk5 c1)
        have hB : Below w.heap.size w w5 := HBR.out.trans (hk5.mono (by have := HSZ.out; omega))
        refine bodyPost_ret (v := .tuple #[.agg #[.int .i64 0, .slice none 0 0], .bool false]) (by simp [results, Try.results37, go_sem, z0, z1]) rfl ⟨f0, fun i k hi hk => HAL0.out i k hk (idx_lt hi hk), (hB.setCell (Nat.le_refl _) _).setCell (Nat.le_refl _) _, .inl ⟨HVB.out, rfl⟩⟩
      · have HVB := Lib.hid hvb
        rw [hvb] at HV
        clear hvb
        go_wp2_with (go_at_call 20; refine (HV.out _ (by first | exact Below.refl _ _ | exact (Below.refl _ _).drew)).mono ?_; rintro e w5 ⟨rfl, hb5⟩; have hk5 : Below wr.heap.size wr w5 := hb5; have z0 : w5.cell? ⟨w.heap.size, 0, none⟩ = some (.int .i64 0) := keepC hk5 g0; have z1 : w5.cell? ⟨w.heap.size, 1, none⟩ = some (.slice none 0 0) := keepC hk5 g1; have zf : ∀ o, w5.frozen? ⟨w.heap.size, o, none⟩ = false := fun o => (hk5.frozen (p := ⟨_, o, none⟩) (lt_of_cell (a := ⟨w.heap.size, 0, none⟩) g0)).trans (gf o); have y0 : w5.cell? ⟨w.heap.size + 1, 0, none⟩ = some (.int .i64 n) := keepC hk5 c0; have y1 : w5.cell? ⟨w.heap.size + 1, 1, none⟩ = some (.slice A (n * n) c) := keepC hk5 c1)
        have hB : Below w.heap.size w w5 := HBR.out.trans (hk5.mono (by have := HSZ.out; omega))
        have hO := ownsRow_setCell_below (ownsRow_setCell_below (own_below HOWN.out hk5) (a := ⟨w.heap.size, 0, none⟩) (show w.heap.size < w.heap.size + 2 by omega) (.int .i64 n)) (a := ⟨w.heap.size, 1, none⟩) (show w.heap.size < w.heap.size + 2 by omega) (.slice A (n * n) c)
        refine bodyPost_ret (v := .tuple #[.agg #[.int .i64 n, .slice A (n * n) c], .bool true]) (by simp [results, Try.results37, go_sem, z0, z1]) rfl ⟨f0, fun i k hi hk => HAL0.out i k hk (idx_lt hi hk), (hB.setCell (Nat.le_refl _) _).setCell (Nat.le_refl _) _, .inr ⟨HVB.out, A, c, by rw [tab_len], ?_⟩⟩
        rw [tab_len]
        exact own_base hO (by omega)


end Go.Proofs.Ytlhepgdheopgaaa

