/-
  impl.WeighChain's closures.
-/
import Derived.Test.YtlhepgdheopgaaaWe0
import Derived.Deep.RegionHeld3
namespace Go.Proofs.Ytlhepgdheopgaaa
open Go Go.RowKit Ieee

def capO (q : Nat) : Nat := if (FloatKind.f32.format.order q 1065353216 == some .gt) = true then 1065353216 else q
theorem capO_some {q : Nat} (h : isNan single q = false) : capO q = capF q := by
  unfold capO capF
  have h1 : (FloatKind.f32.format.order q 1065353216 == some .gt) = decide (key single 1065353216 < key single q) := gt_key (f := single) (by decide) h one_notNan
  rw [h1]
  simp
theorem capO_nan {q : Nat} (h : isNan single q = true) : capO q = q := by
  unfold capO
  have h1 : FloatKind.f32.format.order q 1065353216 = none := order_nan_left (f := FloatKind.f32.format) 1065353216 h
  rw [h1]
  rfl
theorem mul_nan {x y : Nat} (h : isNan single y = true) : floatBits .mul .f32 x y = none := by
  show single.mul x y = none
  unfold isNan Datum.isNaN at h
  unfold Format.mul
  cases hd : single.read y with
  | number s m i => rw [hd] at h; simp at h
  | infinity s => rw [hd] at h; simp at h
  | nan s t => cases single.read x <;> rfl

set_option maxHeartbeats 400000 in
theorem atMostOne_any (q : Nat) (w : World) : Calls Try.prog 36 #[.float .f32 q] w (Quiet (.float .f32 (capO q)) w) := by
  cases hc : (FloatKind.f32.format.order q 1065353216 == some .gt) with
  | true =>
    have HC : Hid (capO q = 1065353216) := Lib.hid (by unfold capO; rw [if_pos hc])
    go_enter Try.func36, Try.ntmps36
    go_wp2
    go_ret
    rw [HC.out]
    exact .mk0
  | false =>
    have HC : Hid (capO q = q) := Lib.hid (by unfold capO; rw [if_neg (by rw [hc]; simp)])
    go_enter Try.func36, Try.ntmps36
    go_wp2
    go_ret
    rw [HC.out]
    exact .mk0

set_option maxRecDepth 100000 in
set_option maxHeartbeats 3200000 in
theorem offClo (n i k b0 b1 : Nat) (A : Option Addr) (xs : List Nat) (c : Nat) (B : Option Addr) (ws : List Nat) (d : Nat) (w : World) (hn2 : n ≤ 12) (hi : i < n) (hk : k < n) (hl : xs.length = n * n) (hp : xs.all partB = true) (hrl : ws.length = n) (hr : ws.all leastB = true) (ha : ws.all aboveB = true)
    (h0 : w.cell? ⟨b0, 0, none⟩ = some (.slice B ws.length d)) (h1 : w.cell? ⟨b1, 0, none⟩ = some (.int .i64 n)) (h2 : w.cell? ⟨b1, 1, none⟩ = some (.slice A xs.length c)) (h : Rd w w.heap.size A (fl xs)) (h' : Rd w w.heap.size B (fl ws)) :
    Calls Try.prog 34 #[.int .i64 i, .int .i64 k, .pointer (some ⟨b1, 0, none⟩), .pointer (some ⟨b0, 0, none⟩)] w (fun e w' => ∃ v, e = .returned (.float .f32 v) ∧ offV xs ws n i k v ∧ Below w.heap.size w w') := by
  obtain ⟨b2, o2, rfl, hb2, hc2⟩ := h' (by rw [fl_len]; omega)
  have x1 := rowOf_cell (show i < ws.length by omega) hc2
  have x2 := rowOf_cell (show k < ws.length by omega) hc2
  have HT : Hid (∀ W, Below w.heap.size w W → Calls Try.prog 35 #[.agg #[.int .i64 n, .slice A xs.length c], .int .i64 k, .int .i64 i] W (fun e w' => e = .returned (.float .f32 (stepOf xs n k i)) ∧ Below W.heap.size W w')) := Lib.hid fun W hW => step_any n k i A xs c W hn2 hk hi hl (h.at_ hW)
  have HT0 : Hid (∀ W, Below w.heap.size w W → Calls Try.prog 35 #[.agg #[.int .i64 n, .slice A xs.length c], .int .i64 i, .int .i64 k] W (fun e w' => e = .returned (.float .f32 (stepOf xs n i k)) ∧ Below W.heap.size W w')) := Lib.hid fun W hW => step_any n i k A xs c W hn2 hi hk hl (h.at_ hW)
  rw [hrl] at h0
  have hMk : Hid (∀ W, Below w.heap.size w W → W.cell? ⟨b0, 0, none⟩ = some (.slice (some ⟨b2, o2, none⟩) n d) ∧ W.cell? ⟨b1, 0, none⟩ = some (.int .i64 n) ∧ W.cell? ⟨b1, 1, none⟩ = some (.slice A xs.length c) ∧ W.cell? ⟨b2, o2 + i, none⟩ = some (.float .f32 (rowOf ws i)) ∧ W.cell? ⟨b2, o2 + k, none⟩ = some (.float .f32 (rowOf ws k))) := Lib.hid fun W hW => ⟨keepC hW h0, keepC hW h1, keepC hW h2, keepC hW x1, keepC hW x2⟩
  have heq : (FloatKind.f32.format.order (stepOf xs n i k) 0 == some .eq) = zB xs n i k := by
    have := eq_key (f := single) (by decide) (part_key (stepOf_part hl hp hi hk)).1 zero_notNan
    rw [key_zero] at this
    exact this
  cases hz : zB xs n i k with
  | true =>
    have HV : Hid (offV xs ws n i k 0) := Lib.hid ((offV_zero hz).2 rfl)
    rw [hz] at heq
    clear h hl hp hrl hr ha hc2 h' hz HT
    generalize stepOf xs n i k = own at *
    go_enter Try.func34, Try.ntmps34
    go_wp2_with (go_at_call 35; refine (HT0.out _ (Below.refl _ _)).mono ?_; rintro e w3 ⟨rfl, hb3⟩)
    go_ret
    exact ⟨0, rfl, HV.out, hb3⟩
  | false =>
    rw [hz] at heq
    obtain ⟨r1, r2, hq⟩ := w_runs hl hp hrl hr ha hi hk hz
    have e1 := fun w => run_float_arith (P := Try.prog) w .mul 31 .f32 _ _ _ r1
    have e2 := fun w => run_float_arith (P := Try.prog) w .mul 31 .f32 _ _ _ r2
    have HA1 := Lib.hid fun q W => atMostOne_any q W
    rcases hq with hq | ⟨q, hq, hq1, hq2⟩
    · have HV : Hid (∀ v, isNan single v = true → offV xs ws n i k v) := Lib.hid fun v hv => (offV_none hz hq).2 hv
      have hq' : floatBits .quo .f32 (wA xs ws n i k) (wB xs ws n i k) = none := hq
      obtain ⟨nd, hnd, e3⟩ : ∃ nd : World → Nat, (∀ w, isNan single (nd w) = true) ∧ ∀ w : World, (binOp .quo 31 (.float .f32 (wA xs ws n i k)) (.float .f32 (wB xs ws n i k))).run Try.prog w = .ok (.float .f32 (nd w)) w.drew :=
        ⟨_, fun w => nanDraw_bits .f32 (wA xs ws n i k) (wB xs ws n i k) w, fun w => run_float_nan w .quo (by simp) _ .f32 _ _ hq'⟩
      obtain ⟨nm, hnm, e4⟩ : ∃ nm : Nat → World → Nat, (∀ x w, isNan single (nm x w) = true) ∧ ∀ x (w : World), isNan single x = true → (binOp .mul 31 (.float .f32 (stepOf xs n i k)) (.float .f32 x)).run Try.prog w = .ok (.float .f32 (nm x w)) w.drew :=
        ⟨_, fun x w => nanDraw_bits .f32 (stepOf xs n i k) x w, fun x w hx => run_float_nan w .mul (by simp) _ .f32 _ _ (mul_nan hx)⟩
      have hcap : ∀ w, capO (nd w) = nd w := fun w => capO_nan (hnd w)
      clear h hl hp hrl hr ha r1 r2 hc2 h' hq hq' hz
      generalize stepOf xs n i k = own at *
      generalize stepOf xs n k i = back at *
      generalize wA xs ws n i k = av at *
      generalize wB xs ws n i k = bv at *
      generalize rowOf ws i = ri at *
      generalize rowOf ws k = rk at *
      go_enter Try.func34, Try.ntmps34
      go_wp2_with (go_at_call 35; refine (HT0.out _ (Below.refl _ _)).mono ?_; rintro e w3 ⟨rfl, hb3⟩)
      refine wp_region_held_drew (S := fun W => W.cell? ⟨b0, 0, none⟩ = some (.slice (some ⟨b2, o2, none⟩) n d) ∧ W.cell? ⟨b1, 0, none⟩ = some (.int .i64 n) ∧ W.cell? ⟨b1, 1, none⟩ = some (.slice A xs.length c) ∧ W.cell? ⟨b2, o2 + i, none⟩ = some (.float .f32 ri) ∧ W.cell? ⟨b2, o2 + k, none⟩ = some (.float .f32 rk)) (by kernel_rfl) (by exact hMk.out _ (by repeat (first | assumption | exact Below.refl _ _ | refine below_al ?_ _ | refine below_dr ?_ | refine below_dn ?_ _))) (fun hHeld => ?_)
      refine wpAnyH_take (i := 0) (v := ?_) rfl (by kernel_rfl) (by kernel_rfl) (by kernel_rfl) (fun _ _ _ h => h) (Or.inl ⟨by rfl, ?_⟩) (by assumption) ?_
      rotate_left
      · intro wS hSw; (try dsimp only at hSw); go_simp; (try (with_reducible rfl))
      (try simp only [Act.put, List.getElem_toArray, List.getElem_cons_zero, List.getElem_cons_succ, List.setIfInBounds_toArray, List.set_cons_zero, List.set_cons_succ])
      refine wpAnyH_take (i := 1) (v := ?_) rfl (by kernel_rfl) (by kernel_rfl) (by kernel_rfl) (fun _ _ _ h => h) (Or.inl ⟨by rfl, ?_⟩) (by assumption) ?_
      rotate_left
      · intro wS hSw; (try dsimp only at hSw); go_simp; (try (with_reducible rfl))
      (try simp only [Act.put, List.getElem_toArray, List.getElem_cons_zero, List.getElem_cons_succ, List.setIfInBounds_toArray, List.set_cons_zero, List.set_cons_succ])
      refine wpAnyH_take (i := 2) (v := ?_) rfl (by kernel_rfl) (by kernel_rfl) (by kernel_rfl) (fun _ _ _ h => h) (Or.inl ⟨by rfl, ?_⟩) (by assumption) ?_
      rotate_left
      · intro wS hSw; (try dsimp only at hSw); go_simp; (try (with_reducible rfl))
      (try simp only [Act.put, List.getElem_toArray, List.getElem_cons_zero, List.getElem_cons_succ, List.setIfInBounds_toArray, List.set_cons_zero, List.set_cons_succ])
      refine wpAnyH_take (i := 3) (v := ?_) rfl (by kernel_rfl) (by kernel_rfl) (by kernel_rfl) (fun _ _ _ h => h) (Or.inl ⟨by rfl, ?_⟩) (by assumption) ?_
      rotate_left
      · intro wS hSw; (try dsimp only at hSw); go_simp; (try (with_reducible rfl))
      (try simp only [Act.put, List.getElem_toArray, List.getElem_cons_zero, List.getElem_cons_succ, List.setIfInBounds_toArray, List.set_cons_zero, List.set_cons_succ])
      refine wpAnyH_take (i := 4) (v := ?_) rfl (by kernel_rfl) (by kernel_rfl) (by kernel_rfl) (fun _ _ _ h => h) (Or.inl ⟨by rfl, ?_⟩) (by assumption) ?_
      rotate_left
      · intro wS hSw; (try dsimp only at hSw); go_simp; (try (with_reducible rfl))
      (try simp only [Act.put, List.getElem_toArray, List.getElem_cons_zero, List.getElem_cons_succ, List.setIfInBounds_toArray, List.set_cons_zero, List.set_cons_succ])
      refine wpAnyH_take (i := 5) (v := ?_) rfl (by kernel_rfl) (by kernel_rfl) (by kernel_rfl) (fun _ _ _ h => h) (Or.inl ⟨by rfl, ?_⟩) (by assumption) ?_
      rotate_left
      · intro wS hSw; (try dsimp only at hSw); go_simp; (try (with_reducible rfl))
      (try simp only [Act.put, List.getElem_toArray, List.getElem_cons_zero, List.getElem_cons_succ, List.setIfInBounds_toArray, List.set_cons_zero, List.set_cons_succ])
      refine wpAnyH_take (i := 6) (v := ?_) rfl (by kernel_rfl) (by kernel_rfl) (by kernel_rfl) (fun _ _ _ h => h) (Or.inl ⟨by rfl, ?_⟩) (by assumption) ?_
      rotate_left
      · intro wS hSw; (try dsimp only at hSw); go_simp; (try (with_reducible rfl))
      (try simp only [Act.put, List.getElem_toArray, List.getElem_cons_zero, List.getElem_cons_succ, List.setIfInBounds_toArray, List.set_cons_zero, List.set_cons_succ])
      refine wpAnyH_take (i := 7) (v := ?_) rfl (by kernel_rfl) (by kernel_rfl) (by kernel_rfl) (fun _ _ _ h => h) (Or.inl ⟨by rfl, ?_⟩) (by assumption) ?_
      rotate_left
      · intro wS hSw; (try dsimp only at hSw); go_simp; (try (with_reducible rfl))
      (try simp only [Act.put, List.getElem_toArray, List.getElem_cons_zero, List.getElem_cons_succ, List.setIfInBounds_toArray, List.set_cons_zero, List.set_cons_succ])
      refine wpAnyH_take (i := 10) (v := ?_) rfl (by kernel_rfl) (by kernel_rfl) (by kernel_rfl) (fun _ _ _ h => h) (Or.inl ⟨by rfl, ?_⟩) (by assumption) ?_
      rotate_left
      · intro wS hSw; (try dsimp only at hSw); go_simp; (try (with_reducible rfl))
      (try simp only [Act.put, List.getElem_toArray, List.getElem_cons_zero, List.getElem_cons_succ, List.setIfInBounds_toArray, List.set_cons_zero, List.set_cons_succ])
      refine wpAnyH_take (i := 11) (v := ?_) rfl (by kernel_rfl) (by kernel_rfl) (by kernel_rfl) (fun _ _ _ h => h) (Or.inl ⟨by rfl, ?_⟩) (by assumption) ?_
      rotate_left
      · intro wS hSw; (try dsimp only at hSw); go_simp; (try (with_reducible rfl))
      (try simp only [Act.put, List.getElem_toArray, List.getElem_cons_zero, List.getElem_cons_succ, List.setIfInBounds_toArray, List.set_cons_zero, List.set_cons_succ])
      refine wpAnyH_take (i := 12) (v := ?_) rfl (by kernel_rfl) (by kernel_rfl) (by kernel_rfl) (fun _ _ _ h => h) (Or.inl ⟨by rfl, ?_⟩) (by assumption) ?_
      rotate_left
      · intro wS hSw; (try dsimp only at hSw); go_simp; (try (with_reducible rfl))
      (try simp only [Act.put, List.getElem_toArray, List.getElem_cons_zero, List.getElem_cons_succ, List.setIfInBounds_toArray, List.set_cons_zero, List.set_cons_succ])
      refine wpAnyH_take (i := 13) (v := ?_) rfl (by kernel_rfl) (by kernel_rfl) (by kernel_rfl) (fun _ _ _ h => h) (Or.inl ⟨by rfl, ?_⟩) (by assumption) ?_
      rotate_left
      · intro wS hSw; (try dsimp only at hSw); go_simp; (try (with_reducible rfl))
      (try simp only [Act.put, List.getElem_toArray, List.getElem_cons_zero, List.getElem_cons_succ, List.setIfInBounds_toArray, List.set_cons_zero, List.set_cons_succ])
      refine wpAnyH_take (i := 14) (v := ?_) rfl (by kernel_rfl) (by kernel_rfl) (by kernel_rfl) (fun _ _ _ h => h) (Or.inl ⟨by rfl, ?_⟩) (by assumption) ?_
      rotate_left
      · intro wS hSw; (try dsimp only at hSw); go_simp; (try (with_reducible rfl))
      (try simp only [Act.put, List.getElem_toArray, List.getElem_cons_zero, List.getElem_cons_succ, List.setIfInBounds_toArray, List.set_cons_zero, List.set_cons_succ])
      refine wpAnyH_take (i := 15) (v := ?_) rfl (by kernel_rfl) (by kernel_rfl) (by kernel_rfl) (fun _ _ _ h => h) (Or.inl ⟨by rfl, ?_⟩) (by assumption) ?_
      rotate_left
      · intro wS hSw; (try dsimp only at hSw); go_simp; (try (with_reducible rfl))
      (try simp only [Act.put, List.getElem_toArray, List.getElem_cons_zero, List.getElem_cons_succ, List.setIfInBounds_toArray, List.set_cons_zero, List.set_cons_succ])
      refine wpAnyH_ready (rs := [8]) (by kernel_rfl) (by simp) ?_
      refine AllReadyH.cons (o := _) rfl (fun K hK => ?_) AllReadyH.nil
      (try simp only [List.getElem_toArray, List.getElem_cons_zero, List.getElem_cons_succ])
      go_simp
      (go_at_call 35; refine (HT.out _ (by repeat (first | assumption | exact Below.refl _ _ | refine below_al ?_ _ | refine below_dr ?_ | refine below_dn ?_ _))).mono ?_; rintro e wm ⟨rfl, hbm⟩; have hkm : Below w.heap.size w wm := below_next (by repeat (first | assumption | exact Below.refl _ _ | refine below_al ?_ _ | refine below_dr ?_ | refine below_dn ?_ _)) hbm)
      refine hK.out _ _ (by exact hMk.out _ (by repeat (first | assumption | exact Below.refl _ _ | refine below_al ?_ _ | refine below_dr ?_ | refine below_dn ?_ _))) (fun hHeld2 => ?_)
      clear hK K hHeld
      have hHeld := hHeld2
      clear hHeld2
      (try simp only [Act.put, List.getElem_toArray, List.getElem_cons_zero, List.getElem_cons_succ, List.setIfInBounds_toArray, List.set_cons_zero, List.set_cons_succ])
      refine wpAnyH_take (i := 9) (v := ?_) rfl (by kernel_rfl) (by kernel_rfl) (by kernel_rfl) (fun _ _ _ h => h) (Or.inl ⟨by rfl, ?_⟩) (by assumption) ?_
      rotate_left
      · intro wS hSw; (try dsimp only at hSw); go_simp; (try (with_reducible rfl))
      (try simp only [Act.put, List.getElem_toArray, List.getElem_cons_zero, List.getElem_cons_succ, List.setIfInBounds_toArray, List.set_cons_zero, List.set_cons_succ])
      refine wpAnyH_ready (rs := [16]) (by kernel_rfl) (by simp) ?_
      refine AllReadyH.cons (o := _) rfl (fun K hK => ?_) AllReadyH.nil
      (try simp only [List.getElem_toArray, List.getElem_cons_zero, List.getElem_cons_succ])
      go_simp
      skip
      refine hK.out _ _ (by exact hMk.out _ (by repeat (first | assumption | exact Below.refl _ _ | refine below_al ?_ _ | refine below_dr ?_ | refine below_dn ?_ _))) (fun hHeld2 => ?_)
      clear hK K hHeld
      have hHeld := hHeld2
      clear hHeld2
      (try simp only [Act.put, List.getElem_toArray, List.getElem_cons_zero, List.getElem_cons_succ, List.setIfInBounds_toArray, List.set_cons_zero, List.set_cons_succ])
      refine wpAnyH_ready (rs := [17]) (by kernel_rfl) (by simp) ?_
      refine AllReadyH.cons (o := _) rfl (fun K hK => ?_) AllReadyH.nil
      (try simp only [List.getElem_toArray, List.getElem_cons_zero, List.getElem_cons_succ])
      go_simp
      (go_at_call 36; refine (HA1.out _ _).mono ?_; rintro e wz ⟨rfl, mz, rfl⟩; rw [hcap])
      refine hK.out _ _ (by exact hMk.out _ (by repeat (first | assumption | exact Below.refl _ _ | refine below_al ?_ _ | refine below_dr ?_ | refine below_dn ?_ _))) (fun hHeld2 => ?_)
      clear hK K hHeld
      have hHeld := hHeld2
      clear hHeld2
      (try simp only [Act.put, List.getElem_toArray, List.getElem_cons_zero, List.getElem_cons_succ, List.setIfInBounds_toArray, List.set_cons_zero, List.set_cons_succ])
      refine wpAnyH_ready (rs := [18]) (by kernel_rfl) (by simp) ?_
      refine AllReadyH.cons (o := _) rfl (fun K hK => ?_) AllReadyH.nil
      (try simp only [List.getElem_toArray, List.getElem_cons_zero, List.getElem_cons_succ])
      go_simp
      skip
      refine hK.out _ _ (by exact hMk.out _ (by repeat (first | assumption | exact Below.refl _ _ | refine below_al ?_ _ | refine below_dr ?_ | refine below_dn ?_ _))) (fun hHeld2 => ?_)
      clear hK K hHeld
      have hHeld := hHeld2
      clear hHeld2
      (try simp only [Act.put, List.getElem_toArray, List.getElem_cons_zero, List.getElem_cons_succ, List.setIfInBounds_toArray, List.set_cons_zero, List.set_cons_succ])
      refine wpAnyH_take (i := 19) (v := ?_) rfl (by kernel_rfl) (by kernel_rfl) (by kernel_rfl) (fun _ _ _ h => h) (Or.inl ⟨by rfl, ?_⟩) (by assumption) ?_
      rotate_left
      · intro wS hSw; (try dsimp only at hSw); go_simp; (try (with_reducible rfl))
      (try simp only [Act.put, List.getElem_toArray, List.getElem_cons_zero, List.getElem_cons_succ, List.setIfInBounds_toArray, List.set_cons_zero, List.set_cons_succ])
      refine wpAnyH_done (by kernel_rfl) ?_ _
      all_goals
        go_wp2
        go_ret
        refine ⟨_, rfl, HV.out _ (by first | exact hnm _ _ | simp [hcap, hnm]), by repeat (first | assumption | exact Below.refl _ _ | refine below_al ?_ _ | refine below_dr ?_ | refine below_dn ?_ _)⟩
    · have HV : Hid (offV xs ws n i k (fmul (stepOf xs n i k) (capF q))) := Lib.hid ((offV_some hz hq).2 rfl)
      have e3 := fun w => run_float_arith (P := Try.prog) w .quo 31 .f32 _ _ _ (show floatBits .quo .f32 (wA xs ws n i k) (wB xs ws n i k) = some q from hq)
      have e4 := fun w => run_float_arith (P := Try.prog) w .mul 31 .f32 _ _ _ (own_mul hl hp hi hk hq1 hq2).1
      have hcap : capO q = capF q := capO_some hq1
      clear h hl hp hrl hr ha r1 r2 hc2 h' hq hq1 hq2 hz
      generalize fmul (stepOf xs n i k) (capF q) = res at *
      generalize capF q = cq at *
      generalize stepOf xs n i k = own at *
      generalize stepOf xs n k i = back at *
      generalize wA xs ws n i k = av at *
      generalize wB xs ws n i k = bv at *
      generalize rowOf ws i = ri at *
      generalize rowOf ws k = rk at *
      go_enter Try.func34, Try.ntmps34
      go_wp2_with (go_at_call 35; refine (HT0.out _ (Below.refl _ _)).mono ?_; rintro e w3 ⟨rfl, hb3⟩)
      go_region_held3 (fun W => W.cell? ⟨b0, 0, none⟩ = some (.slice (some ⟨b2, o2, none⟩) n d) ∧ W.cell? ⟨b1, 0, none⟩ = some (.int .i64 n) ∧ W.cell? ⟨b1, 1, none⟩ = some (.slice A xs.length c) ∧ W.cell? ⟨b2, o2 + i, none⟩ = some (.float .f32 ri) ∧ W.cell? ⟨b2, o2 + k, none⟩ = some (.float .f32 rk))
        (first | exact hMk.out _ (by repeat (first | assumption | exact Below.refl _ _ | refine below_al ?_ _ | refine below_dr ?_ | refine below_dn ?_ _)))
        (first
          | (go_at_call 35; refine (HT.out _ (by repeat (first | assumption | exact Below.refl _ _ | refine below_al ?_ _ | refine below_dr ?_ | refine below_dn ?_ _))).mono ?_; rintro e wm ⟨rfl, hbm⟩; have hkm : Below w.heap.size w wm := below_next (by repeat (first | assumption | exact Below.refl _ _ | refine below_al ?_ _ | refine below_dr ?_ | refine below_dn ?_ _)) hbm)
          | (go_at_call 36; refine (HA1.out _ _).mono ?_; rintro e wz ⟨rfl, mz, rfl⟩))
      all_goals
        go_wp2
        go_ret
        refine ⟨_, rfl, HV.out, by repeat (first | assumption | exact Below.refl _ _ | refine below_al ?_ _ | refine below_dr ?_ | refine below_dn ?_ _)⟩
end Go.Proofs.Ytlhepgdheopgaaa

