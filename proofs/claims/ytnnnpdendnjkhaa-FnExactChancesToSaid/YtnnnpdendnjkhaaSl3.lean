/-
  spec.l07Solve: the same rows, one behind another in one list, their right sides in another one.
-/
import Derived.Test.YtnnnpdendnjkhaaSl2
import Derived.Test.YtnnnpdendnjkhaaSro
namespace Go.Proofs.Ytnnnpdendnjkhaa
open Go Go.RowKit Ieee
attribute [local go_sem] run_store_float

/-- where a row begins, and where a number lies -/
def muM (n r : Nat) : Nat := r * n
def ixM (n r c : Nat) : Nat := r * n + c
/-- n rows of n numbers in block A, one behind another, and n right sides in block B -/
structure FM (W : World) (base n A B : Nat) (g : Nat → Nat → Nat) : Prop where
  a : ∀ r c, r < n → c < n → W.cell? ⟨A, ixM n r c, none⟩ = some (.float .f32 (g r c))
  fa : ∀ r c, r < n → c < n → W.frozen? ⟨A, ixM n r c, none⟩ = false
  b : ∀ r, r < n → W.cell? ⟨B, r, none⟩ = some (.float .f32 (g r n))
  fb : ∀ r, r < n → W.frozen? ⟨B, r, none⟩ = false
  ne : A ≠ B
  loA : base ≤ A
  loB : base ≤ B
variable {W W' : World} {base n A B : Nat} {g : Nat → Nat → Nat}
theorem idx_inj {n r c s d : Nat} (hc : c < n) (hd : d < n) (h : ixM n r c = ixM n s d) : r = s ∧ c = d := by
  unfold ixM at h
  rcases Nat.lt_trichotomy r s with hl | hl | hl
  · have := Nat.mul_le_mul_right n (show r + 1 ≤ s by omega)
    rw [Nat.add_mul, Nat.one_mul] at this
    omega
  · subst hl
    omega
  · have := Nat.mul_le_mul_right n (show s + 1 ≤ r by omega)
    rw [Nat.add_mul, Nat.one_mul] at this
    omega
theorem FM.ltB (h : FM W base n A B g) (hn : 0 < n) : B < W.heap.size := lt_of_cell (a := ⟨B, 0, none⟩) (h.b 0 hn)
theorem FM.ltA (h : FM W base n A B g) (hn : 0 < n) : A < W.heap.size := lt_of_cell (a := ⟨A, ixM n 0 0, none⟩) (h.a 0 0 hn hn)
theorem FM.keep (h : FM W base n A B g) (hb : Below W.heap.size W W') : FM W' base n A B g :=
  ⟨fun r c hr hc => keepC hb (h.a r c hr hc), fun r c hr hc => (hb.frozen (p := ⟨A, _, none⟩) (h.ltA (by omega))).trans (h.fa r c hr hc), fun r hr => keepC hb (h.b r hr), fun r hr => (hb.frozen (p := ⟨B, r, none⟩) (h.ltB (by omega))).trans (h.fb r hr), h.ne, h.loA, h.loB⟩
theorem FM.drewN (h : FM W base n A B g) (m : Nat) : FM (W.drewN m) base n A B g := ⟨h.a, h.fa, h.b, h.fb, h.ne, h.loA, h.loB⟩
theorem FM.setA (h : FM W base n A B g) {r c : Nat} (hr : r < n) (hc : c < n) (v : Nat) : FM (W.setCell ⟨A, ixM n r c, none⟩ (.float .f32 v)) base n A B (setM g r c v) := by
  refine ⟨fun s d hs hd => ?_, fun s d hs hd => ?_, fun s hs => ?_, fun s hs => ?_, h.ne, h.loA, h.loB⟩
  · unfold setM
    by_cases he : s = r ∧ d = c
    · rw [if_pos he, he.1, he.2]
      exact World.cell?_setCell_same _ _ _ (h.a r c hr hc)
    · rw [if_neg he, World.cell?_setCell_other _ _ _ _ (fun e => he (by
        injection e with e1 e2
        have := idx_inj hc hd e2
        omega))]
      exact h.a s d hs hd
  · rw [World.frozen?_setCell]
    exact h.fa s d hs hd
  · rw [World.cell?_setCell_other _ _ _ _ (fun e => h.ne (by injection e))]
    unfold setM
    rw [if_neg (by omega)]
    exact h.b s hs
  · rw [World.frozen?_setCell]
    exact h.fb s hs
theorem FM.setB (h : FM W base n A B g) {r : Nat} (hr : r < n) (v : Nat) : FM (W.setCell ⟨B, r, none⟩ (.float .f32 v)) base n A B (setM g r n v) := by
  refine ⟨fun s d hs hd => ?_, fun s d hs hd => ?_, fun s hs => ?_, fun s hs => ?_, h.ne, h.loA, h.loB⟩
  · rw [World.cell?_setCell_other _ _ _ _ (fun e => h.ne (by injection e with e1; exact e1.symm))]
    unfold setM
    rw [if_neg (by omega)]
    exact h.a s d hs hd
  · rw [World.frozen?_setCell]
    exact h.fa s d hs hd
  · unfold setM
    by_cases he : s = r
    · rw [if_pos ⟨he, rfl⟩, he]
      exact World.cell?_setCell_same _ _ _ (h.b r hr)
    · rw [if_neg (fun e => he e.1), World.cell?_setCell_other _ _ _ _ (fun e => he (by injection e with _ e2; exact e2.symm))]
      exact h.b s hs
  · rw [World.frozen?_setCell]
    exact h.fb s hs
theorem FM.far (h : FM W base n A B g) (a : Addr) (v : Value) (hf : 0 < n → a.block ≠ A ∧ a.block ≠ B) : FM (W.setCell a v) base n A B g :=
  ⟨fun r c hr hc => (World.cell?_setCell_other _ _ _ _ (fun e => (hf (by omega)).1 (by rw [e]))).trans (h.a r c hr hc), fun r c hr hc => (by rw [World.frozen?_setCell]; exact h.fa r c hr hc), fun r hr => (World.cell?_setCell_other _ _ _ _ (fun e => (hf (by omega)).2 (by rw [e]))).trans (h.b r hr), fun r hr => (by rw [World.frozen?_setCell]; exact h.fb r hr), h.ne, h.loA, h.loB⟩
theorem FM.congr {g' : Nat → Nat → Nat} (h : FM W base n A B g) (he : ∀ r c, r < n → c ≤ n → g r c = g' r c) : FM W base n A B g' :=
  ⟨fun r c hr hc => by rw [← he r c hr (by omega)]; exact h.a r c hr hc, h.fa, fun r hr => by rw [← he r n hr (Nat.le_refl _)]; exact h.b r hr, h.fb, h.ne, h.loA, h.loB⟩
/-- rows of which the first places are swapped -/
def swapC (g : Nat → Nat → Nat) (k p c : Nat) : Nat → Nat → Nat := fun r d => if d < c then swapM g k p r d else g r d
theorem swapC_zero (g : Nat → Nat → Nat) (k p : Nat) : swapC g k p 0 = g := by
  funext r d
  unfold swapC
  rw [if_neg (by omega)]
theorem swapC_step {g : Nat → Nat → Nat} {k p c : Nat} : ∀ r d, setM (setM (swapC g k p c) k c (g p c)) p c (g k c) r d = swapC g k p (c + 1) r d := by
  intro r d
  unfold setM swapC swapM
  by_cases hd : d = c
  · subst hd
    by_cases hr : r = p
    · subst hr
      by_cases hk : r = k
      · subst hk
        simp
      · simp [hk]
    · by_cases hk : r = k
      · subst hk
        simp [hr]
      · simp [hr, hk]
  · have e1 : d < c + 1 ↔ d < c := by omega
    simp [hd, e1]
theorem swapC_over {g g3 : Nat → Nat → Nat} {k p c : Nat} (h : ∀ r d, g3 r d = swapC g k p c r d) : ∀ r d, setM (setM g3 k c (g p c)) p c (g k c) r d = swapC g k p (c + 1) r d := by
  intro r d
  rw [← swapC_step]
  unfold setM
  by_cases h1 : r = p ∧ d = c
  · rw [if_pos h1, if_pos h1]
  · rw [if_neg h1, if_neg h1]
    by_cases h2 : r = k ∧ d = c
    · rw [if_pos h2, if_pos h2]
    · rw [if_neg h2, if_neg h2]
      exact h r d
theorem swapC_all {g : Nat → Nat → Nat} {k p n : Nat} : ∀ r d, d ≤ n → swapC g k p (n + 1) r d = swapM g k p r d := by
  intro r d hd
  unfold swapC
  rw [if_pos (by omega)]
theorem swapC_at {g : Nat → Nat → Nat} {k p c r : Nat} : swapC g k p c r c = g r c := by
  unfold swapC
  rw [if_neg (by omega)]
theorem swapC_set {g : Nat → Nat → Nat} {k p c v : Nat} (hkp : p = k → v = g k c) (r : Nat) (hr : r = p) : setM (swapC g k p c) k c v r c = if p = k then v else g p c := by
  subst hr
  unfold setM
  by_cases h : r = k
  · rw [if_pos ⟨h, rfl⟩, if_pos h]
  · rw [if_neg (fun e => h e.1), if_neg h, swapC_at]
theorem wrapN {x : Int} {m : Nat} (h : x = (m : Int)) (hm : m ≤ 9223372036854775807) : IntKind.i64.wrap x = (m : Int) := by rw [h]; exact IntWalk.i64_in _ (by omega)
theorem mulW {a b : Nat} (h : a * b ≤ 9223372036854775807) : IntKind.i64.wrap ((a : Int) * (b : Int)) = ((a * b : Nat) : Int) := wrapN (by push_cast; rfl) h
theorem addW {a b : Nat} (h : a + b ≤ 9223372036854775807) : IntKind.i64.wrap ((a : Int) + (b : Int)) = ((a + b : Nat) : Int) := wrapN (by push_cast; rfl) h

set_option maxRecDepth 100000 in
set_option maxHeartbeats 3200000 in
theorem l07Solve_any (n N A B ca cb base : Nat) (g C0 : Nat → Nat → Nat) (w : World) (hn : n ≤ 12) (hNN : N = n * n) (hm : FM w base n A B g) (hs : sameM n g C0) (hbase : base ≤ w.heap.size) :
    Calls Try.prog 71 #[.slice (some ⟨A, 0, none⟩) N ca, .slice (some ⟨B, 0, none⟩) n cb] w (svOut (solM C0 n) base w) := by
  obtain ⟨i0, hi0, hz0, hz1, hz2⟩ := info_parts info_f32
  have hmk := run_make_row (P := Try.prog) 22 42 i0 (.float .f32 0) Try.underlying22 hi0 hz0 hz1 rfl .i64 .i64 n (by rw [hz2]; omega) (by omega)
  have HA := Lib.hid fun x W => l07Size_all x W
  have START := Lib.hid (show FM w base n A B g ∧ sameM n g C0 ∧ Below base w w from ⟨hm, hs, Below.refl _ _⟩)
  have HBAD : Hid (∀ k C, k < n → stageM C0 n k = some C → badP (C (bestM C k (n - k)) k) = true → solM C0 n = none) := Lib.hid fun k C hk h hb => sol_none (stage_bad h hb hk)
  have HGOOD : Hid (∀ k C, stageM C0 n k = some C → badP (C (bestM C k (n - k)) k) = false → stageM C0 n (k + 1) = some (elimM (swapM C k (bestM C k (n - k))) k n (k + 1))) := Lib.hid fun k C h hb => stage_good h hb
  have HSOME : Hid (∀ C, stageM C0 n n = some C → solM C0 n = if ((List.range n).map (backM C n n)).all (isFin single) = true then some ((List.range n).map (backM C n n)) else none) := Lib.hid fun C h => sol_some h
  have HST0 : Hid (stageM C0 n 0 = some C0) := Lib.hid rfl
  have HFIN := Lib.hid fun A xs c W h h' => l02Finite_any A xs c W h h'
  have hnn : n * n ≤ 144 := Nat.mul_le_mul hn hn
  have HIX : Hid (∀ r c, r < n → c < n → IntKind.i64.wrap ((r : Int) * (n : Int)) = (muM n r : Int) ∧ IntKind.i64.wrap ((muM n r : Int) + (c : Int)) = (ixM n r c : Int) ∧ (ixM n r c : Int) < (N : Int)) := Lib.hid fun r c hr hc => by
    have h1 := idx_lt hr hc
    have h2 : r * n ≤ r * n + c := Nat.le_add_right _ _
    unfold muM ixM
    exact ⟨mulW (by omega), addW (by omega), by omega⟩
  clear hm hs hi0 hz0 hz1 hz2 hNN hnn
  generalize stageM C0 n = stg at *
  generalize solM C0 n = sol at *
  go_enter Try.func71, Try.ntmps71
  go_wp2_with fail
  go_loopw [7] (fun kv wr => ∃ (k : Nat) (g C : Nat → Nat → Nat), k ≤ n ∧ kv = .int .i64 k ∧ stg k = some C ∧ FM wr base n A B g ∧ sameM n g C ∧ Below base w wr) (fun kv _ => n - (intOf kv).toNat)
  case atStart => exact ⟨0, g, C0, Nat.zero_le _, rfl, HST0.out, START.out.1, START.out.2.1, START.out.2.2⟩
  case round =>
    clear START HST0
    clear g
    obtain ⟨k, g, C, hk, rfl, hst, hm, hs, hb⟩ := hrel
    rename World => wr
    have M := Lib.hid hm
    have S := Lib.hid hs
    have B1 := Lib.hid hb
    have ST := Lib.hid hst
    clear hm hs hb hst
    by_cases hkn : k < n
    · have HBL : Hid (∀ j, k + j ≤ n → bestM g k j < n ∧ k ≤ bestM g k j) := Lib.hid fun j hj => bestM_lt hkn j hj
      have HBS : Hid (∀ j, bestM g k (j + 1) = if bigB (g (k + j) k) (g (bestM g k j) k) = true then k + j else bestM g k j) := Lib.hid fun j => rfl
      have HB0 : Hid (bestM g k 1 = k) := Lib.hid (bestM_one g k)
      have HBB : Hid (∀ x y, (FloatKind.f32.format.order (sizA x) (sizA y) == some .gt) = bigB x y) := Lib.hid fun x y => bigB_size x y
      go_wp2_with fail
      go_loopw [8, 9] (fun bv rv wk => ∃ j m : Nat, k + (j + 1) ≤ n ∧ rv = .int .i64 ((k + (j + 1) : Nat) : Int) ∧ bv = .int .i64 ((bestM g k (j + 1) : Nat) : Int) ∧ wk = wr.drewN m) (fun _ rv _ => n - (intOf rv).toNat)
      case atStart => exact ⟨0, 0, by omega, rfl, by rw [HB0.out], rfl⟩
      case round =>
        obtain ⟨j, m, hj, rfl, rfl, rfl⟩ := hrel
        have M' := Lib.hid (M.out.drewN m)
        generalize hWW : wr.drewN m = W at *
        have HWW := Lib.hid hWW
        clear hWW
        by_cases hjn : k + (j + 1) < n
        · obtain ⟨p1, p2⟩ := HBL.out (j + 1) hj
          have HBS' := Lib.hid (HBS.out (j + 1))
          generalize bestM g k (j + 1) = p at *
          obtain ⟨i1, i2, i3⟩ := HIX.out (k + (j + 1)) k hjn hkn
          obtain ⟨j1, j2, j3⟩ := HIX.out p k p1 hkn
          have x2 := M'.out.a (k + (j + 1)) k hjn hkn
          have x3 := M'.out.a p k p1 hkn
          have hbb := HBB.out (g (k + (j + 1)) k) (g p k)
          generalize hr : k + (j + 1) = r at *
          have HR := Lib.hid hr
          have hrk : (r : Int) < (n : Int) := by omega
          clear hr
          generalize hc : bestM g k (j + 1 + 1) = p' at *
          have HC := Lib.hid hc
          clear hc
          generalize g r k = gr at *
          generalize g p k = gp at *
          cases hbig : bigB gr gp with
          | true =>
            rw [hbig] at hbb
            have HP : Hid (p' = r) := Lib.hid (by rw [HBS'.out, if_pos hbig])
            clear HBS' hbig
            go_wp2_with fail
            go_quiet ((go_at_call 49; first | exact quiet_one (HA.out _ _) | exact quiet_add (HA.out _ _)))
            go_wp2_with fail
            go_roundw
            case rel => exact ⟨j + 1, _, by have := HR.out; omega, by rw [← HR.out]; go_num, by rw [HC.out, HP.out], by rw [← HWW.out]; simp only [World.drewN_drewN]; rfl⟩
            case measure => simp [intOf]; omega
          | false =>
            rw [hbig] at hbb
            have HP : Hid (p' = p) := Lib.hid (by rw [HBS'.out, if_neg (by rw [hbig]; simp)])
            clear HBS' hbig
            go_wp2_with fail
            go_quiet ((go_at_call 49; first | exact quiet_one (HA.out _ _) | exact quiet_add (HA.out _ _)))
            go_wp2_with fail
            go_roundw
            case rel => exact ⟨j + 1, _, by have := HR.out; omega, by rw [← HR.out]; go_num, by rw [HC.out, HP.out], by rw [← HWW.out]; simp only [World.drewN_drewN]; rfl⟩
            case measure => simp [intOf]; omega
        · have hjk : j + 1 = n - k := by omega
          obtain ⟨p1, p2⟩ := HBL.out (j + 1) hj
          have HBC : Hid (bestM C k (n - k) = bestM g k (j + 1)) := Lib.hid (by rw [hjk]; exact (bestM_same S.out hkn _ (by omega)).symm)
          have HPV : Hid (badP (g (bestM g k (j + 1)) k) = badP (C (bestM C k (n - k)) k)) := Lib.hid (by rw [HBC.out]; exact badP_same (S.out _ _ p1 (by omega)))
          have HBAD' := Lib.hid (HBAD.out k C hkn ST.out)
          have HGOOD' := Lib.hid (HGOOD.out k C ST.out)
          have HBW := Lib.hid (below_drewN B1.out m)
          rw [HWW.out] at HBW
          rw [← HPV.out, HBC.out] at HGOOD'
          rw [← HPV.out] at HBAD'
          clear HBL HBS HB0 HBB HBAD HGOOD HPV HBC hjk ST
          generalize bestM g k (j + 1) = p at *
          have hkn' : (k : Int) < (n : Int) := by omega
          have hpn : (p : Int) < (n : Int) := by omega
          obtain ⟨j1, j2, j3⟩ := HIX.out p k p1 hkn
          have x3 := M'.out.a p k p1 hkn
          have hbp := badP_size (g p k)
          cases hz : (FloatKind.f32.format.order (sizA (g p k)) 0 == some .gt) with
          | false =>
            rw [hz] at hbp
            have HN := Lib.hid (HBAD'.out hbp.symm)
            clear hbp HBAD' HGOOD'
            generalize g p k = gp at *
            go_wp2_with (go_at_call 49; refine (HA.out _ _).mono ?_; rintro e w9 ⟨rfl, m9, rfl⟩)
            refine bodyPost_ret (v := .tuple #[.slice none 0 0, .bool false]) (by simp [results, Try.results71, go_sem]) rfl ?_
            exact svOut_none HN.out (below_drewN HBW.out _)
          | true =>
            rw [hz] at hbp
            have HST := Lib.hid (HGOOD'.out hbp.symm)
            have HSM := Lib.hid (swapM_same S.out hkn p1)
            have HC0 := Lib.hid (swapC_zero g k p)
            have HCA : Hid (∀ r d, d ≤ n → swapC g k p (n + 1) r d = swapM g k p r d) := Lib.hid fun r d hd => swapC_all r d hd
            have HAT : Hid (∀ c r, swapC g k p c r c = g r c) := Lib.hid fun c r => swapC_at
            clear hbp HBAD' HGOOD'
            generalize hgp : g p k = gp at *
            have HGP := Lib.hid hgp
            clear hgp
            go_wp2_with (go_at_call 49; refine (HA.out _ _).mono ?_; rintro e w9 ⟨rfl, m9, rfl⟩)
            have M2 := Lib.hid (M'.out.drewN m9)
            have B2 := Lib.hid (below_drewN HBW.out m9)
            generalize W.drewN m9 = W2 at *
            go_wp2_with fail
            go_loopw [10, 11] (fun cv _ wc => ∃ (c : Nat) (g3 : Nat → Nat → Nat), c ≤ n ∧ cv = .int .i64 c ∧ FM wc base n A B g3 ∧ (∀ r d, g3 r d = swapC g k p c r d) ∧ Below base w wc) (fun cv _ _ => n - (intOf cv).toNat)
            case atStart => exact ⟨0, g, Nat.zero_le _, rfl, M2.out, fun r d => by rw [HC0.out], B2.out⟩
            case round =>
              obtain ⟨c, g3, hc, rfl, hm3, hs3, hb3⟩ := hrel
              rename World => wc
              have M3 := Lib.hid hm3
              have S3 := Lib.hid hs3
              have B3 := Lib.hid hb3
              clear hm3 hs3 hb3 M2 B2
              by_cases hcn : c < n
              · obtain ⟨i1, i2, i3⟩ := HIX.out k c hkn hcn
                obtain ⟨l1, l2, l3⟩ := HIX.out p c p1 hcn
                have y0 := M3.out.a k c hkn hcn
                have y1 := M3.out.a p c p1 hcn
                have f0 := M3.out.fa k c hkn hcn
                have f1 := M3.out.fa p c p1 hcn
                rw [S3.out, HAT.out] at y0 y1
                have HW := Lib.hid ((M3.out.setA hkn hcn (g p c)).setA p1 hcn (g k c))
                have HSW := Lib.hid (swapC_over S3.out)
                have hz5 : ∃ z, (World.setCell wc ⟨A, ixM n k c, none⟩ (.float .f32 (g p c))).cell? ⟨A, ixM n p c, none⟩ = some (.float .f32 z) := ⟨_, (M3.out.setA hkn hcn (g p c)).a p c p1 hcn⟩
                obtain ⟨z5, hz5⟩ := hz5
                have HBB : Hid (Below base w ((World.setCell wc ⟨A, ixM n k c, none⟩ (.float .f32 (g p c))).setCell ⟨A, ixM n p c, none⟩ (.float .f32 (g k c)))) := Lib.hid ((B3.out.setCell M3.out.loA _).setCell M3.out.loA _)
                have hcn1 : (c : Int) < (n : Int) := by omega
                generalize setM (setM g3 k c (g p c)) p c (g k c) = g4 at *
                generalize g k c = gk at *
                generalize g p c = gpc at *
                go_wp2_with fail
                exact ⟨⟨c + 1, g4, by omega, by go_num, HW.out, HSW.out, HBB.out⟩, by simp [intOf]; omega⟩
              · obtain rfl : n = c := by omega
                have y0 := M3.out.b k hkn
                have y1 := M3.out.b p p1
                have f0 := M3.out.fb k hkn
                have f1 := M3.out.fb p p1
                rw [S3.out, HAT.out] at y0 y1
                have hz5 : ∃ z, (World.setCell wc ⟨B, k, none⟩ (.float .f32 (g p n))).cell? ⟨B, p, none⟩ = some (.float .f32 z) := ⟨_, (M3.out.setB hkn (g p n)).b p p1⟩
                obtain ⟨z5, hz5⟩ := hz5
                have HW : Hid (FM ((wc.setCell ⟨B, k, none⟩ (.float .f32 (g p n))).setCell ⟨B, p, none⟩ (.float .f32 (g k n))) base n A B (swapM g k p) ∧ Below base w ((wc.setCell ⟨B, k, none⟩ (.float .f32 (g p n))).setCell ⟨B, p, none⟩ (.float .f32 (g k n)))) :=
                  Lib.hid ⟨((M3.out.setB hkn (g p n)).setB p1 (g k n)).congr fun r d hr hd => by rw [swapC_over S3.out, HCA.out r d hd], (B3.out.setCell M3.out.loB _).setCell M3.out.loB _⟩
                have HE0 := Lib.hid (elimM_start (swapM C k p) k)
                clear M3 S3 B3 HC0 HCA HAT M' S B1 HBW HWW x3 hz
                generalize g k n = gk at *
                generalize g p n = gp2 at *
                generalize swapM g k p = g2 at *
                generalize swapM C k p = C2 at *
                have HL0 : Hid (sameM n g2 (elimM C2 k (k + 1) (k + 1))) := Lib.hid (by rw [HE0.out]; exact HSM.out)
                clear HE0 HSM
                have hk3 : k + 1 ≤ n := hkn
                go_upto_region 22 with fail
                generalize hW5 : World.setCell (World.setCell _ _ _) _ _ = W5 at *
                have M5 := Lib.hid HW.out.1
                have B5 := Lib.hid HW.out.2
                clear HW hW5 y0 y1 f0 f1 hz5
                go_wp2_with fail
                go_loopw [13] (fun iv wq => ∃ (i : Nat) (g3 : Nat → Nat → Nat), k + 1 + i ≤ n ∧ iv = .int .i64 ((k + 1 + i : Nat) : Int) ∧ FM wq base n A B g3 ∧ sameM n g3 (elimM C2 k (k + 1 + i) (k + 1)) ∧ Below base w wq) (fun iv _ => n - (intOf iv).toNat)
                case atStart => exact ⟨0, g2, hk3, rfl, M5.out, HL0.out, B5.out⟩
                case round =>
                  clear M5 HL0 B5 g2
                  obtain ⟨i, g3, hi, rfl, hm3, hs3, hb3⟩ := hrel
                  rename World => wq
                  have M3 := Lib.hid hm3
                  have S3 := Lib.hid hs3
                  have B3 := Lib.hid hb3
                  clear hm3 hs3 hb3
                  by_cases hin : k + 1 + i < n
                  · obtain ⟨i1, i2, i3⟩ := HIX.out (k + 1 + i) k hin hkn
                    obtain ⟨l1, l2, l3⟩ := HIX.out k k hkn hkn
                    have y1 := M3.out.a (k + 1 + i) k hin hkn
                    have y3 := M3.out.a k k hkn hkn
                    have s1 := S3.out (k + 1 + i) k hin (by omega)
                    have s2 := S3.out k k hkn (by omega)
                    rw [elimM_left] at s1
                    rw [elimM_low] at s2
                    obtain ⟨nd, dm, hnd, hrun⟩ := op_run (P := Try.prog) .quo (by simp) 42 s1 s2
                    have HND := Lib.hid hnd
                    have HEH := Lib.hid fun c => elimM_here C2 k (k + 1 + i) c
                    have HEL := Lib.hid fun c d => elimM_low C2 k (k + 1 + i) c d
                    have HFM : Hid (facM C2 k (k + 1 + i) = can .quo (C2 (k + 1 + i) k) (C2 k k)) := Lib.hid rfl
                    clear hnd s1 s2
                    generalize hr : k + 1 + i = r at *
                    have HR := Lib.hid hr
                    have hrn : (r : Int) < (n : Int) := by omega
                    clear hr
                    generalize g3 r k = gr at *
                    generalize g3 k k = gk3 at *
                    go_wp2_with fail
                    go_region
                    have HF := Lib.hid (HND.out wq.drew)
                    generalize nd wq.drew = f at *
                    rw [← HFM.out] at HF
                    have M4 : Hid (FM (wq.drewN (1 + dm)) base n A B g3) := Lib.hid (M3.out.drewN _)
                    have B4 : Hid (Below base w (wq.drewN (1 + dm))) := Lib.hid (below_drewN B3.out _)
                    generalize wq.drewN (1 + dm) = W4 at *
                    clear HND hrun y1 y3 M3 B3 HFM nd i1 i2 i3 l1 l2 l3
                    have hkr : k < r := by have := HR.out; omega
                    have hrN : r < n := hin
                    go_wp2_with fail
                    go_loopw [15] (fun cv wc => ∃ (c : Nat) (g4 : Nat → Nat → Nat), k + 1 + c ≤ n ∧ cv = .int .i64 ((k + 1 + c : Nat) : Int) ∧ FM wc base n A B g4 ∧ sameM n g4 (elimM C2 k r (k + 1 + c)) ∧ Below base w wc) (fun cv _ => n + 1 - (intOf cv).toNat)
                    case atStart => exact ⟨0, g3, by omega, rfl, M4.out, S3.out, B4.out⟩
                    case round =>
                      clear M4 S3 B4
                      obtain ⟨c, g4, hc, rfl, hm4, hs4, hb4⟩ := hrel
                      rename World => wc
                      have M5 := Lib.hid hm4
                      have S5 := Lib.hid hs4
                      have B5 := Lib.hid hb4
                      clear hm4 hs4 hb4
                      by_cases hcn : k + 1 + c < n
                      · generalize hcc : k + 1 + c = cc at *
                        have HCC := Lib.hid hcc
                        have hkc : k < cc := by omega
                        have hcc3 : (cc : Int) < (n : Int) := by omega
                        clear hcc
                        obtain ⟨i1, i2, i3⟩ := HIX.out r cc hrN hcn
                        obtain ⟨l1, l2, l3⟩ := HIX.out k cc hkn hcn
                        have y0 := M5.out.a r cc hrN hcn
                        have y1 := M5.out.fa r cc hrN hcn
                        have y3 := M5.out.a k cc hkn hcn
                        have s1 := S5.out r cc hrN (by omega)
                        have s2 := S5.out k cc hkn (by omega)
                        rw [HEH.out] at s1
                        rw [HEL.out] at s2
                        obtain ⟨nd, dm2, hnd, hrun⟩ := op_run (P := Try.prog) .mul (by simp) 42 HF.out s2
                        obtain ⟨ne, de, hne, hrun2⟩ := op_runs (P := Try.prog) .sub (by simp) 42 s1
                        have HSET : Hid (∀ W v, FM W base n A B g4 → sameN v (can .sub (C2 r cc) (can .mul (facM C2 k r) (C2 k cc))) → FM (W.setCell ⟨A, ixM n r cc, none⟩ (.float .f32 v)) base n A B (setM g4 r cc v) ∧ sameM n (setM g4 r cc v) (elimM C2 k r (cc + 1))) := Lib.hid fun W v hm hv => ⟨hm.setA hrN hcn v, elimM_step S5.out hkr hkc hv⟩
                        have HNE : Hid (∀ w1 w2, sameN (ne (nd w1) w2) (can .sub (C2 r cc) (can .mul (facM C2 k r) (C2 k cc)))) := Lib.hid fun w1 w2 => hne _ _ w2 (hnd w1)
                        have HLO := Lib.hid M5.out.loA
                        clear s1 s2 hnd hne
                        generalize g4 r cc = gv at *
                        generalize g4 k cc = gk4 at *
                        go_wp2_with fail
                        go_region
                        have HQ := HSET.out _ _ (M5.out.drewN (1 + dm2 + de (nd wc.drew))) (HNE.out wc.drew (wc.drewN (1 + dm2)))
                        generalize hW6 : World.setCell _ _ _ = W6
                        have B6 : Hid (Below base w W6) := by rw [← hW6]; exact Lib.hid ((below_drewN B5.out _).setCell HLO.out _)
                        rw [hW6] at HQ
                        have Q6 := Lib.hid HQ
                        clear HQ hW6 HSET HNE hrun hrun2 y0 y1 y3 HLO
                        go_wp2_with fail
                        go_roundw
                        case rel => exact ⟨c + 1, _, by have := HCC.out; omega, by rw [← HCC.out]; go_num, Q6.out.1, by rw [← Nat.add_assoc, HCC.out]; exact Q6.out.2, B6.out⟩
                        case measure => have := HCC.out; simp [intOf]; omega
                      · have hcc1 : k + 1 + c = n := by omega
                        rw [hcc1]
                        have hcc2 : ¬ ((n : Int) < (n : Int)) := by omega
                        have hkn5 : k < n := hkn
                        rw [hcc1] at S5
                        have y0 := M5.out.b r hrN
                        have y1 := M5.out.fb r hrN
                        have y3 := M5.out.b k hkn
                        have s1 := S5.out r n hrN (Nat.le_refl _)
                        have s2 := S5.out k n hkn (Nat.le_refl _)
                        rw [HEH.out] at s1
                        rw [HEL.out] at s2
                        obtain ⟨nd, dm2, hnd, hrun⟩ := op_run (P := Try.prog) .mul (by simp) 42 HF.out s2
                        obtain ⟨ne, de, hne, hrun2⟩ := op_runs (P := Try.prog) .sub (by simp) 42 s1
                        have HSET : Hid (∀ W v, FM W base n A B g4 → sameN v (can .sub (C2 r n) (can .mul (facM C2 k r) (C2 k n))) → FM (W.setCell ⟨B, r, none⟩ (.float .f32 v)) base n A B (setM g4 r n v) ∧ sameM n (setM g4 r n v) (elimM C2 k (r + 1) (k + 1))) := Lib.hid fun W v hm hv => ⟨hm.setB hrN v, fun a b ha hb => by rw [← elimM_row C2 k r n a b hb]; exact elimM_step S5.out hkr hkn5 hv a b ha hb⟩
                        have HNE : Hid (∀ w1 w2, sameN (ne (nd w1) w2) (can .sub (C2 r n) (can .mul (facM C2 k r) (C2 k n)))) := Lib.hid fun w1 w2 => hne _ _ w2 (hnd w1)
                        have HLO := Lib.hid M5.out.loB
                        clear s1 s2 hnd hne
                        generalize g4 r n = gv at *
                        generalize g4 k n = gk4 at *
                        go_wp2_with fail
                        go_region
                        have HQ := HSET.out _ _ (M5.out.drewN (1 + dm2 + de (nd wc.drew))) (HNE.out wc.drew (wc.drewN (1 + dm2)))
                        generalize hW6 : World.setCell _ _ _ = W6
                        have B6 : Hid (Below base w W6) := by rw [← hW6]; exact Lib.hid ((below_drewN B5.out _).setCell HLO.out _)
                        rw [hW6] at HQ
                        have Q6 := Lib.hid HQ
                        clear HQ hW6 HSET HNE hrun hrun2 y0 y1 y3 HLO
                        go_wp2_with fail
                        go_roundw
                        case rel => exact ⟨i + 1, _, by have := HR.out; omega, by rw [← HR.out]; go_num, Q6.out.1, by rw [← Nat.add_assoc, HR.out]; exact Q6.out.2, B6.out⟩
                        case measure => have := HR.out; simp [intOf]; omega
                  · have hin2 : k + 1 + i = n := by omega
                    have HS8 : Hid (sameM n g3 (elimM C2 k n (k + 1))) := by
                      have := S3.out
                      rw [hin2] at this
                      exact Lib.hid this
                    rw [hin2]
                    have hin3 : ¬ ((n : Int) < (n : Int)) := by omega
                    go_wp2_with fail
                    go_roundw
                    case rel => exact ⟨k + 1, g3, _, hk3, by go_num, HST.out, M3.out, HS8.out, B3.out⟩
                    case measure => simp [intOf]; omega
    · obtain rfl : n = k := by omega
      have HSOL := Lib.hid (HSOME.out C ST.out)
      have hsz := B1.out.size
      have HB0 : Hid (base ≤ wr.heap.size) := Lib.hid (by omega)
      clear HSOME HBAD HGOOD HA
      go_upto_region 32 with fail
      generalize hW1 : World.alloc wr _ = W1
      have R1 : Hid (W1.rowIs wr.heap.size 42 n (fun i => .float .f32 (backM C n 0 i))) := by rw [← hW1]; exact Lib.hid (World.rowIs_made wr (.float .f32 0) n _)
      have M1 : Hid (FM W1 base n A B g) := by rw [← hW1]; exact Lib.hid (M.out.keep (below_al (Below.refl _ _) _))
      have BB1 : Hid (Below base w W1) := by rw [← hW1]; exact Lib.hid (B1.out.alloc HB0.out _)
      have HX : Hid (0 < n → wr.heap.size ≠ A ∧ wr.heap.size ≠ B) := Lib.hid fun hr => ⟨by have := M.out.ltA hr; omega, by have := M.out.ltB hr; omega⟩
      clear hW1 M B1 hmk hsz
      generalize wr.heap.size = X at *
      go_wp2_with fail
      go_loopw [17] (fun kv wq => ∃ (j : Nat) (x : Nat → Nat), j ≤ n ∧ kv = .int .i64 ((n : Int) - 1 - (j : Int)) ∧ FM wq base n A B g ∧ wq.rowIs X 42 n (fun i => .float .f32 (x i)) ∧ sameX n x (backM C n j) ∧ Below base w wq) (fun kv _ => (intOf kv + 1).toNat)
      case atStart => exact ⟨0, backM C n 0, Nat.zero_le _, by simp, M1.out, R1.out, fun i _ => sameN.refl _, BB1.out⟩
      case round =>
        clear M1 R1 BB1
        obtain ⟨j, x, hj, rfl, hm, hx, hs, hb⟩ := hrel
        rename World => wq
        have M := Lib.hid hm
        have RX := Lib.hid hx
        have SX := Lib.hid hs
        have BQ := Lib.hid hb
        clear hm hx hs hb
        by_cases hjn : j < n
        · obtain ⟨k, hk⟩ : ∃ k, k + j + 1 = n := ⟨n - j - 1, by omega⟩
          have he : (n : Int) - 1 - (j : Int) = (k : Nat) := by omega
          have hkn : k < n := by omega
          have hkn1 : (k : Int) < (n : Int) := by omega
          rw [he]
          have HBA : Hid (∀ i, backM C n (j + 1) i = if i = k then can .quo (rightM C n k (backM C n j) j) (C k k) else backM C n j i) := Lib.hid fun i => by
            show (if i = n - 1 - j then can .quo (rightM C n (n - 1 - j) (backM C n j) j) (C (n - 1 - j) (n - 1 - j)) else backM C n j i) = _
            rw [show n - 1 - j = k by omega]
          have HRS : Hid (∀ m, rightM C n k (backM C n j) (m + 1) = can .sub (rightM C n k (backM C n j) m) (can .mul (C k (k + 1 + m)) (backM C n j (k + 1 + m)))) := Lib.hid fun m => rfl
          have HR0 : Hid (rightM C n k (backM C n j) 0 = C k n) := Lib.hid rfl
          have y1 := M.out.b k hkn
          have HS0 := Lib.hid (S.out k n hkn (Nat.le_refl _))
          have HK := Lib.hid hk
          have HE := Lib.hid he
          clear hk he
          go_wp2_with fail
          go_loopw [18, 19] (fun rv cv wc => ∃ m s r : Nat, k + 1 + m ≤ n ∧ cv = .int .i64 ((k + 1 + m : Nat) : Int) ∧ rv = .float .f32 s ∧ sameN s (rightM C n k (backM C n j) m) ∧ wc = wq.drewN r) (fun _ cv _ => n - (intOf cv).toNat)
          case atStart => exact ⟨0, g k n, 0, by omega, rfl, rfl, by rw [HR0.out]; exact HS0.out, rfl⟩
          case round =>
            clear HS0 y1
            obtain ⟨m, s, r, hm, rfl, rfl, hs, rfl⟩ := hrel
            have HS := Lib.hid hs
            clear hs
            by_cases hmn : k + 1 + m < n
            · obtain ⟨i1, i2, i3⟩ := HIX.out k (k + 1 + m) hkn hmn
              have y1 := M.out.a k (k + 1 + m) hkn hmn
              have y2 := RX.out.cell hmn
              have s1 := S.out k (k + 1 + m) hkn (by omega)
              have s2 := SX.out (k + 1 + m) hmn
              obtain ⟨nd, dm, hnd, hrun⟩ := op_run (P := Try.prog) .mul (by simp) 42 s1 s2
              obtain ⟨ne, de, hne, hrun2⟩ := op_runs (P := Try.prog) .sub (by simp) 42 HS.out
              have HNE : Hid (∀ w1 w2, sameN (ne (nd w1) w2) (rightM C n k (backM C n j) (m + 1))) := Lib.hid fun w1 w2 => by rw [HRS.out]; exact hne _ _ w2 (hnd w1)
              clear s1 s2 hnd hne
              generalize g k (k + 1 + m) = gk at *
              generalize x (k + 1 + m) = gx at *
              generalize hcc : k + 1 + m = cc at *
              have HCC := Lib.hid hcc
              have hcc2 : (cc : Int) < (n : Int) := by omega
              clear hcc
              go_wp2_with fail
              go_region
              have HQ := HNE.out (wq.drewN (r + 1)) (wq.drewN (r + 1 + dm))
              generalize ne (nd (wq.drewN (r + 1))) (wq.drewN (r + 1 + dm)) = s' at *
              have HS1 := Lib.hid HQ
              clear HQ
              go_wp2_with fail
              go_roundw
              case rel => exact ⟨m + 1, s', _, by have := HCC.out; omega, by rw [← HCC.out]; go_num, rfl, HS1.out, rfl⟩
              case measure => have := HCC.out; simp [intOf]; omega
            · have hmj : m = j := by have := HK.out; omega
              have hcc : k + 1 + m = n := by omega
              have hcn : ¬ ((n : Int) < (n : Int)) := by omega
              rw [hcc]
              rw [hmj] at HS
              obtain ⟨i1, i2, i3⟩ := HIX.out k k hkn hkn
              have y3 := M.out.a k k hkn hkn
              have y2 := RX.out.cell hkn
              have f2 := RX.out.frozen k
              have s1 := S.out k k hkn (by omega)
              obtain ⟨nd, dm, hnd, hrun⟩ := op_run (P := Try.prog) .quo (by simp) 42 HS.out s1
              have HND := Lib.hid hnd
              have HFAR := Lib.hid fun v r' => (M.out.drewN r').far ⟨X, k, none⟩ v (fun hr => HX.out hr)
              have HROW : Hid (∀ v r', ((wq.drewN r').setCell ⟨X, k, none⟩ (.float .f32 v)).rowIs X 42 n (fun i => .float .f32 (if i = k then v else x i))) := Lib.hid fun v r' => ((show (wq.drewN r').rowIs X 42 n (fun i => .float .f32 (x i)) from RX.out.of_block rfl).set k _).congr fun i _ => by split <;> rfl
              clear hnd s1 hcc hmj HRS HR0
              generalize g k k = gk at *
              generalize x k = gx at *
              go_wp2_with fail
              have HN2 := HND.out (wq.drewN r)
              generalize nd (wq.drewN r) = v at *
              refine ⟨⟨j + 1, fun i => if i = k then v else x i, by omega, (by have := HE.out; congr 1; omega), HFAR.out (.float .f32 v) _, HROW.out v _, ?_, ?_⟩, by simp [intOf]⟩
              · intro i hi
                rw [HBA.out]
                show sameN (if i = k then v else x i) _
                by_cases hik : i = k
                · rw [if_pos hik, if_pos hik]
                  exact HN2
                · rw [if_neg hik, if_neg hik]
                  exact SX.out i hi
              · exact (below_drewN BQ.out _).setCell (show base ≤ X from HB0.out) _
        · obtain rfl : n = j := by omega
          have hneg : ¬ ((0 : Int) ≤ (n : Int) - 1 - (n : Int)) := by omega
          have he : (n : Int) - 1 - (n : Int) = -1 := by omega
          rw [he]
          obtain ⟨a1, a2⟩ := sameX_all SX.out
          have hso := HSOL.out
          have HLX : Hid (((List.range n).map x).length = n) := Lib.hid (by simp)
          have hown := own_of_row RX.out (base := X) (Nat.le_refl _) (by unfold maxLen; omega)
          have hfl : (List.range n).map (fun i => Value.float .f32 (x i)) = fl ((List.range n).map x) := by unfold fl; rw [List.map_map]; rfl
          rw [hfl] at hown
          have HRD := Lib.hid (Rd.of_own hown)
          have HFI := Lib.hid fun W h => HFIN.out (some ⟨X, 0, none⟩) ((List.range n).map x) n W (by rw [HLX.out]; omega) h
          rw [HLX.out] at HFI
          have HIS : Hid (sol.isSome = ((List.range n).map x).all (isFin single) ∧ ∀ xs, sol = some xs → (List.range n).map x = xs) := Lib.hid (by
            rw [a1, hso]
            cases hall : ((List.range n).map (backM C n n)).all (isFin single) with
            | true => rw [if_pos rfl]; exact ⟨rfl, fun xs h => by injection h with h; rw [← h]; exact a2 hall⟩
            | false => exact ⟨rfl, fun xs h => by simp at h⟩)
          clear a1 a2 hso hown hfl HSOL HFIN he hneg
          generalize (List.range n).map x = ys at *
          cases hfin : ys.all (isFin single) with
          | true =>
            rw [hfin] at HFI HIS
            clear hfin
            go_wp2_with (go_at_call 82; refine (HFI.out _ (HRD.out.at_ (by first | exact Below.refl _ _ | exact below_dr (Below.refl _ _)))).mono ?_; rintro e w9 ⟨rfl, m9, rfl⟩)
            refine bodyPost_ret (v := .tuple #[.slice (some ⟨X, 0, none⟩) n n, .bool true]) (by simp [results, Try.results71, go_sem]) rfl ?_
            refine ⟨some ⟨X, 0, none⟩, n, ys, by rw [HLX.out, HIS.out.1], fun xs h => HIS.out.2 xs h, fun a h => (by injection h with h; subst h; exact HB0.out), HRD.out.drewN _, below_drewN BQ.out _⟩
          | false =>
            rw [hfin] at HFI HIS
            have HNO : Hid (sol = none) := Lib.hid (by
              have := HIS.out.1
              cases hsol : sol with
              | none => rfl
              | some xs => rw [hsol] at this; simp at this)
            clear hfin
            go_wp2_with (go_at_call 82; refine (HFI.out _ (HRD.out.at_ (by first | exact Below.refl _ _ | exact below_dr (Below.refl _ _)))).mono ?_; rintro e w9 ⟨rfl, m9, rfl⟩)
            refine bodyPost_ret (v := .tuple #[.slice none 0 0, .bool false]) (by simp [results, Try.results71, go_sem]) rfl ?_
            exact svOut_none HNO.out (below_drewN BQ.out _)
end Go.Proofs.Ytnnnpdendnjkhaa
