/-
  Lazy chains: spec.LazyChain.
-/
import Derived.Test.YtddaodjaeommlaaLazy
namespace Go.Proofs.Ytddaodjaeommlaa
open Go Go.RowKit Ieee
attribute [local go_sem] run_store_float

theorem tabTo_succ (n p : Nat) (f : Nat → Nat → Nat) : tabTo n f (p + 1) = tabTo n f p ++ [f (p / n) (p % n)] := by
  unfold tabTo
  rw [List.range_succ, List.map_append]
  rfl
theorem diag_iff {n p : Nat} (hn : 0 < n) : p % (n + 1) = 0 ↔ p / n = p % n ∨ (n ≤ p / n ∧ p % (n + 1) = 0) := by
  rcases Nat.lt_or_ge (p / n) n with h | h
  · have hk : p % n < n := Nat.mod_lt _ hn
    have hp := Nat.div_add_mod p n
    generalize p / n = i at *
    generalize p % n = k at *
    have e : p = (n + 1) * i + k - i := by rw [Nat.add_mul, Nat.one_mul]; omega
    rcases Nat.lt_or_ge k i with hlt | hge
    · obtain ⟨j, rfl⟩ : ∃ j, i = j + 1 := ⟨i - 1, by omega⟩
      have e2 : p = (n + 1) * j + (n + 1 + k - (j + 1)) := by rw [e, Nat.mul_add, Nat.mul_one]; omega
      have e3 : p % (n + 1) = n + 1 + k - (j + 1) := by rw [e2, Nat.mul_add_mod, Nat.mod_eq_of_lt (by omega)]
      omega
    · have e2 : p = (n + 1) * i + (k - i) := by omega
      have e3 : p % (n + 1) = k - i := by rw [e2, Nat.mul_add_mod, Nat.mod_eq_of_lt (by omega)]
      omega
  · constructor
    · exact fun h2 => .inr ⟨h, h2⟩
    · rintro (h2 | h2)
      · have := Nat.mod_lt p hn; omega
      · exact h2.2
theorem diag_at {n p : Nat} (hn : 0 < n) (hp : p < n * n) : p % (n + 1) = 0 ↔ p / n = p % n := by
  have := Nat.div_lt_of_lt_mul hp
  rw [diag_iff hn]
  omega

set_option maxRecDepth 100000 in
set_option maxHeartbeats 3200000 in
theorem specLazyChain_bad (n : Int) (A : Option Addr) (xs : List Nat) (c st : Nat) (w : World) (hx : xs.length ≤ 9223372036854775807) (h : Rd w w.heap.size A (fl xs)) (hb : (validB n xs && partB st) = false) :
    Calls Try.prog 43 #[.agg #[.int .i64 n, .slice A xs.length c], .float .f32 st] w (chOut 0 [] false w) := by
  have HI := Lib.hid fun b w h0 h1 h2 => l07Is_any b n A xs c w hx h0 h1 h2
  have HS := Lib.hid fun w => l02Part_any st w
  cases hv : validB n xs with
  | false =>
    rw [hv] at HI
    clear hb hv HS
    go_enter Try.func43, Try.ntmps43
    go_wp2_with (go_at_call 95; refine (HI.out _ _ (by simp [go_sem]) (by simp [go_sem]) (h.at_ (by repeat (first | exact Below.refl _ _ | refine Below.alloc ?_ (by first | (simp; done) | (simp; omega)) _)))).mono ?_; rintro e w1 ⟨rfl, m, rfl⟩)
    refine bodyPost_ret (v := .tuple #[.agg #[.int .i64 0, .slice none 0 0], .bool false]) (by simp [results, Try.results43, go_sem]) rfl (chOut_none rfl ?_)
    repeat (first | exact Below.refl _ _ | refine below_drewN ?_ _ | refine Below.setCell ?_ (by first | omega | (simp; done) | (simp; omega)) _ | refine Below.alloc ?_ (by first | omega | (simp; done) | (simp; omega)) _)
  | true =>
    rw [hv] at HI hb
    have hs : partB st = false := by simpa using hb
    rw [hs] at HS
    clear hb hv hs
    go_enter Try.func43, Try.ntmps43
    go_wp2_with (first
      | (go_at_call 95; refine (HI.out _ _ (by simp [go_sem]) (by simp [go_sem]) (h.at_ (by repeat (first | exact Below.refl _ _ | refine Below.alloc ?_ (by first | (simp; done) | (simp; omega)) _)))).mono ?_; rintro e w1 ⟨rfl, m, rfl⟩)
      | (go_at_call 102; refine (HS.out _).mono ?_; rintro e w1 ⟨rfl, m2, rfl⟩))
    refine bodyPost_ret (v := .tuple #[.agg #[.int .i64 0, .slice none 0 0], .bool false]) (by simp [results, Try.results43, go_sem]) rfl (chOut_none rfl ?_)
    repeat (first | exact Below.refl _ _ | refine below_drewN ?_ _ | refine Below.setCell ?_ (by first | omega | (simp; done) | (simp; omega)) _ | refine Below.alloc ?_ (by first | omega | (simp; done) | (simp; omega)) _)

set_option maxRecDepth 100000 in
set_option maxHeartbeats 3200000 in
theorem specLazyChain_ok (n : Nat) (A : Option Addr) (xs : List Nat) (c st : Nat) (w : World) (hx : xs.length ≤ 9223372036854775807) (h : Rd w w.heap.size A (fl xs)) (hv : validB n xs = true) (hs : partB st = true) :
    Calls Try.prog 43 #[.agg #[.int .i64 n, .slice A xs.length c], .float .f32 st] w (chGive n (tab n (lazyF xs n st)) w) := by
  have HI : Hid (∀ b W, W.cell? ⟨b, 0, none⟩ = some (.int .i64 n) → W.cell? ⟨b, 1, none⟩ = some (.slice A xs.length c) → Rd W W.heap.size A (fl xs) → Calls Try.prog 95 #[.pointer (some ⟨b, 0, none⟩)] W (Quiet (.bool true) W)) := fun b W h0 h1 h2 => by have := l07Is_any b n A xs c W hx h0 h1 h2; rwa [hv] at this
  have HS : Hid (∀ W, Calls Try.prog 102 #[.float .f32 st] W (Quiet (.bool true) W)) := fun W => by have := l02Part_any st W; rwa [hs] at this
  obtain ⟨n', hn', hn1, hn2, hl, hp, -⟩ := validB_facts hv
  obtain rfl : n = n' := by omega
  have hnn : n * n ≤ 144 := Nat.mul_le_mul hn2 hn2
  have HG : Hid (∀ W A' c', Rd W W.heap.size A' (fl (tab n (lazyF xs n st))) → Calls Try.prog 103 #[.agg #[.int .i64 n, .slice A' xs.length c']] W (fun e w' => (e = .returned (.tuple #[if validB n (tab n (lazyF xs n st)) = true then .agg #[.int .i64 n, .slice A' xs.length c'] else .agg #[.int .i64 0, .slice none 0 0], .bool (validB n (tab n (lazyF xs n st)))])) ∧ Below W.heap.size W w')) := fun W A' c' hR => by
    have h := l07Give_any n A' (tab n (lazyF xs n st)) c' W (by rw [tab_len]; omega) hR
    rw [tab_len, ← hl] at h
    exact h
  have HTB : Hid (tabTo n (lazyF xs n st) xs.length = tab n (lazyF xs n st)) := by rw [Hid, hl]; rfl
  have HTL : Hid ((tab n (lazyF xs n st)).length = xs.length) := by rw [Hid, hl]; exact tab_len _ _
  -- what a round adds
  have HRD : Hid (∀ p (hp1 : p < xs.length), ∃ y : Nat, floatBits .sub .f32 1065353216 st = some (fsub 1065353216 st) ∧ floatBits .mul .f32 (fsub 1065353216 st) xs[p] = some y ∧ floatBits .add .f32 y st = some (fadd y st) ∧
      tabTo n (lazyF xs n st) (p + 1) = tabTo n (lazyF xs n st) p ++ [if p % (n + 1) = 0 then fadd y st else y]) := fun p hp1 => by
    have hp2 : p < n * n := by rw [← hl]; exact hp1
    have hi : p / n < n := Nat.div_lt_of_lt_mul hp2
    have hk : p % n < n := Nat.mod_lt _ (by omega)
    obtain ⟨r1, r2, r3⟩ := lazy_runs hl hp hi hk hs
    have hst : stepOf xs n (p / n) (p % n) = xs[p] := by
      unfold stepOf
      rw [Nat.mul_comm, Nat.div_add_mod, List.getD_eq_getElem?_getD, List.getElem?_eq_getElem hp1]
      rfl
    rw [hst] at r2
    refine ⟨_, r1, r2, r3, ?_⟩
    rw [tabTo_succ]
    congr 2
    unfold lazyF
    simp only [diag_at (show 0 < n by omega) hp2]
  obtain ⟨b, off, rfl, hbb, hcells⟩ := h (by rw [fl_len, hl]; exact Nat.mul_pos (by omega) (by omega))
  have HC : Hid (∀ p (hp1 : p < xs.length), w.cell? ⟨b, off + p, none⟩ = some (.float .f32 xs[p])) := fun p hp1 => by rw [hcells p (by rw [fl_len]; exact hp1)]; simp [fl]
  obtain ⟨i0, hi0, hz0, hz1, hz2⟩ := info_parts info_f32
  have hR0 := Lib.hid h
  have HL := Lib.hid hl
  have hlen : xs.length ≤ 144 := by omega
  clear hv hs hp hn' hcells h hl hnn hx
  generalize tab n (lazyF xs n st) = ys at *
  generalize lazyF xs n st = f at *
  go_enter Try.func43, Try.ntmps43
  go_wp2_with (first
    | (go_at_call 95; refine (HI.out _ _ (by simp [go_sem]) (by simp [go_sem]) (hR0.out.at_ (by repeat (first | exact Below.refl _ _ | refine Below.alloc ?_ (by first | (simp; done) | (simp; omega)) _)))).mono ?_; rintro e w1 ⟨rfl, m, rfl⟩)
    | (go_at_call 102; refine (HS.out _).mono ?_; rintro e w1 ⟨rfl, m2, rfl⟩))
  generalize hW1 : World.alloc (World.drewN _ _) _ = W1
  have k0 : W1.cell? ⟨w.heap.size + 1, 0, none⟩ = some (.int .i64 0) := by rw [← hW1]; simp [go_sem]
  have k1 : W1.cell? ⟨w.heap.size + 1, 1, none⟩ = some (.slice none 0 0) := by rw [← hW1]; simp [go_sem]
  have kf : ∀ o, W1.frozen? ⟨w.heap.size + 1, o, none⟩ = false := fun o => by rw [← hW1]; simp [go_sem]
  have j0 : W1.cell? ⟨w.heap.size, 0, none⟩ = some (.int .i64 n) := by rw [← hW1]; simp [go_sem]
  have j1 : W1.cell? ⟨w.heap.size, 1, none⟩ = some (.slice (some ⟨b, off, none⟩) xs.length c) := by rw [← hW1]; simp [go_sem]
  have c0 : W1.cell? ⟨w.heap.size + 1 + 1, 0, none⟩ = some (.int .i64 n) := by rw [← hW1]; simp [go_sem]
  have c1 : W1.cell? ⟨w.heap.size + 1 + 1, 1, none⟩ = some (.slice none 0 0) := by rw [← hW1]; simp [go_sem]
  have cf : ∀ o, W1.frozen? ⟨w.heap.size + 1 + 1, o, none⟩ = false := fun o => by rw [← hW1]; simp [go_sem]
  have s1 : W1.heap.size = w.heap.size + 1 + 2 := by rw [← hW1]; simp
  have hB1 : Below w.heap.size w W1 := by rw [← hW1]; repeat (first | exact Below.refl _ _ | refine below_drewN ?_ _ | refine Below.alloc ?_ (by first | (simp; done) | (simp; omega)) _)
  have START : Hid (CB W1 (w.heap.size + 1) n f 0 W1) := ⟨none, 0, Below.refl _ _, by rw [s1]; exact Nat.le_refl _, c0, c1, cf, World.ownsRow_nil _ _ _ _⟩
  have HRW : Hid (∀ p (hp1 : p < xs.length), W1.cell? ⟨b, off + p, none⟩ = some (.float .f32 xs[p])) := fun p hp1 => (hB1.cell (p := ⟨b, off + p, none⟩) hbb).trans (HC.out p hp1)
  have K0 := Lib.hid k0
  have K1 := Lib.hid k1
  have KF := Lib.hid kf
  have J0 := Lib.hid j0
  have J1 := Lib.hid j1
  have HB1 := Lib.hid hB1
  clear hW1 k0 k1 kf j0 j1 c0 c1 cf s1 hB1
  go_loopw [23] (fun i wr => ∃ p : Nat, p ≤ xs.length ∧ i = .int .i64 p ∧ CB W1 (w.heap.size + 1) n f p wr) (fun i _ => xs.length - (intOf i).toNat)
  case atStart => exact ⟨0, Nat.zero_le _, rfl, START.out⟩
  case round =>
    obtain ⟨p, hp, rfl, A', c', hbw, hsz, d0, d1, hfr, hown⟩ := hrel
    rename_i wr
    by_cases hlt : p < xs.length
    · obtain ⟨y, r1, r2, r3, hstep⟩ := HRD.out p hlt
      have HSTEP := Lib.hid hstep
      have e1 := fun w => run_float_arith (P := Try.prog) w .sub 33 .f32 _ _ _ r1
      have e2 := fun w => run_float_arith (P := Try.prog) w .mul 33 .f32 _ _ _ r2
      have e3 := fun w => run_float_arith (P := Try.prog) w .add 33 .f32 _ _ _ r3
      have b0 : wr.cell? ⟨w.heap.size, 0, none⟩ = some (.int .i64 n) := (hbw.cell (show w.heap.size < w.heap.size + 1 + 1 by omega)).trans J0.out
      have b1 : wr.cell? ⟨w.heap.size, 1, none⟩ = some (.slice (some ⟨b, off, none⟩) xs.length c) := (hbw.cell (show w.heap.size < w.heap.size + 1 + 1 by omega)).trans J1.out
      have bx : wr.cell? ⟨b, off + p, none⟩ = some (.float .f32 xs[p]) := (hbw.cell (p := ⟨b, off + p, none⟩) (show b < w.heap.size + 1 + 1 by omega)).trans (HRW.out p hlt)
      have t1 : (p : Int).tmod ((n : Int) + 1) = ((p % (n + 1) : Nat) : Int) := by
        rw [Int.tmod_eq_emod_of_nonneg (by omega)]
        rfl
      have HBW := Lib.hid hbw
      clear hstep hbw r1 r2 r3
      generalize xs[p] = x at *
      generalize fadd y st = z at *
      by_cases hd : p % (n + 1) = 0
      · rw [if_pos hd] at HSTEP
        rw [hd] at t1
        go_wp2_with (refine wpList_append_lies _ rfl _ _ _ rfl (w.heap.size + 1 + 2) 33 i0 _ 1 4 Try.underlying22 hi0 hz0 hz1 hz2 rfl (by omega) (.slice A' p c') p (fl (tabTo n f p)) (by rfl) (hown.alloc _) ⟨wr.heap.size, 0, none⟩ 1 1 [.float .f32 z] (by rfl) (by rfl) (World.news_of_block (cs := #[.float .f32 z]) (t := 33) (fr := (0, 0)) (heap_alloc_new wr _)) (by simp [Value.oneCell']) (by omega) (by unfold maxLen; omega) (by omega) (by simp; omega) (wr.heap.size + 1) (by simp) ?_; intro g cap w3 hown3 hgrow hat hlt3; obtain ⟨c3, f3, hcb3⟩ := CB_step HBW.out hsz d0 d1 hfr hown (Below.refl _ _) hgrow hown3 HSTEP.out; have HX := Lib.hid hcb3; clear hcb3)
        go_roundw
        case rel => exact ⟨p + 1, by omega, by go_num, HX.out⟩
        case measure => simp [intOf]; omega
      · rw [if_neg hd] at HSTEP
        have hd2 : ((p % (n + 1) : Nat) : Int) ≠ 0 := by omega
        generalize p % (n + 1) = rr at *
        go_wp2_with (refine wpList_append_lies _ rfl _ _ _ rfl (w.heap.size + 1 + 2) 33 i0 _ 1 4 Try.underlying22 hi0 hz0 hz1 hz2 rfl (by omega) (.slice A' p c') p (fl (tabTo n f p)) (by rfl) (hown.alloc _) ⟨wr.heap.size, 0, none⟩ 1 1 [.float .f32 y] (by rfl) (by rfl) (World.news_of_block (cs := #[.float .f32 y]) (t := 33) (fr := (0, 0)) (heap_alloc_new wr _)) (by simp [Value.oneCell']) (by omega) (by unfold maxLen; omega) (by omega) (by simp; omega) (wr.heap.size + 1) (by simp) ?_; intro g cap w3 hown3 hgrow hat hlt3; obtain ⟨c3, f3, hcb3⟩ := CB_step HBW.out hsz d0 d1 hfr hown (Below.refl _ _) hgrow hown3 HSTEP.out; have HX := Lib.hid hcb3; clear hcb3)
        go_roundw
        case rel => exact ⟨p + 1, by omega, by go_num, HX.out⟩
        case measure => simp [intOf]; omega
    · obtain rfl : p = xs.length := by omega
      rw [HTB.out] at hown
      have HO := Lib.hid hown
      have g0 : wr.cell? ⟨w.heap.size + 1, 0, none⟩ = some (.int .i64 0) := (hbw.cell (show w.heap.size + 1 < w.heap.size + 1 + 1 by omega)).trans K0.out
      have g1 : wr.cell? ⟨w.heap.size + 1, 1, none⟩ = some (.slice none 0 0) := (hbw.cell (show w.heap.size + 1 < w.heap.size + 1 + 1 by omega)).trans K1.out
      have gf : ∀ o, wr.frozen? ⟨w.heap.size + 1, o, none⟩ = false := fun o => (hbw.frozen (show w.heap.size + 1 < w.heap.size + 1 + 1 by omega)).trans (KF.out o)
      have HBR := Lib.hid (HB1.out.trans (hbw.mono (by omega)))
      have HL2 := HTL.out
      have HL3 := Lib.hid HL2
      clear hown hbw HL2
      cases hvb : validB n ys
      · have HVB := Lib.hid hvb
        rw [hvb] at HG
        clear hvb
        go_wp2_with (go_at_call 103; refine (HG.out _ _ _ ((Rd.of_own HO.out).at_ (by first | exact Below.refl _ _ | exact (Below.refl _ _).drew))).mono ?_; rintro e w5 ⟨rfl, hb5⟩; have hk5 : Below wr.heap.size wr w5 := hb5; have z0 : w5.cell? ⟨w.heap.size + 1, 0, none⟩ = some (.int .i64 0) := keepC hk5 g0; have z1 : w5.cell? ⟨w.heap.size + 1, 1, none⟩ = some (.slice none 0 0) := keepC hk5 g1; have zf : ∀ o, w5.frozen? ⟨w.heap.size + 1, o, none⟩ = false := fun o => (hk5.frozen (p := ⟨_, o, none⟩) (by show w.heap.size + 1 < wr.heap.size; omega)).trans (gf o))
        have hB : Below w.heap.size w w5 := HBR.out.trans (hk5.mono (by omega))
        refine bodyPost_ret (v := .tuple #[.agg #[.int .i64 0, .slice none 0 0], .bool false]) (by simp [results, Try.results43, go_sem, z0, z1]) rfl (ChainRes.out ⟨(hB.setCell (by simp) _).setCell (by simp) _, .inl ⟨HVB.out, rfl⟩⟩)
      · have HVB := Lib.hid hvb
        rw [hvb] at HG
        clear hvb
        go_wp2_with (go_at_call 103; refine (HG.out _ _ _ ((Rd.of_own HO.out).at_ (by first | exact Below.refl _ _ | exact (Below.refl _ _).drew))).mono ?_; rintro e w5 ⟨rfl, hb5⟩; have hk5 : Below wr.heap.size wr w5 := hb5; have z0 : w5.cell? ⟨w.heap.size + 1, 0, none⟩ = some (.int .i64 0) := keepC hk5 g0; have z1 : w5.cell? ⟨w.heap.size + 1, 1, none⟩ = some (.slice none 0 0) := keepC hk5 g1; have zf : ∀ o, w5.frozen? ⟨w.heap.size + 1, o, none⟩ = false := fun o => (hk5.frozen (p := ⟨_, o, none⟩) (by show w.heap.size + 1 < wr.heap.size; omega)).trans (gf o))
        have hB : Below w.heap.size w w5 := HBR.out.trans (hk5.mono (by omega))
        have hO := own_below HO.out hk5
        refine bodyPost_ret (v := .tuple #[.agg #[.int .i64 n, .slice A' xs.length c'], .bool true]) (by simp [results, Try.results43, go_sem, z0, z1]) rfl (ChainRes.out ⟨(hB.setCell (by simp) _).setCell (by simp) _, .inr ⟨HVB.out, A', c', by rw [HL3.out], ?_⟩⟩)
        rw [HL3.out]
        exact own_base (ownsRow_setCell_below (ownsRow_setCell_below hO (show w.heap.size + 1 < w.heap.size + 1 + 2 by omega) _) (show w.heap.size + 1 < w.heap.size + 1 + 2 by omega) _) (by omega)
end Go.Proofs.Ytddaodjaeommlaa
