/-
  impl.waysTo: a row of maps, filled in whatever order.
-/
import Derived.Test.YtmpnfjajlmafgaaDp
namespace Go.Proofs.Ytmpnfjajlmafgaa
open Go Go.RowKit Go.Maps Go.WideShapes

theorem keyed : Keyed Try.prog 2 := int_keyed Try.underlying2
theorem zeroI (w : World) : (zeroValue 2).run Try.prog w = .ok (.int .i64 0) w := by kernel_rfl
theorem info_map : (Try.prog.info? 63).map (fun i => (i.zero, i.size, i.bytes)) = some (some (.map none), 1, 8) := by kernel_rfl
theorem grown_refl (w : World) (row : Option Nat) : w.grownBy w row := ⟨rfl, rfl, rfl, Nat.le_refl _, fun _ _ _ => rfl⟩
theorem grown_set {w w' : World} {g : Nat} (h : w.grownBy w' (some g)) (i : Nat) (v : Value) : w.grownBy (w'.setCell ⟨g, i, none⟩ v) (some g) :=
  ⟨h.os, h.tape, h.output, by simp only [World.setCell, Array.size_modify]; exact h.size, fun k hk hne => (Below.heap_setCell _ _ _ _ (fun e => hne (by rw [e]))).trans (h.block k hk hne)⟩
abbrev OM (W : World) (b n : Nat) (D : DU) : Prop := W.ownsMap Try.prog 2 (plainElem Try.prog 2) b n D
/-- a row of maps, n of them made, each read as a table -/
structure MW (W : World) (base M R n : Nat) (bl : Nat → Nat) (f : Nat → Nat → Int) (s nb : Nat → Nat) : Prop where
  o : W.rowIs R 63 M (fun q => if q < n then .map (some (bl q)) else .map none)
  m : ∀ q, q < n → ∃ D : DU, OM W (bl q) (nb q) D ∧ MapIs D (f q) (s q)
  ne : ∀ q, q < n → bl q ≠ R
  inj : ∀ p q, p < n → q < n → bl p = bl q → p = q
  loR : base ≤ R
  lo : ∀ q, q < n → base ≤ bl q
variable {W W' : World} {base M R n : Nat} {bl : Nat → Nat} {f f' : Nat → Nat → Int} {s s' nb nb' : Nat → Nat}
theorem MW.congr (h : MW W base M R n bl f s nb) (hf : ∀ q x, q < n → f q x = f' q x) (hs : ∀ q, q < n → s q ≤ s' q) (hn : ∀ q, q < n → nb q ≤ nb' q) : MW W base M R n bl f' s' nb' :=
  ⟨h.o, fun q hq => by
    obtain ⟨D, h1, h2⟩ := h.m q hq
    exact ⟨D, h1.mono (hn q hq), mapIs_mono (mapIs_congr h2 fun x => hf q x hq) (hs q hq)⟩, h.ne, h.inj, h.loR, h.lo⟩
theorem MW.ltR (h : MW W base M R n bl f s nb) : R < W.heap.size := h.o.lt
theorem MW.lt (h : MW W base M R n bl f s nb) {q : Nat} (hq : q < n) : bl q < W.heap.size := by
  obtain ⟨D, h1, -⟩ := h.m q hq
  exact h1.lt
theorem MW.cell (h : MW W base M R n bl f s nb) {q : Nat} (hq : q < n) (hM : n ≤ M) : W.cell? ⟨R, q, none⟩ = some (.map (some (bl q))) := by
  have := h.o.cell (show q < M by omega)
  rw [if_pos hq] at this
  exact this
/-- one map is turned -/
theorem MW.turn (h : MW W base M R n bl f s nb) {k : Nat} (hk : k < n) (hg : W.grownBy W' (some (bl k))) {D : DU} (hm : OM W' (bl k) (nb' k) D) (hi : MapIs D (f' k) (s' k)) (he : ∀ q, q < n → q ≠ k → (∀ x, f q x = f' q x) ∧ s q ≤ s' q ∧ nb q ≤ nb' q) : MW W' base M R n bl f' s' nb' := by
  refine ⟨h.o.of_block (hg.block R h.ltR fun e => h.ne k hk (Option.some.inj e).symm), fun q hq => ?_, h.ne, h.inj, h.loR, h.lo⟩
  by_cases hqk : q = k
  · subst hqk
    exact ⟨D, hm, hi⟩
  · obtain ⟨D2, h1, h2⟩ := h.m q hq
    obtain ⟨e1, e2, e3⟩ := he q hq hqk
    exact ⟨D2, (h1.kept hg fun e => hqk (h.inj q k hq hk (Option.some.inj e))).mono e3, mapIs_mono (mapIs_congr h2 e1) e2⟩
theorem MW.push (h : MW W base M R n bl (fun _ _ => 0) (fun _ => 0) (fun _ => 0)) (hb : base ≤ W.heap.size) :
    MW ((W.setCell ⟨R, n, none⟩ (.map (some W.heap.size))).alloc (.map #[] 0)) base M R (n + 1) (fun q => if q = n then W.heap.size else bl q) (fun _ _ => 0) (fun _ => 0) (fun _ => 0) := by
  have hR := h.ltR
  have hg := grown_set (grown_refl W (some R)) n (.map (some W.heap.size))
  have hsz : (W.setCell ⟨R, n, none⟩ (.map (some W.heap.size))).heap.size = W.heap.size := by simp
  refine ⟨((h.o.set n (.map (some W.heap.size))).alloc _).congr fun q _ => ?_, fun q hq => ?_, fun q hq => ?_, fun p q hp hq e => ?_, h.loR, fun q hq => ?_⟩
  · by_cases hqn : q = n
    · simp [hqn]
    · by_cases hlt : q < n
      · simp [hqn, hlt, show q < n + 1 by omega]
      · simp [hqn, hlt, show ¬ q < n + 1 by omega]
  · by_cases hqn : q = n
    · refine ⟨.map [], ?_, mapIs_empty _⟩
      show OM _ (if q = n then _ else _) _ _
      rw [if_pos hqn]
      have := World.ownsMap_made (W.setCell ⟨R, n, none⟩ (.map (some W.heap.size))) Try.prog 2 (plainElem (H := Unit) Try.prog 2)
      rw [hsz] at this
      exact this
    · obtain ⟨D, h1, h2⟩ := h.m q (by omega)
      refine ⟨D, ?_, h2⟩
      show OM _ (if q = n then _ else _) _ _
      rw [if_neg hqn]
      exact (h1.kept hg fun e => h.ne q (by omega) (Option.some.inj e)).alloc _
  · show (if q = n then _ else _) ≠ R
    split
    · omega
    · exact h.ne q (by omega)
  · have e : (if p = n then W.heap.size else bl p) = (if q = n then W.heap.size else bl q) := e
    by_cases hp' : p = n
    · by_cases hq' : q = n
      · omega
      · rw [if_pos hp', if_neg hq'] at e
        have := h.lt (q := q) (by omega)
        omega
    · by_cases hq' : q = n
      · rw [if_neg hp', if_pos hq'] at e
        have := h.lt (q := p) (by omega)
        omega
      · rw [if_neg hp', if_neg hq'] at e
        exact h.inj p q (by omega) (by omega) e
  · show base ≤ (if q = n then _ else _)
    split
    · exact hb
    · exact h.lo q (by omega)
theorem MW.start (W : World) (M : Nat) (bl : Nat → Nat) : MW (W.alloc (.cells (madeCells #[.map none] M) 63)) W.heap.size M W.heap.size 0 bl (fun _ _ => 0) (fun _ => 0) (fun _ => 0) :=
  ⟨(World.rowIs_made W (.map none) M _).congr fun q _ => by rw [if_neg (by omega)], fun q hq => absurd hq (by omega), fun q hq => absurd hq (by omega), fun p q hp => absurd hp (by omega), Nat.le_refl _, fun q hq => absurd hq (by omega)⟩
theorem w64 (a : Int) : wrap64 a = IntKind.i64.wrap a := by
  rw [IntKind.wrap_i64]
  unfold wrap64
  omega
def wtOut (rs : List Nat) (many : Nat) (w : World) : Ending → World → Prop := fun e w' => ∃ (b : Nat) (D : DU), e = .returned (.map (some b)) ∧ OM w' b (2 ^ rs.length) D ∧ MapIs D (way rs rs.length many) rs.sum ∧ Below w.heap.size w w'

set_option maxRecDepth 100000 in
set_option maxHeartbeats 3200000 in
theorem waysTo_any (A : Option Addr) (rs : List Nat) (many c : Nat) (w : World) (hl : rs.length ≤ 40) (hm : many ≤ 40) (hs : rs.sum ≤ 1048576) (h : Rd w w.heap.size A (nlv rs)) :
    Calls Try.prog 50 #[.slice A rs.length c, .int .i64 many] w (wtOut rs many w) := by
  obtain ⟨i0, hi0, hz0, hz1, hz2⟩ := info_parts info_map
  have hmk := run_make_row (P := Try.prog) 83 63 i0 (.map none) Try.underlying83 hi0 hz0 hz1 rfl .i64 .i64 (many + 1) (by rw [hz2]; omega) (by omega)
  push_cast at hmk
  have hmm := @run_makeMap Try.prog
  have HW0 : Hid (∀ q x, way rs 0 q x = if q = 0 ∧ x = 0 then 1 else 0) := Lib.hid fun q x => rfl
  have HWK : Hid (∀ i k x, way rs (i + 1) (k + 1) x = if rs.getD i 0 ≤ x then IntKind.i64.wrap (way rs i (k + 1) x + way rs i k (x - rs.getD i 0)) else way rs i (k + 1) x) := Lib.hid fun i k x => rfl
  have HWZ : Hid (∀ i x, way rs (i + 1) 0 x = way rs i 0 x) := Lib.hid fun i x => rfl
  have HOK := Lib.hid fun i k x => way_ok rs i k x
  have HSS : Hid (∀ i, i < rs.length → sumTo rs (i + 1) = sumTo rs i + rs.getD i 0) := Lib.hid fun i hi => by rw [sumTo_succ hi, List.getD_eq_getElem?_getD, List.getElem?_eq_getElem hi]; rfl
  have HSL : Hid (∀ i, sumTo rs i ≤ 1048576) := Lib.hid fun i => Nat.le_trans (sumTo_le rs i) hs
  have HSE : Hid (sumTo rs rs.length = rs.sum) := Lib.hid (sumTo_all rs)
  have HAT : Hid (∀ k, k < rs.length → ∃ b off, A = some ⟨b, off, none⟩ ∧ ∀ W, Below w.heap.size w W → W.cell? ⟨b, off + k, none⟩ = some (.int .i64 (rs.getD k 0 : Nat))) := Lib.hid fun k hk => by
    obtain ⟨b, off, e, hb, hc⟩ := h.nlvAt hk
    refine ⟨b, off, e, fun W hW => keepC hW ?_⟩
    rw [hc, List.getD_eq_getElem?_getD, List.getElem?_eq_getElem hk]
    rfl
  have HP : Hid (∀ i, i ≤ 40 → 2 ^ i ≤ 1099511627776) := Lib.hid fun i hi => Nat.le_trans (Nat.pow_le_pow_right (by omega) hi) (by decide)
  have START := Lib.hid (show MW (w.alloc (.cells (madeCells #[.map none] (many + 1)) 63)) w.heap.size (many + 1) w.heap.size 0 (fun _ => 0) (fun _ _ => 0) (fun _ => 0) (fun _ => 0) ∧ Below w.heap.size w (w.alloc (.cells (madeCells #[.map none] (many + 1)) 63)) from ⟨MW.start w _ _, below_al (Below.refl _ _) _⟩)
  clear h hs
  unfold wtOut
  generalize way rs = wy at *
  generalize hN : rs.length = N at *
  clear hN
  generalize sumTo rs = st at *
  generalize rs.sum = tot at *
  have hm1 : IntKind.i64.wrap ((many : Int) + 1) = (many : Int) + 1 := IntWalk.i64_in _ (by omega)
  go_enter Try.func50, Try.ntmps50
  go_upto_region 2 with fail
  generalize World.alloc w _ = W1 at *
  go_wp2_with fail
  go_loopw [17] (fun iv wr => ∃ (k : Nat) (bl : Nat → Nat), k ≤ many + 1 ∧ iv = .int .i64 k ∧ MW wr w.heap.size (many + 1) w.heap.size k bl (fun _ _ => 0) (fun _ => 0) (fun _ => 0) ∧ Below w.heap.size w wr) (fun iv _ => many + 1 - (intOf iv).toNat)
  case atStart => exact ⟨0, _, Nat.zero_le _, rfl, START.out.1, START.out.2⟩
  case round =>
    clear START
    obtain ⟨k, bl, hk, rfl, hm, hb⟩ := hrel
    rename World => wr
    have MM := Lib.hid hm
    have B := Lib.hid hb
    have hbz := hb.size
    clear hm hb
    by_cases hkm : k < many + 1
    · have y0 := MM.out.o.cell hkm
      rw [if_neg (Nat.lt_irrefl k)] at y0
      have f0 := MM.out.o.frozen k
      have hR := MM.out.ltR
      have P9 := Lib.hid (MM.out.push hbz)
      have B9 : Hid (Below w.heap.size w ((wr.setCell ⟨w.heap.size, k, none⟩ (.map (some wr.heap.size))).alloc (.map #[] 0))) := Lib.hid (below_al (below_set B.out ⟨w.heap.size, k, none⟩ (.map (some wr.heap.size)) (Nat.le_refl _)) (.map #[] 0))
      have y1 := keepC (below_al (Below.refl wr.heap.size wr) (.map #[] 0)) y0
      have f1 : (wr.alloc (.map #[] 0)).frozen? ⟨w.heap.size, k, none⟩ = false := ((below_al (Below.refl wr.heap.size wr) (.map #[] 0)).frozen (p := ⟨_, k, none⟩) hR).trans f0
      have hki : (k : Int) < (many : Int) + 1 := by omega
      go_wp2_with fail
      exact ⟨⟨k + 1, _, by omega, by go_num, P9.out, B9.out⟩, by simp [intOf]; omega⟩
    · obtain rfl : k = many + 1 := by omega
      have y0 := MM.out.cell (show 0 < many + 1 by omega) (Nat.le_refl _)
      obtain ⟨D0, hd0, hi0'⟩ := MM.out.m 0 (by omega)
      have HD0 := Lib.hid hd0
      have HI0 := Lib.hid (mapIs_put hi0' (Nat.le_refl 0) (Nat.zero_le 0) 1)
      have HTU : Hid (∀ (W : World) (D : DU), wr.grownBy W (some (bl 0)) → OM W (bl 0) 1 D → MapIs D (updF (fun _ => 0) 0 1) 0 → MW W w.heap.size (many + 1) w.heap.size (many + 1) bl (fun q x => wy 0 q x) (fun _ => st 0) (fun _ => 2 ^ 0)) := Lib.hid fun W D hg hm hi => MM.out.turn (k := 0) (by omega) hg hm (mapIs_mono (mapIs_congr hi fun x => by
          show (if x = 0 then 1 else 0) = wy 0 0 x
          rw [HW0.out]
          by_cases hx : x = 0 <;> simp [hx]) (Nat.zero_le _)) fun q hq hq0 => ⟨fun x => by
          show 0 = wy 0 q x
          rw [HW0.out, if_neg (fun e => hq0 e.1)], Nat.zero_le _, Nat.zero_le _⟩
      have hblz := MM.out.lo 0 (by omega)
      have HLO := Lib.hid hblz
      clear hd0 hi0'
      generalize hb0 : bl 0 = b0 at *
      go_wp2_with (at_mapUpdate; refine wpList_mapUpdate_own _ rfl _ _ _ 63 rfl 2 2 keyed Try.underlying63 _ b0 0 _ rfl HD0.out (by unfold maxLen; omega) _ _ _ rfl rfl (keyOf_int_mk Try.underlying2 (WalkArith.wf_i64 (by omega))) _ [] (plainElem_int Try.underlying2 (WalkArith.wf_i64 (by omega))) ?_; intro w5 hown5 hgrow5; have M5 := Lib.hid (HTU.out w5 _ hgrow5 hown5 HI0.out); have B5 := Lib.hid (B.out.grown hgrow5 hbz fun j hj => by cases hj; exact HLO.out); clear hown5 hgrow5)
      clear HTU HD0 HI0 MM B hb0 HLO hblz y0
      go_loopw [30] (fun iv wq => ∃ i : Nat, i ≤ N ∧ iv = .int .i64 i ∧ MW wq w.heap.size (many + 1) w.heap.size (many + 1) bl (fun q x => wy i q x) (fun _ => st i) (fun _ => 2 ^ i) ∧ Below w.heap.size w wq) (fun iv _ => N - (intOf iv).toNat)
      case atStart => exact ⟨0, Nat.zero_le _, rfl, M5.out, B5.out⟩
      case round =>
        clear M5 B5
        obtain ⟨i, hi, rfl, hm, hb⟩ := hrel
        rename World => wq
        have MM := Lib.hid hm
        have B := Lib.hid hb
        clear hm hb
        by_cases hiN : i < N
        · obtain ⟨b, off, rfl, hat⟩ := HAT.out i hiN
          have y0 := hat wq B.out
          have HSR := Lib.hid (HSS.out i hiN)
          have HWI := Lib.hid fun k x => HWK.out i k x
          have HWZi := Lib.hid fun x => HWZ.out i x
          generalize hr : rs.getD i 0 = r at *
          have HP1 := Lib.hid (HP.out (i + 1) (by omega))
          have hp2 : 2 ^ (i + 1) = 2 ^ i + 2 ^ i := by rw [Nat.pow_succ]; omega
          have HP2 := Lib.hid hp2
          have HSTL := Lib.hid (HSL.out (i + 1))
          have M0 : Hid (MW wq w.heap.size (many + 1) w.heap.size (many + 1) bl (fun q x => if many < q then wy (i + 1) q x else wy i q x) (fun q => if many < q then st (i + 1) else st i) (fun q => if many < q then 2 ^ (i + 1) else 2 ^ i)) := Lib.hid (MM.out.congr (fun q x hq => by rw [if_neg (by omega)]) (fun q hq => by rw [if_neg (by omega)]; exact Nat.le_refl _) (fun q hq => by rw [if_neg (by omega)]; exact Nat.le_refl _))
          clear hat hr hp2 HWK HWZ HSS HP MM
          go_wp2_with fail
          go_loopw [9] (fun kv wk => ∃ k : Nat, k ≤ many ∧ kv = .int .i64 k ∧ MW wk w.heap.size (many + 1) w.heap.size (many + 1) bl (fun q x => if k < q then wy (i + 1) q x else wy i q x) (fun q => if k < q then st (i + 1) else st i) (fun q => if k < q then 2 ^ (i + 1) else 2 ^ i) ∧ Below w.heap.size w wk) (fun kv _ => (intOf kv).toNat)
          case atStart => exact ⟨many, Nat.le_refl _, rfl, M0.out, B.out⟩
          case round =>
            clear M0 B y0
            obtain ⟨k, hk, rfl, hm, hb⟩ := hrel
            rename World => wk
            have MM := Lib.hid hm
            have B := Lib.hid hb
            clear hm hb
            by_cases hk0 : 1 ≤ k
            · obtain ⟨k1, rfl⟩ : ∃ k1, k = k1 + 1 := ⟨k - 1, by omega⟩
              have y1 := MM.out.cell (q := k1) (by omega) (Nat.le_refl _)
              have y2 := MM.out.cell (q := k1 + 1) (by omega) (Nat.le_refl _)
              obtain ⟨Dp, hdp, hip⟩ := MM.out.m k1 (by omega)
              obtain ⟨D0, hd0, hi0'⟩ := MM.out.m (k1 + 1) (by omega)

              simp only [if_neg (show ¬ k1 + 1 < k1 by omega), if_neg (Nat.lt_irrefl (k1 + 1))] at hdp hip hd0 hi0'
              have HDP := Lib.hid hdp
              have HIP := Lib.hid hip
              have HD0 := Lib.hid hd0
              have HI0 := Lib.hid hi0'
              have HNE : Hid (bl k1 ≠ bl (k1 + 1)) := Lib.hid fun e => by have := MM.out.inj k1 (k1 + 1) (by omega) (by omega) e; omega
              have HLTp := Lib.hid (MM.out.lt (q := k1) (by omega))
              have HLT0 := Lib.hid (MM.out.lt (q := k1 + 1) (by omega))
              have HLO := Lib.hid (MM.out.lo (k1 + 1) (by omega))
              have HNER := Lib.hid (MM.out.ne (k1 + 1) (by omega))
              have HTU : Hid (∀ (W : World) (D : DU) (n' : Nat), n' ≤ 2 ^ (i + 1) → wk.grownBy W (some (bl (k1 + 1))) → OM W (bl (k1 + 1)) n' D → MapIs D (fun x => if r ≤ x then IntKind.i64.wrap (wy i (k1 + 1) x + wy i k1 (x - r)) else wy i (k1 + 1) x) (st (i + 1)) → MW W w.heap.size (many + 1) w.heap.size (many + 1) bl (fun q x => if k1 < q then wy (i + 1) q x else wy i q x) (fun q => if k1 < q then st (i + 1) else st i) (fun q => if k1 < q then 2 ^ (i + 1) else 2 ^ i)) := Lib.hid fun W D n' hn' hg hm hi' => by
                refine MM.out.turn (k := k1 + 1) (by omega) hg (D := D) ?_ ?_ fun q hq hqk => ?_
                · rw [if_pos (show k1 < k1 + 1 by omega)]
                  exact hm.mono hn'
                · rw [if_pos (show k1 < k1 + 1 by omega)]
                  refine mapIs_congr hi' fun x => ?_
                  rw [if_pos (show k1 < k1 + 1 by omega), HWI.out]
                · by_cases hlt : k1 < q
                  · rw [if_pos (show k1 + 1 < q by omega), if_pos hlt, if_pos (show k1 + 1 < q by omega), if_pos hlt]
                    exact ⟨fun x => by rw [if_pos (show k1 + 1 < q by omega), if_pos hlt], Nat.le_refl _, Nat.le_refl _⟩
                  · rw [if_neg (show ¬ k1 + 1 < q by omega), if_neg hlt, if_neg (show ¬ k1 + 1 < q by omega), if_neg hlt]
                    exact ⟨fun x => by rw [if_neg (show ¬ k1 + 1 < q by omega), if_neg hlt], Nat.le_refl _, Nat.le_refl _⟩
              have hw1 : IntKind.i64.wrap (((k1 + 1 : Nat) : Int) - 1) = (k1 : Int) := by rw [show ((k1 + 1 : Nat) : Int) - 1 = (k1 : Int) by omega]; exact IntWalk.i64_in _ (by omega)
              have hki : (k1 : Int) < (many : Int) + 1 := by omega
              have hki2 : (k1 : Int) + 1 < (many : Int) + 1 := by omega
              have HSZ := Lib.hid (own_size hdp)
              have hcond : (1 : Int) ≤ (k1 : Int) + 1 := by omega
              clear hdp hip hd0 hi0'
              generalize hbp : bl k1 = bp at *
              generalize hb0 : bl (k1 + 1) = b0 at *
              have HBW := Lib.hid hbp
              clear hbp hb0
              go_wp2_with (at_range; refine wpList_range_own _ rfl _ 63 rfl 2 2 keyed Try.underlying63 _ bp (2 ^ i) _ rfl HDP.out ?_; intro w0 hrg0 hg0 hs0)
              go_frame
              have hg0b := hg0.but (some b0)
              have START4 := Lib.hid (show w0.ranges Try.prog 2 (plainElem (H := Unit) Try.prog 2) bp wk.heap.size (2 ^ i) Dp (has Dp) (Maps.size Dp) ∧ OM w0 b0 (2 ^ i) D0 ∧ 2 ^ i + Maps.size Dp ≤ 2 ^ (i + 1) ∧ MapIs D0 (partF (wy i (k1 + 1)) (wy i k1) r Dp (has Dp)) (st (i + 1)) ∧ wk.grownBy w0 (some b0) from
                ⟨hrg0, HD0.out.kept hg0 (by simp), by have h1 := HSZ.out; have h2 := HP2.out; omega, mapIs_mono (mapIs_congr HI0.out fun x => (part_start _ _ _ _ x).symm) (by have := HSR.out; omega), hg0b⟩)
              clear hrg0 hg0 hs0 hg0b HI0 HD0
              go_loopw [10] (fun _ wr => ∃ (left : Lit → Bool) (cnt n' : Nat) (D : DU), wr.ranges Try.prog 2 (plainElem (H := Unit) Try.prog 2) bp wk.heap.size (2 ^ i) Dp left cnt ∧ OM wr b0 n' D ∧ n' + cnt ≤ 2 ^ (i + 1) ∧ MapIs D (partF (wy i (k1 + 1)) (wy i k1) r Dp left) (st (i + 1)) ∧ wk.grownBy wr (some b0)) (fun _ wr => wr.rangeLeft bp wk.heap.size)
              case atStart => exact ⟨_, _, _, _, START4.out.1, START4.out.2.1, START4.out.2.2.1, START4.out.2.2.2.1, START4.out.2.2.2.2⟩
              case round =>
                clear START4
                obtain ⟨left, cnt, n', D, hrg, hom, hnc, hmi, hgw⟩ := hrel
                rename World => wz
                have HRG := Lib.hid hrg
                have HOM := Lib.hid hom
                have HNC := Lib.hid hnc
                have HMI := Lib.hid hmi
                have HGW := Lib.hid hgw
                clear hrg hom hnc hmi hgw
                go_wp2_with (at_next; refine wpList_next_ranges_ii _ rfl _ rfl 2 2 .i64 .i64 keyed Try.underlying2 Try.underlying2 bp wk.heap.size (2 ^ i) _ _ _ rfl HRG.out ?_ ?_)
                · intro _ hl0
                  have M9 := Lib.hid (HTU.out wz D n' (by have := HNC.out; omega) HGW.out HOM.out (mapIs_congr HMI.out fun x => part_end hl0 HIP.out (fun x => HOK.out i (k1 + 1) x) x))
                  have B9 := Lib.hid (B.out.grown HGW.out B.out.size fun j hj => by cases hj; exact HLO.out)
                  clear hl0
                  go_wp2_with fail
                  go_roundw
                  case rel => exact ⟨k1, by omega, by go_num, M9.out, B9.out⟩
                  case measure => simp [intOf]
                · intro x c1 w1 cnt1 hwx hwc hlx hat hrg1 hlt1 hg1 hs1 hen
                  have hh := has_true_of_atKey hat
                  obtain ⟨hx0, hx1⟩ := HIP.out.2.1 x hh
                  obtain ⟨s, rfl⟩ := Int.eq_ofNat_of_zero_le hx0
                  have hc1 : c1 = wy i k1 s := by
                    have h1 := HIP.out.2.2 s
                    rw [show Dp.atKey (kI s) (.lit (.int .i64 0)) = .lit (.int .i64 c1) from hat _] at h1
                    injection h1 with h1
                    injection h1
                  have HHS := Lib.hid (show has Dp (kI s) = true from hh)
                  have HLS := Lib.hid (show left (kI s) = true from hlx)
                  have HRG1 := Lib.hid hrg1
                  have HLT1 := Lib.hid hlt1
                  have HG1 := Lib.hid hg1
                  have HGW1 := Lib.hid (HGW.out.andThen hg1 (fun j hj => by cases hj; exact Or.inl (Nat.le_refl _)))
                  have y3 : w1.cell? ⟨w.heap.size, k1 + 1, none⟩ = some (.map (some b0)) := by
                    rw [HGW1.out.cell_far _ (lt_of_cell y2) (fun e => HNER.out (Option.some.inj e).symm)]
                    exact y2
                  have HO1 : Hid (OM w1 b0 n' D) := Lib.hid (HOM.out.kept hg1 (fun e => by have e := Option.some.inj e; have := HLT0.out; omega))
                  have hsr := HSR.out
                  have hst := HSTL.out
                  have hwk : IntKind.i64.wrap ((s : Int) + (r : Int)) = ((s + r : Nat) : Int) := by rw [show (s : Int) + (r : Int) = ((s + r : Nat) : Int) by push_cast; rfl]; exact IntWalk.i64_in _ (by omega)
                  have hwfk : (Lit.int .i64 ((s + r : Nat) : Int)).wf = true := WalkArith.wf_i64 (by omega)
                  have HSRL : Hid (s + r ≤ st (i + 1)) := Lib.hid (by omega)
                  have hn'm : n' < maxLen := by have h1 := HNC.out; have h2 := HP1.out; unfold maxLen; omega
                  have HWC : Hid (c1 = wy i k1 s) := Lib.hid hc1
                  clear hc1 hx0 hx1 hat hh hlx hrg1 hlt1 hg1 hsr hst
                  have hpa := part_at (f0 := wy i (k1 + 1)) (fp := wy i k1) (r := r) (Dp := Dp) HLS.out
                  have HST : Hid (∀ x, updF (partF (wy i (k1 + 1)) (wy i k1) r Dp left) (s + r) (IntKind.i64.wrap (wy i (k1 + 1) (s + r) + wy i k1 s)) x = partF (wy i (k1 + 1)) (wy i k1) r Dp (fun z => left z && !z.sameKey (kI s)) x) := Lib.hid fun x => part_step HHS.out x
                  have HM2 := Lib.hid fun (v : Int) => mapIs_put HMI.out HSRL.out (Nat.le_refl _) v
                  have HPA := Lib.hid hpa
                  clear hpa
                  generalize hsum : s + r = sr at *
                  have HSUM := Lib.hid hsum
                  clear hsum
                  go_wp2_with first
                    | (at_lookup; refine wpList_lookup_own_int _ rfl _ _ 63 rfl 2 2 .i64 keyed Try.underlying63 Try.underlying2 (zeroI _) b0 n' _ rfl HO1.out _ _ rfl (keyOf_int_mk Try.underlying2 hwfk) ?_; intro c2 hat2 hwc2)
                    | (at_mapUpdate; refine wpList_mapUpdate_own _ rfl _ _ _ 63 rfl 2 2 keyed Try.underlying63 _ b0 n' _ rfl HO1.out hn'm _ _ _ rfl rfl (keyOf_int_mk Try.underlying2 hwfk) _ [] (plainElem_int Try.underlying2 (wrap64_wf _)) ?_; intro w5 hown5 hgrow5)
                  have hc2 : c2 = wy i (k1 + 1) sr := by
                    have h1 := HMI.out.2.2 sr
                    rw [show D.atKey (kI sr) (.lit (.int .i64 0)) = .lit (.int .i64 c2) from hat2, HPA.out] at h1
                    injection h1 with h1
                    injection h1
                  have e2 := HWC.out
                  subst hc2 e2
                  have H9 : Hid (MapIs (D.put (kI sr) (.lit (.int .i64 (wrap64 (wy i (k1 + 1) sr + wy i k1 s))))) (partF (wy i (k1 + 1)) (wy i k1) r Dp (fun z => left z && !z.sameKey (kI s))) (st (i + 1))) := Lib.hid (w64 _ ▸ mapIs_congr (HM2.out _) HST.out)
                  have G9 := Lib.hid (HGW1.out.andThen hgrow5 (fun j hj => by cases hj; exact Or.inr rfl))
                  have R9 := Lib.hid (HRG1.out.kept hgrow5 (fun e => HNE.out (Option.some.inj e)) (fun e => by have e := Option.some.inj e; have := HLT0.out; omega))
                  have O9 := Lib.hid hown5
                  clear hown5 hgrow5
                  go_wp2_with fail
                  go_roundw
                  case rel => refine ⟨_, _, R9.out, n' + 1, _, O9.out, by have := HNC.out; have := HLT1.out; omega, H9.out, G9.out⟩
                  case measure => rw [R9.out.left_eq, HRG.out.left_eq]; exact HLT1.out
            · obtain rfl : k = 0 := by omega
              have M9 : Hid (MW wk w.heap.size (many + 1) w.heap.size (many + 1) bl (fun q x => wy (i + 1) q x) (fun _ => st (i + 1)) (fun _ => 2 ^ (i + 1))) := Lib.hid (MM.out.congr (fun q x hq => by
                show (if 0 < q then wy (i + 1) q x else wy i q x) = wy (i + 1) q x
                by_cases hq0 : 0 < q
                · rw [if_pos hq0]
                · obtain rfl : q = 0 := by omega
                  rw [if_neg hq0]
                  exact (HWZi.out x).symm) (fun q hq => by
                show (if 0 < q then st (i + 1) else st i) ≤ st (i + 1)
                have := HSR.out
                split <;> omega) (fun q hq => by
                show (if 0 < q then 2 ^ (i + 1) else 2 ^ i) ≤ 2 ^ (i + 1)
                split
                · exact Nat.le_refl _
                · exact Nat.pow_le_pow_right (by omega) (by omega)))
              clear MM
              go_wp2_with fail
              go_roundw
              case rel => exact ⟨i + 1, by omega, by go_num, M9.out, B.out⟩
              case measure => simp [intOf]; omega
        · obtain rfl : i = N := by omega
          obtain ⟨D, hd, hi9⟩ := MM.out.m many (by omega)
          have y0 := MM.out.cell (q := many) (by omega) (Nat.le_refl _)
          have HD := Lib.hid hd
          have HI : Hid (MapIs D (wy i many) tot) := Lib.hid (HSE.out ▸ hi9)
          clear hd hi9 MM
          go_wp2_with fail
          go_ret
          exact ⟨_, _, rfl, HD.out, HI.out, B.out⟩
end Go.Proofs.Ytmpnfjajlmafgaa
