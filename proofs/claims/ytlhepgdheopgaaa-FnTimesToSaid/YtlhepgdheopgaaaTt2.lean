/-
  impl.ChancesTo.
-/
import Derived.Test.YtlhepgdheopgaaaTt1
namespace Go.Proofs.Ytlhepgdheopgaaa
open Go Go.RowKit Ieee
attribute [local go_sem] run_store_float

def chB (side : Int) (xs : List Nat) (goal other : Int) : Bool := validB side xs && (stateB side goal && (stateB side other && !(goal == other)))

set_option maxRecDepth 100000 in
set_option maxHeartbeats 3200000 in
theorem ChancesTo_bad (side goal other : Int) (A : Option Addr) (xs : List Nat) (c : Nat) (w : World) (hx : xs.length ≤ c) (hc : c ≤ 9223372036854775807) (hA : Rd w w.heap.size A (fl xs)) (hb : chB side xs goal other = false) :
    Calls Try.prog 29 #[.agg #[.int .i64 side, .slice A xs.length c], .int .i64 goal, .int .i64 other] w (flOut [] false w) := by
  have HV := Lib.hid fun W h => ValidChain_any side A xs c W hx hc h
  have HI := Lib.hid fun i W (hn : 1 ≤ side ∧ side ≤ 12) => isState_any side i A xs.length c W hn
  unfold chB at hb
  have hA1 := hA.at_ (below_al (below_al (Below.refl w.heap.size w) (.cells #[.int .i64 side, .slice A xs.length c] 26)) (.cells #[.int .i64 goal] 2))
  have HA1 := Lib.hid hA1
  clear hA1
  cases hv : validB side xs with
  | false =>
    rw [hv] at HV
    clear hb hv HI
    go_enter Try.func29, Try.ntmps29
    go_wp2_with (go_at_call 20; refine (HV.out _ HA1.out).mono ?_; rintro e w1 ⟨rfl, hb1⟩)
    refine bodyPost_ret (v := .tuple #[.slice none 0 0, .bool false]) (by simp [results, Try.results29, go_sem]) rfl ?_
    exact flOut_none (below_next (below_al (below_al (Below.refl _ _) _) _) hb1)
  | true =>
    rw [hv, Bool.true_and] at hb
    obtain ⟨n', hn', hn1, hn2, hl, hp, hrw⟩ := validB_facts hv
    have HI1 := Lib.hid fun W => HI.out goal W (by omega)
    have HI2 := Lib.hid fun W => HI.out other W (by omega)
    rw [hv] at HV
    clear hv HI hl hp hrw hn' hn1 hn2
    cases h1 : stateB side goal with
    | false =>
      rw [h1] at HI1
      clear hb h1 HI2
      go_enter Try.func29, Try.ntmps29
      go_wp2_with (go_at_call 20; refine (HV.out _ HA1.out).mono ?_; rintro e w1 ⟨rfl, hb1⟩; have z0 : w1.cell? ⟨w.heap.size, 0, none⟩ = some (.int .i64 side) := keepC hb1 (by simp [go_sem]); have z1 : w1.cell? ⟨w.heap.size, 1, none⟩ = some (.slice A xs.length c) := keepC hb1 (by simp [go_sem]); have z2 : w1.cell? ⟨w.heap.size + 1, 0, none⟩ = some (.int .i64 goal) := keepC hb1 (by simp [go_sem]))
      have B1 := Lib.hid (below_next (below_al (below_al (Below.refl _ _) _) _) hb1)
      clear hb1
      go_wp2_with (go_at_call 64; refine (HI1.out _).mono ?_; rintro e w2 ⟨rfl, hb2⟩)
      refine bodyPost_ret (v := .tuple #[.slice none 0 0, .bool false]) (by simp [results, Try.results29, go_sem]) rfl ?_
      exact flOut_none (below_next B1.out hb2)
    | true =>
      rw [h1, Bool.true_and] at hb
      rw [h1] at HI1
      cases h2 : stateB side other with
      | false =>
        rw [h2] at HI2
        clear hb h1 h2
        go_enter Try.func29, Try.ntmps29
        go_wp2_with (go_at_call 20; refine (HV.out _ HA1.out).mono ?_; rintro e w1 ⟨rfl, hb1⟩; have z0 : w1.cell? ⟨w.heap.size, 0, none⟩ = some (.int .i64 side) := keepC hb1 (by simp [go_sem]); have z1 : w1.cell? ⟨w.heap.size, 1, none⟩ = some (.slice A xs.length c) := keepC hb1 (by simp [go_sem]); have z2 : w1.cell? ⟨w.heap.size + 1, 0, none⟩ = some (.int .i64 goal) := keepC hb1 (by simp [go_sem]))
        have B1 := Lib.hid (below_next (below_al (below_al (Below.refl _ _) _) _) hb1)
        clear hb1
        go_wp2_with (first
          | (go_at_call 64; with_reducible refine (HI1.out _).mono ?_; rintro e w2 ⟨rfl, hb2⟩; have z0 := keepC hb2 z0; have z1 := keepC hb2 z1; have z2 := keepC hb2 z2; have B2 := Lib.hid (below_next B1.out hb2); clear hb2)
          | (go_at_call 64; with_reducible refine (HI2.out _).mono ?_; rintro e w3 ⟨rfl, hb3⟩))
        refine bodyPost_ret (v := .tuple #[.slice none 0 0, .bool false]) (by simp [results, Try.results29, go_sem]) rfl ?_
        exact flOut_none (below_next B2.out hb3)
      | true =>
        rw [h2, Bool.true_and] at hb
        rw [h2] at HI2
        have he : goal = other := by simpa using hb
        subst he
        clear hb h1 h2
        go_enter Try.func29, Try.ntmps29
        go_wp2_with (go_at_call 20; refine (HV.out _ HA1.out).mono ?_; rintro e w1 ⟨rfl, hb1⟩; have z0 : w1.cell? ⟨w.heap.size, 0, none⟩ = some (.int .i64 side) := keepC hb1 (by simp [go_sem]); have z1 : w1.cell? ⟨w.heap.size, 1, none⟩ = some (.slice A xs.length c) := keepC hb1 (by simp [go_sem]); have z2 : w1.cell? ⟨w.heap.size + 1, 0, none⟩ = some (.int .i64 goal) := keepC hb1 (by simp [go_sem]))
        have B1 := Lib.hid (below_next (below_al (below_al (Below.refl _ _) _) _) hb1)
        clear hb1
        go_wp2_with (first
          | (go_at_call 64; with_reducible refine (HI1.out _).mono ?_; rintro e w2 ⟨rfl, hb2⟩; have z0 := keepC hb2 z0; have z1 := keepC hb2 z1; have z2 := keepC hb2 z2; have B2 := Lib.hid (below_next B1.out hb2); clear hb2)
          | (go_at_call 64; with_reducible refine (HI2.out _).mono ?_; rintro e w3 ⟨rfl, hb3⟩; have z2 := keepC hb3 z2))
        refine bodyPost_ret (v := .tuple #[.slice none 0 0, .bool false]) (by simp [results, Try.results29, go_sem]) rfl ?_
        exact flOut_none (below_next B2.out hb3)

set_option maxRecDepth 100000 in
set_option maxHeartbeats 3200000 in
theorem ChancesTo_ok (n g o : Nat) (A : Option Addr) (xs : List Nat) (c : Nat) (w : World) (hx : xs.length ≤ c) (hc : c ≤ 9223372036854775807) (hA : Rd w w.heap.size A (fl xs)) (hv : validB n xs = true) (hg : g < n) (ho : o < n) (hgo : g ≠ o) :
    Calls Try.prog 29 #[.agg #[.int .i64 n, .slice A xs.length c], .int .i64 g, .int .i64 o] w (flOut ((chancesN xs n g o).getD []) (chancesN xs n g o).isSome w) := by
  obtain ⟨n', hn', hn1, hn2, hl, hp, hrw⟩ := validB_facts hv
  obtain rfl : n = n' := by omega
  obtain ⟨i0, hi0, hz0, hz1, hz2⟩ := info_parts info_f32
  have hmk := run_make_row (P := Try.prog) 24 31 i0 (.float .f32 0) Try.underlying24 hi0 hz0 hz1 rfl .i64 .i64 n (by rw [hz2]; omega) (by omega)
  have HV := Lib.hid fun W h => ValidChain_any n A xs c W hx hc h
  rw [hv] at HV
  have HI := Lib.hid fun (i : Nat) (W : World) (hi : i < n) => show Calls Try.prog 64 #[.agg #[.int .i64 n, .slice A xs.length c], .int .i64 i] W (fun e w' => e = .returned (.bool true) ∧ Below W.heap.size W w') from by
    have := isState_any n i A xs.length c W (by omega)
    rw [show stateB n i = true from decide_eq_true (by omega)] at this
    exact this
  have HB := Lib.hid fun W A' c' h => statesBut_any n ⟨hn1, hn2⟩ A xs.length c A' [(g : Int), (o : Int)] c' W (by simp) h
  rw [(openL_N n [(g : Int), (o : Int)]).1, (openL_N n [(g : Int), (o : Int)]).2] at HB
  have HAV : Hid (∀ b0 b1 sg cs G W, Rd W W.heap.size A (fl xs) → Rd W W.heap.size (some ⟨sg, 0, none⟩) (nlv (openN n [(g : Int), (o : Int)])) → W.rowIs G 31 n (fun i => .float .f32 (if i = g then oneF else 0)) → (0 < (openN n [(g : Int), (o : Int)]).length → sg ≠ G) → W.cell? ⟨b0, 0, none⟩ = some (.int .i64 n) → W.cell? ⟨b0, 1, none⟩ = some (.slice A xs.length c) → W.cell? ⟨b1, 0, none⟩ = some (.int .i64 g) →
      Calls Try.prog 65 #[.agg #[.int .i64 n, .slice A xs.length c], .slice (some ⟨sg, 0, none⟩) (openN n [(g : Int), (o : Int)]).length cs, .slice (some ⟨G, 0, none⟩) n n, .func (.func 68) #[] #[.pointer (some ⟨b0, 0, none⟩), .pointer (some ⟨b1, 0, none⟩)]] W (avOut (solM (cofM xs n (openN n [(g : Int), (o : Int)]) (fun i => stepOf xs n i g)) (openN n [(g : Int), (o : Int)]).length) (openN n [(g : Int), (o : Int)]) (fun i => if i = g then oneF else 0) n G W)) := Lib.hid fun b0 b1 sg cs G W h1 h2 h3 h4 h5 h6 h7 =>
    averages_chances n _ _ A xs c (openN n [(g : Int), (o : Int)]) sg cs G (fun i => if i = g then oneF else 0) (fun i => stepOf xs n i g) W ⟨hn1, hn2⟩ hl hp h1 h2 (openN_le _ _) (fun i hi => (openN_lt hi).1) (fun i k hi hk => openN_inj hi hk) h3 h4 (fun W' hW i hi => chances1_any n i g b0 b1 A xs c W' hn2 hi hg hl (h1.at_ hW) (keepC hW h5) (keepC hW h6) (keepC hW h7))
  have HFIN : Hid (∀ wb G W e w9, avOut (solM (cofM xs n (openN n [(g : Int), (o : Int)]) (fun i => stepOf xs n i g)) (openN n [(g : Int), (o : Int)]).length) (openN n [(g : Int), (o : Int)]) (fun i => if i = g then oneF else 0) n G W e w9 → Below wb.heap.size wb W → wb.heap.size ≤ G → flOut ((chancesN xs n g o).getD []) (chancesN xs n g o).isSome wb e w9) := Lib.hid fun wb G W e w9 h hb hG => av_fin h hb hG hn2
  have HA := Lib.hid hA
  generalize avOut (solM (cofM xs n (openN n [(g : Int), (o : Int)]) (fun i => stepOf xs n i g)) (openN n [(g : Int), (o : Int)]).length) (openN n [(g : Int), (o : Int)]) (fun i => if i = g then oneF else 0) n = AV at *
  generalize openN n [(g : Int), (o : Int)] = ls at *
  generalize chancesN xs n g o = T at *
  have hA1 := HA.out.at_ (below_al (below_al (Below.refl w.heap.size w) (.cells #[.int .i64 n, .slice A xs.length c] 26)) (.cells #[.int .i64 g] 2))
  have HA1 := Lib.hid hA1
  have hge : ((g : Int) == (o : Int)) = false := by rw [Bool.eq_false_iff, ne_eq, beq_iff_eq]; omega
  clear hx hc hA hA1 hv hn' hl hp hrw hi0 hz0 hz1 hz2 hgo
  go_enter Try.func29, Try.ntmps29
  go_wp2_with (go_at_call 20; refine (HV.out _ HA1.out).mono ?_; rintro e w1 ⟨rfl, hb1⟩; have z0 : w1.cell? ⟨w.heap.size, 0, none⟩ = some (.int .i64 n) := keepC hb1 (by simp [go_sem]); have z1 : w1.cell? ⟨w.heap.size, 1, none⟩ = some (.slice A xs.length c) := keepC hb1 (by simp [go_sem]); have z2 : w1.cell? ⟨w.heap.size + 1, 0, none⟩ = some (.int .i64 g) := keepC hb1 (by simp [go_sem]))
  have B1 := Lib.hid (below_next (below_al (below_al (Below.refl _ _) _) _) hb1)
  clear hb1
  go_upto_region 3 with (first
    | (go_at_call 64; with_reducible refine (HI.out g _ hg).mono ?_; rintro e w2 ⟨rfl, hb2⟩; have z0 := keepC hb2 z0; have z1 := keepC hb2 z1; have z2 := keepC hb2 z2; have B2 := Lib.hid (below_next B1.out hb2); clear hb2)
    | (go_at_call 64; with_reducible refine (HI.out o _ ho).mono ?_; rintro e w3 ⟨rfl, hb3⟩; have z0 := keepC hb3 z0; have z1 := keepC hb3 z1; have z2 := keepC hb3 z2; have B3 := Lib.hid (below_next B2.out hb3); clear hb3))
  clear HV HI
  have hz3 := B3.out.size
  have hgl0 : w.heap.size + 1 < w3.heap.size := lt_of_cell (a := ⟨w.heap.size + 1, 0, none⟩) z2
  go_upto_region 4 with fail
  have R4 := Lib.hid (row_new w3 n w3.heap.size rfl)
  have Z4 := Lib.hid (show (w3.alloc (.cells (madeCells #[.float .f32 0] n) 31)).cell? ⟨w.heap.size, 0, none⟩ = some (.int .i64 n) ∧ (w3.alloc (.cells (madeCells #[.float .f32 0] n) 31)).cell? ⟨w.heap.size, 1, none⟩ = some (.slice A xs.length c) ∧ (w3.alloc (.cells (madeCells #[.float .f32 0] n) 31)).cell? ⟨w.heap.size + 1, 0, none⟩ = some (.int .i64 g) from ⟨keepC (below_al (Below.refl _ _) _) z0, keepC (below_al (Below.refl _ _) _) z1, keepC (below_al (Below.refl _ _) _) z2⟩)
  have B4 := Lib.hid (below_al B3.out (.cells (madeCells #[.float .f32 0] n) 31))
  have HG3 : Hid (w.heap.size + 1 < w3.heap.size) := Lib.hid (lt_of_cell (a := ⟨w.heap.size + 1, 0, none⟩) z2)
  have HZ3 : Hid (∀ W, Below w3.heap.size w3 W → W.cell? ⟨w.heap.size, 0, none⟩ = some (.int .i64 n) ∧ W.cell? ⟨w.heap.size, 1, none⟩ = some (.slice A xs.length c) ∧ W.cell? ⟨w.heap.size + 1, 0, none⟩ = some (.int .i64 g)) := Lib.hid fun W hW => ⟨keepC hW z0, keepC hW z1, keepC hW z2⟩
  have B34 := Lib.hid (below_al (Below.refl w3.heap.size w3) (.cells (madeCells #[.float .f32 0] n) 31))
  clear z0 z1 z2
  generalize World.alloc w3 _ = w4 at *
  have hgl : w.heap.size + 1 < w3.heap.size := HG3.out
  obtain ⟨z0, z1, z2⟩ := Z4.out
  have y2 := R4.out.cell hg
  have f2 := R4.out.frozen g
  have hgi : (g : Int) < (n : Int) := by omega
  go_upto_region 5 with fail
  have R5 : Hid ((w4.setCell ⟨w3.heap.size, g, none⟩ (.float .f32 1065353216)).rowIs w3.heap.size 31 n (fun i => .float .f32 (if i = g then oneF else 0))) := Lib.hid ((R4.out.set g _).congr fun i _ => by
    show (if i = g then Value.float .f32 1065353216 else Value.float .f32 0) = Value.float .f32 (if i = g then oneF else 0)
    split <;> rfl)
  have Z5 := Lib.hid (show (w4.setCell ⟨w3.heap.size, g, none⟩ (.float .f32 1065353216)).cell? ⟨w.heap.size, 0, none⟩ = some (.int .i64 n) ∧ (w4.setCell ⟨w3.heap.size, g, none⟩ (.float .f32 1065353216)).cell? ⟨w.heap.size, 1, none⟩ = some (.slice A xs.length c) ∧ (w4.setCell ⟨w3.heap.size, g, none⟩ (.float .f32 1065353216)).cell? ⟨w.heap.size + 1, 0, none⟩ = some (.int .i64 g) from
    ⟨(World.cell?_setCell_other _ _ _ _ (fun e => by have e : w3.heap.size = w.heap.size := by injection e
                                                     omega)).trans z0, (World.cell?_setCell_other _ _ _ _ (fun e => by have e : w3.heap.size = w.heap.size := by injection e
                                                                                                                       omega)).trans z1, (World.cell?_setCell_other _ _ _ _ (fun e => by have e : w3.heap.size = w.heap.size + 1 := by injection e
                                                                                                                                                                                         omega)).trans z2⟩)
  have B5 := Lib.hid (below_set B4.out ⟨w3.heap.size, g, none⟩ (.float .f32 1065353216) (by show w.heap.size ≤ w3.heap.size; omega))
  have B35 := Lib.hid (below_set B34.out ⟨w3.heap.size, g, none⟩ (.float .f32 1065353216) (Nat.le_refl _))
  generalize World.setCell w4 _ _ = w5 at *
  clear z0 z1 z2 y2 f2 R4 Z4 B4
  obtain ⟨z0, z1, z2⟩ := Z5.out
  have HZ : Hid (∀ W, Below w5.heap.size w5 W → W.cell? ⟨w.heap.size, 0, none⟩ = some (.int .i64 n) ∧ W.cell? ⟨w.heap.size, 1, none⟩ = some (.slice A xs.length c) ∧ W.cell? ⟨w.heap.size + 1, 0, none⟩ = some (.int .i64 g)) := Lib.hid fun W hW => ⟨keepC hW z0, keepC hW z1, keepC hW z2⟩
  have HGL : Hid (w3.heap.size < w5.heap.size) := Lib.hid R5.out.lt
  go_region_held3 (fun W => W.cell? ⟨w.heap.size, 0, none⟩ = some (.int .i64 n) ∧ W.cell? ⟨w.heap.size, 1, none⟩ = some (.slice A xs.length c) ∧ W.cell? ⟨w.heap.size + 1, 0, none⟩ = some (.int .i64 g))
    (first | exact HZ3.out _ bk9 | (refine HZ.out _ ?_; repeat (first | exact Below.refl _ _ | exact bk5 | refine below_al ?_ _ | refine below_dr ?_)))
    (first
      | (go_at_call 65; refine (HAV.out _ _ _ _ _ _ (HA.out.at_ (below_next B5.out bk5)) RD5.out (R5.out.of_block (bk5.block _ HGL.out)) (fun h0 => by have h1 := HS5.out; have h2 := HGL.out; simp at h1; omega) (HZ.out _ bk5).1 (HZ.out _ bk5).2.1 (HZ.out _ bk5).2.2).mono ?_; intro e w9 h9; have f9 := HFIN.out w3 _ _ _ _ h9 (below_next B35.out bk5) (Nat.le_refl _); clear h9; obtain ⟨A9, c9, rfl, ho9, bk9⟩ := f9; have O9 := Lib.hid ho9; clear ho9)
      | (go_at_call 66; refine (HB.out _ _ _ (by first | (refine rd_new _ [(g : Int), (o : Int)] _ ?_; first | rfl | (simp; done)))).mono ?_; rintro e w6 ⟨sg, cap, rfl, hs5, hrd5, hb5⟩; have bk5 : Below w5.heap.size w5 w6 := below_next (by repeat (first | exact Below.refl _ _ | refine below_al ?_ _ | refine below_dr ?_)) hb5; have HS5 := Lib.hid hs5; have RD5 := Lib.hid hrd5; clear hs5 hrd5 hb5))
  all_goals
    go_wp2_with fail
    refine bodyPost_ret (v := .tuple #[.slice A9 (T.getD []).length c9, .bool T.isSome]) (by simp [results, Try.results29, go_sem]) rfl ?_
    exact ⟨A9, c9, rfl, own_base O9.out hz3, below_next B3.out bk9⟩
end Go.Proofs.Ytlhepgdheopgaaa

