/-
  impl.eachTable, whole.
-/
import Derived.Test.YtbpigeipjeegiaaFt
import Derived.Test.YtbpigeipjeegiaaEx
import Derived.Laws.EntriesVeiled
namespace Go.Proofs.Ytbpigeipjeegiaa
open Go Go.RowKit

theorem tabs_sum : ∀ (rs lim t : List Nat), t ∈ tabs rs lim → t.sum = rs.sum
  | [], lim, t, h => by
    unfold tabs at h
    split at h
    · rw [List.mem_singleton] at h
      subst h
      rfl
    · cases h
  | r :: rs, lim, t, h => by
    have h' : t ∈ List.flatMap (fun row => (tabs rs (subL lim row)).map (row ++ ·)) (rowsOf lim r) := h
    rw [List.mem_flatMap] at h'
    obtain ⟨row, h1, h2⟩ := h'
    rw [List.mem_map] at h2
    obtain ⟨q, h3, rfl⟩ := h2
    have e1 := (mem_rowsOf lim r row h1).2.2
    have e2 := tabs_sum rs _ q h3
    show (row ++ q).sum = _
    rw [List.sum_append, List.sum_cons, e1, e2]
theorem rows_take (xs : List Nat) (C : Nat) : ∀ R, ((List.range R).map fun k => (chN xs C k).sum).sum = (xs.take (R * C)).sum
  | 0 => by simp
  | R + 1 => by
    rw [List.range_succ, List.map_append, List.sum_append, rows_take xs C R, Nat.add_mul, Nat.one_mul, List.take_add, List.sum_append]
    simp [chN]
theorem rows_sum {xs : List Nat} {R C : Nat} (hx : xs.length = R * C) : (rowsS xs R C).sum = xs.sum := by
  unfold rowsS
  rw [rows_take, List.take_of_length_le (by omega)]
theorem rowsS_len (xs : List Nat) (R C : Nat) : (rowsS xs R C).length = R := by simp [rowsS]
theorem colsS_len (xs : List Nat) (C : Nat) : (colsS xs C).length = C := by simp [colsS]
theorem rowsS_le {xs : List Nat} {R C i : Nat} (hi : i < R) : (rowsS xs R C)[i]! ≤ xs.sum := by
  rw [getElem!_pos _ i (by rw [rowsS_len]; exact hi)]
  simp only [rowsS, List.getElem_map, List.getElem_range]
  exact chN_sum xs C i
theorem colsS_le {xs : List Nat} {C i : Nat} (hi : i < C) : (colsS xs C)[i]! ≤ xs.sum := by
  rw [getElem!_pos _ i (by rw [colsS_len]; exact hi)]
  simp only [colsS, List.getElem_map, List.getElem_range]
  exact colsTo_sum (Nat.le_refl _) i
set_option maxRecDepth 100000 in
set_option maxHeartbeats 3200000 in
theorem eachTable_any {τ : Type} (U : τ → World → Prop) (nxT : τ → List Nat → τ) (us : List Nat) (gt ot R C ct : Nat) (q1 q2 q3 : Value) (xs : List Nat) (y : τ) (W : World) (hU : VF (VU U us) W.heap.size) (hTC : TC U nxT us W.heap.size R C q1 q2 q3 (fun cnt => cnt.sum ≤ 60))
    (hR : 1 ≤ R ∧ R ≤ 4) (hC : 1 ≤ C ∧ C ≤ 4) (hx : xs.length = R * C) (hs : xs.sum ≤ 60) (hct : R * C ≤ ct) (hlt : gt < W.heap.size) (hc : ∀ i, i < R * C → W.cell? ⟨gt, ot + i, none⟩ = some (.int .i64 (xs[i]! : Nat))) (hy : U y W) (hus : ∀ b, b ∈ us → b < W.heap.size) :
    Calls Try.prog 33 #[.agg #[.int .i64 R, .int .i64 C, .slice (some ⟨gt, ot, none⟩) (R * C) ct], .func (.func 34) #[] #[q1, q2, q3]] W (fun e w' => e = .returned (.tuple #[]) ∧ U (goRows nxT [] (tabs (rowsS xs R C) (colsS xs C)) y) w' ∧ Kp us W w') := by
  have hRC : R * C ≤ 16 := by
    have := Nat.mul_le_mul hR.2 hC.2
    omega
  have hmf : ∀ (fn : Fn) (first cap : Array Value) (w : World), (Instr.makeFunc fn first cap).run Try.prog w = .ok (.func fn first cap) w := fun _ _ _ _ => rfl
  have HRS : Hid (∀ W', Below W.heap.size W W' → Calls Try.prog 18 #[.agg #[.int .i64 R, .int .i64 C, .slice (some ⟨gt, ot, none⟩) (R * C) ct]] W' (fun e w' => ∃ g c, e = .returned (.slice (some ⟨g, 0, none⟩) R c) ∧ W'.heap.size ≤ g ∧ w'.ownsRow 0 2 1 (.slice (some ⟨g, 0, none⟩) R c) R (nlv (rowsS xs R C)) ∧ Below W'.heap.size W' w')) := Lib.hid fun W' hb => rowSums_any gt ot R C ct xs W' hR hC hct hx (by omega) (by have := hb.size; omega) (fun i hi => keepC hb (hc i hi))
  have HCS : Hid (∀ W', Below W.heap.size W W' → Calls Try.prog 19 #[.agg #[.int .i64 R, .int .i64 C, .slice (some ⟨gt, ot, none⟩) (R * C) ct]] W' (fun e w' => ∃ g c, e = .returned (.slice (some ⟨g, 0, none⟩) C c) ∧ W'.heap.size ≤ g ∧ w'.ownsRow 0 2 1 (.slice (some ⟨g, 0, none⟩) C c) C (nlv (colsS xs C)) ∧ Below W'.heap.size W' w')) := Lib.hid fun W' hb => columnSums_any gt ot R C ct xs W' hC hx hRC (by omega) (by have := hb.size; omega) (fun i hi => keepC hb (hc i hi))
  have HPUT := Lib.hid fun bc bt bvis brows bput grw lrw => put_any U nxT us W.heap.size bc bt bvis brows bput R C q1 q2 q3 grw 0 lrw (rowsS xs R C) (fun cnt => cnt.sum ≤ 60) hU hTC hC hR hRC (rowsS_len xs R C) (fun i hi => Nat.le_trans (rowsS_le hi) (by omega)) (rowsS xs R C) [] rfl
  have HOK : Hid (∀ t, t ∈ tabs (rowsS xs R C) (colsS xs C) → ([] ++ t).sum ≤ 60) := Lib.hid fun t ht => by
    rw [List.nil_append, tabs_sum _ _ t ht, rows_sum hx]
    exact hs
  have HLB : Hid (∀ i, i < C → (colsS xs C)[i]! ≤ 100000) := Lib.hid fun i hi => Nat.le_trans (colsS_le hi) (by omega)
  have HRL := Lib.hid (rowsS_len xs R C)
  have HCL := Lib.hid (colsS_len xs C)
  have HU := Lib.hid hU
  have HY := Lib.hid hy
  have HUS := Lib.hid hus
  clear hU hTC hx hs hc hy hus
  generalize rowsS xs R C = rows at *
  generalize colsS xs C = cols at *
  generalize hRCg : R * C = RC at *
  have hbx : Below W.heap.size W ((W.alloc (.cells #[.int .i64 R, .int .i64 C, .slice (some ⟨gt, ot, none⟩) RC ct] 26)).alloc (.cells #[.func (.func 34) #[] #[q1, q2, q3]] 64)) := below_al (below_al (Below.refl _ _) _) _
  have X1 : Hid (∀ W1, W1 = (W.alloc (.cells #[.int .i64 R, .int .i64 C, .slice (some ⟨gt, ot, none⟩) RC ct] 26)).alloc (.cells #[.func (.func 34) #[] #[q1, q2, q3]] 64) → Below W.heap.size W W1 ∧ W1.heap.size = W.heap.size + 2 ∧ W1.cell? ⟨W.heap.size, 0, none⟩ = some (.int .i64 R) ∧ W1.cell? ⟨W.heap.size, 1, none⟩ = some (.int .i64 C) ∧ W1.cell? ⟨W.heap.size, 2, none⟩ = some (.slice (some ⟨gt, ot, none⟩) RC ct) ∧ W1.cell? ⟨W.heap.size + 1, 0, none⟩ = some (.func (.func 34) #[] #[q1, q2, q3])) := Lib.hid fun W1 hW => by
    subst hW
    exact ⟨hbx, by simp, cl_up _ (by simp), cl_up _ (by simp), cl_up _ (by simp), cl_new _ _ _ _ (by simp)⟩
  go_enter Try.func33, Try.ntmps33
  go_upto_region 1 with fail
  have X9 := Lib.hid (X1.out _ rfl)
  clear X1 hbx
  generalize World.alloc (World.alloc W _) _ = w1 at *
  have k1 := X9.out.2.2.1
  have k2 := X9.out.2.2.2.1
  have k3 := X9.out.2.2.2.2.1
  have hz1 := X9.out.2.1
  go_upto_region 4 with (go_at_call 18; refine (HRS.out _ X9.out.1).mono ?_; rintro e w2 ⟨gr, cr, rfl, hgr, hor, hb2⟩; have GR := Lib.hid hgr; have OR := Lib.hid hor; have B2 := Lib.hid hb2; clear hgr hor hb2)
  have X5 : Hid (∀ w5, w5 = (((w2.alloc (.cells #[] 2)).alloc (.cells #[.slice (some ⟨gr, 0, none⟩) R cr] 24)).alloc (.cells #[.slice (some ⟨w2.heap.size, 0, none⟩) 0 0] 24)).alloc (.cells #[.func (.func 42) #[] #[.pointer (some ⟨w2.heap.size + 2, 0, none⟩), .pointer (some ⟨W.heap.size, 0, none⟩), .pointer (some ⟨W.heap.size + 1, 0, none⟩), .pointer (some ⟨w2.heap.size + 1, 0, none⟩), .pointer (some ⟨w2.heap.size + 3, 0, none⟩)]] 52) →
      Below w2.heap.size w2 w5 ∧ w5.heap.size = w2.heap.size + 4 ∧ w5.cell? ⟨w2.heap.size + 1, 0, none⟩ = some (.slice (some ⟨gr, 0, none⟩) R cr) ∧ w5.cell? ⟨w2.heap.size + 2, 0, none⟩ = some (.slice (some ⟨w2.heap.size, 0, none⟩) 0 0) ∧ w5.frozen? ⟨w2.heap.size + 2, 0, none⟩ = false ∧ w5.ownsRow 0 2 1 (.slice (some ⟨w2.heap.size, 0, none⟩) 0 0) 0 [] ∧ w5.cell? ⟨w2.heap.size + 3, 0, none⟩ = some (.func (.func 42) #[] #[.pointer (some ⟨w2.heap.size + 2, 0, none⟩), .pointer (some ⟨W.heap.size, 0, none⟩), .pointer (some ⟨W.heap.size + 1, 0, none⟩), .pointer (some ⟨w2.heap.size + 1, 0, none⟩), .pointer (some ⟨w2.heap.size + 3, 0, none⟩)])) := Lib.hid fun w5 hW => by
    subst hW
    refine ⟨?_, by simp, ?_, ?_, ?_, ?_, ?_⟩
    · repeat (first | exact Below.refl _ _ | refine below_al ?_ _)
    · repeat (first | exact cl_new _ _ _ _ (by simp) | refine cl_up _ ?_)
    · repeat (first | exact cl_new _ _ _ _ (by simp) | refine cl_up _ ?_)
    · exact fz_up _ (by simp) (fz_new _ _ _ _ (by simp))
    · exact ow_up _ (ow_up _ (ow_up _ (ow_nil _ _ _ rfl)))
    · repeat (first | exact cl_new _ _ _ _ (by simp) | refine cl_up _ ?_)
  have Y5 := Lib.hid (X5.out _ rfl)
  clear X5
  generalize World.alloc (World.alloc (World.alloc (World.alloc w2 _) _) _) _ = w5 at *
  have hz2 := B2.out.size
  have hz5 := Y5.out.2.1
  have hgr1 := GR.out
  have hgr2 := own_ltg OR.out
  have hb5 : Below W.heap.size W w5 := (X9.out.1.trans (B2.out.mono (by omega))).trans (Y5.out.1.mono (by omega))
  have HB5 := Lib.hid hb5
  have E5 : Hid (ES (VU U us) W.heap.size (w2.heap.size + 2) y us w2.heap.size 0 [] w5) := Lib.hid ⟨HU.out _ _ _ _ ⟨HY.out, rfl⟩ hb5.size (fun b hl _ => hb5.block b hl), Y5.out.2.2.2.1, Y5.out.2.2.2.2.1, Y5.out.2.2.2.2.2.1, fun b hm => by have := HUS.out b hm; omega, fun hm => by have := HUS.out _ hm; omega, fun hm => by have := HUS.out _ hm; omega, by omega, by omega, by omega⟩
  have T5 : Hid (TRO (w2.heap.size + 2) W.heap.size (W.heap.size + 1) (w2.heap.size + 1) (w2.heap.size + 3) R C q1 q2 q3 gr 0 cr rows w5) := Lib.hid (by
    have h15 : Below w1.heap.size w1 w5 := B2.out.trans (Y5.out.1.mono B2.out.size)
    refine ⟨keepC h15 k1, keepC h15 k2, keepC h15 X9.out.2.2.2.2.2, ?_, fun i hi => ?_, Y5.out.2.2.2.2.2.2⟩
    · rw [HRL.out]
      exact Y5.out.2.2.1
    · rw [Nat.zero_add]
      refine keepC Y5.out.1 ?_
      rw [own_cellN OR.out hi, getElem!_pos rows i hi])
  have N5 : Hid (NB W.heap.size (W.heap.size + 1) (w2.heap.size + 1) gr (w2.heap.size + 3) ((w2.heap.size + 2) :: w2.heap.size :: us)) := Lib.hid (by
    have hn : ∀ b, W.heap.size ≤ b → b ∉ us := fun b hb hm => by have := HUS.out b hm; omega
    refine ⟨?_, ?_, ?_, ?_, ?_⟩ <;> (simp only [List.mem_cons, not_or]; refine ⟨by omega, by omega, hn _ (by omega)⟩))
  have HP : Hid (∀ W' gl lc, Below w5.heap.size w5 W' → w5.heap.size ≤ gl → W'.ownsRow 0 2 1 (.slice (some ⟨gl, 0, none⟩) C lc) C (nlv cols) → Calls Try.prog 42 #[.slice (some ⟨gl, 0, none⟩) C lc, .pointer (some ⟨w2.heap.size + 2, 0, none⟩), .pointer (some ⟨W.heap.size, 0, none⟩), .pointer (some ⟨W.heap.size + 1, 0, none⟩), .pointer (some ⟨w2.heap.size + 1, 0, none⟩), .pointer (some ⟨w2.heap.size + 3, 0, none⟩)] W' (fun e w' => e = .returned (.tuple #[]) ∧ U (goRows nxT [] (tabs rows cols) y) w' ∧ Kp us W w' ∧ Kp ((w2.heap.size + 2) :: w2.heap.size :: us) W' w')) := Lib.hid fun W' gl lc hb hgl ho => by
    have hng : gl ∉ (w2.heap.size + 2) :: w2.heap.size :: us := by
      simp only [List.mem_cons, not_or]
      refine ⟨by omega, by omega, fun hm => by have := HUS.out _ hm; omega⟩
    refine (HPUT.out (w2.heap.size + 2) W.heap.size (W.heap.size + 1) (w2.heap.size + 1) (w2.heap.size + 3) gr cr cols [] y w2.heap.size 0 gl 0 lc W' HCL.out HLB.out (by rw [HRL.out, hRCg]; simp [hRCg]) HOK.out (by have := hb.size; have := HB5.out.size; omega) (E5.out.keep HU.out hb) (T5.out.keep (by rw [HRL.out]; exact hR.1) (Kp.of_below (bs := []) hb) ⟨by simp, by simp, by simp, by simp, by simp⟩) N5.out hng (fun i hi => by rw [Nat.zero_add, own_cellN ho (by rw [HCL.out]; exact hi), getElem!_pos cols i (by rw [HCL.out]; exact hi)])).mono ?_
    rintro e w' ⟨rfl, gc', cc', hE', hK', -⟩
    refine ⟨rfl, hE'.v.1, ?_, hK'⟩
    refine (Kp.of_below (HB5.out.trans (hb.mono HB5.out.size))).trans hK' fun b hm => ?_
    simp only [List.mem_cons] at hm
    rcases hm with rfl | rfl | hm
    · exact .inr (by omega)
    · exact .inr (by omega)
    · exact .inl hm
  have HM : Hid (∀ W', Below w5.heap.size w5 W' → W'.cell? ⟨w2.heap.size + 3, 0, none⟩ = some (.func (.func 42) #[] #[.pointer (some ⟨w2.heap.size + 2, 0, none⟩), .pointer (some ⟨W.heap.size, 0, none⟩), .pointer (some ⟨W.heap.size + 1, 0, none⟩), .pointer (some ⟨w2.heap.size + 1, 0, none⟩), .pointer (some ⟨w2.heap.size + 3, 0, none⟩)]) ∧ W'.cell? ⟨W.heap.size, 0, none⟩ = some (.int .i64 R) ∧ W'.cell? ⟨W.heap.size, 1, none⟩ = some (.int .i64 C) ∧ W'.cell? ⟨W.heap.size, 2, none⟩ = some (.slice (some ⟨gt, ot, none⟩) RC ct)) := Lib.hid fun W' hb => by
    have h15 : Below w1.heap.size w1 w5 := B2.out.trans (Y5.out.1.mono B2.out.size)
    exact ⟨keepC hb Y5.out.2.2.2.2.2.2, keepC hb (keepC h15 k1), keepC hb (keepC h15 k2), keepC hb (keepC h15 k3)⟩
  have k0 := HM.out w5 (Below.refl _ _)
  clear k1 k2 k3 HPUT E5 T5 Y5 X9
  go_region_held3 (fun W' => W'.cell? ⟨w2.heap.size + 3, 0, none⟩ = some (.func (.func 42) #[] #[.pointer (some ⟨w2.heap.size + 2, 0, none⟩), .pointer (some ⟨W.heap.size, 0, none⟩), .pointer (some ⟨W.heap.size + 1, 0, none⟩), .pointer (some ⟨w2.heap.size + 1, 0, none⟩), .pointer (some ⟨w2.heap.size + 3, 0, none⟩)]) ∧ W'.cell? ⟨W.heap.size, 0, none⟩ = some (.int .i64 R) ∧ W'.cell? ⟨W.heap.size, 1, none⟩ = some (.int .i64 C) ∧ W'.cell? ⟨W.heap.size, 2, none⟩ = some (.slice (some ⟨gt, ot, none⟩) RC ct))
    (first | exact HM.out _ (Below.refl _ _) | exact HM.out _ (below_dr (Below.refl _ _)) | exact HM.out _ bk6 | exact kv7)
    (first
      | (go_at_call 42; refine (HP.out _ gl lc bk6 hgl6 ol6).mono ?_; rintro e w7 ⟨rfl, hu7, hk7, hk7'⟩; have U7 := Lib.hid (And.intro hu7 hk7); have kv7 := And.intro (hk7'.cell (HM.out _ bk6).1 N5.out.2.2.2.2) (And.intro (hk7'.cell (HM.out _ bk6).2.1 N5.out.1) (And.intro (hk7'.cell (HM.out _ bk6).2.2.1 N5.out.1) (hk7'.cell (HM.out _ bk6).2.2.2 N5.out.1))); clear hu7 hk7 hk7')
      | (go_at_call 19; refine (HCS.out _ (by first | exact HB5.out | exact below_dr HB5.out)).mono ?_; rintro e w6 ⟨gl, lc, rfl, hgl, hol, hb6⟩; have bk6 : Below w5.heap.size w5 w6 := (by first | exact hb6 | exact below_next (below_dr (Below.refl _ _)) hb6); have ol6 := hol; have hgl6 : w5.heap.size ≤ gl := hgl; clear hol hgl hb6))
  go_wp2_with fail
  go_end0
  exact ⟨rfl, U7.out.1, U7.out.2⟩
end Go.Proofs.Ytbpigeipjeegiaa

