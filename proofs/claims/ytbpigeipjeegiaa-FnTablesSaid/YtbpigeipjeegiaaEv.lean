/-
  impl.eachTable: all tables with the same sums are visited, one after another (the visitor is impl.tailOf's).
-/
import Derived.Test.YtbpigeipjeegiaaEu
import Derived.Test.YtbpigeipjeegiaaRi
import Derived.Deep.RegionHeld3
import Derived.Deep.DeepCutAuto
namespace Go.Proofs.Ytbpigeipjeegiaa
open Go Go.RowKit

theorem sum_cap (l : List Nat) (M : Nat) (h : ∀ i : Nat, i < l.length → l[i]! ≤ M) : l.sum ≤ l.length * M := by
  induction l with
  | nil => simp
  | cons a l ih =>
    have h0 : a ≤ M := by have := h 0 (by simp); simpa using this
    have h1 := ih fun i hi => by have := h (i + 1) (by simp; omega); simpa using this
    rw [List.sum_cons, List.length_cons, Nat.add_mul, Nat.one_mul]
    omega
/-- the tables' visitor's word -/
def TC {τ : Type} (U : τ → World → Prop) (nxT : τ → List Nat → τ) (us : List Nat) (B0 R C : Nat) (q1 q2 q3 : Value) (OKT : List Nat → Prop) : Prop :=
  ∀ (y : τ) (cnt : List Nat) (g c : Nat) (W : World), U y W → (∀ b, b ∈ us → b < W.heap.size) → g ∉ us → B0 ≤ g → W.ownsRow 0 2 1 (.slice (some ⟨g, 0, none⟩) (R * C) c) (R * C) (nlv cnt) → cnt.length = R * C → OKT cnt →
    Calls Try.prog 34 #[.agg #[.int .i64 R, .int .i64 C, .slice (some ⟨g, 0, none⟩) (R * C) c], q1, q2, q3] W (fun e w' => e = .returned (.tuple #[]) ∧ U (nxT y cnt) w' ∧ Kp us W w')
set_option maxRecDepth 100000 in
set_option maxHeartbeats 3200000 in
theorem put_any {τ : Type} (U : τ → World → Prop) (nxT : τ → List Nat → τ) (us : List Nat) (B0 bc bt bvis brows bput R C : Nat) (q1 q2 q3 : Value) (grw orw lrw : Nat) (rows : List Nat) (OKT : List Nat → Prop) (hU : VF (VU U us) B0) (hTC : TC U nxT us B0 R C q1 q2 q3 OKT)
    (hC : 1 ≤ C ∧ C ≤ 4) (hR : 1 ≤ R ∧ R ≤ 4) (hRC : R * C ≤ 16) (hrl : rows.length = R) (hrb : ∀ i, i < R → rows[i]! ≤ 100000) :
    ∀ (rs done : List Nat), rows = done ++ rs → PutOK U nxT us B0 bc bt bvis brows bput R C q1 q2 q3 grw orw lrw rows rs OKT
  | [], done, hd => by
    intro lim cnt y gc cc gl ol lc W hll hlb hcn hok hB hE hT hN hgl hl
    have hcl : cnt.length = R * C := by simpa using hcn
    have hq : ((R * C : Nat) : Int).tdiv (C : Int) = (R : Int) := by
      rw [Int.natCast_mul]
      exact Int.mul_tdiv_cancel _ (by omega)
    have e1 := hE.bc
    rw [hcl] at e1
    have e2 := hT.t0
    have e3 := hT.t1
    have e4 := hT.vis
    have hsum := sum_cap lim 100000 (by rw [hll]; exact hlb)
    have hglt : gl < W.heap.size := lt_of_cell (hl 0 (by omega))
    have hls : lim.sum ≤ 1048576 := by
      have : lim.length * 100000 ≤ 4 * 100000 := Nat.mul_le_mul_right _ (by omega)
      omega
    have HT := Lib.hid (total_any (some ⟨gl, ol, none⟩) lim lc (W.alloc (.cells #[.slice (some ⟨gl, ol, none⟩) C lc] 24)) (by omega) hls (fun h0 => ⟨gl, ol, rfl, by simp; omega, fun k hk => by
      rw [nlv_len] at hk
      refine (cl_up _ (hl k (by omega))).trans ?_
      rw [getElem!_pos lim k hk]
      simp [nlv]⟩))
    rw [hll] at HT
    have HE := Lib.hid hE
    have HTR := Lib.hid hT
    have HN := Lib.hid hN
    have HU := Lib.hid hU
    have HTC := Lib.hid hTC
    have HOK := Lib.hid hok
    have HB := Lib.hid hB
    have HCL := Lib.hid hcl
    clear hE hT hN hU hTC hok hl hlb hcn hcl hrb hd
    have hbcl : bc < W.heap.size := lt_of_cell e1
    have hbtl : bt < W.heap.size := lt_of_cell e2
    have hbvl : bvis < W.heap.size := lt_of_cell e4
    by_cases hz : lim.sum = 0
    · have hzi : ((lim.sum : Nat) : Int) = 0 := by omega
      have HG : Hid (goRows nxT cnt (tabs [] lim) y = nxT y cnt) := Lib.hid (by show goRows nxT cnt (if lim.sum = 0 then _ else _) y = _; rw [if_pos hz]; unfold goRows; simp)
      have HOK9 := Lib.hid (HOK.out [] (by show [] ∈ (if lim.sum = 0 then _ else _); rw [if_pos hz]; simp))
      rw [List.append_nil] at HOK9
      have h16 : 1 ≤ R * C := Nat.mul_pos hR.1 hC.1
      have hb1 := below_al (Below.refl W.heap.size W) (.cells #[.slice (some ⟨gl, ol, none⟩) C lc] 24)
      have E1 := Lib.hid (HE.out.keep HU.out hb1)
      have K1 := Lib.hid hb1
      have HM : Hid (∀ W', Below (W.alloc (.cells #[.slice (some ⟨gl, ol, none⟩) C lc] 24)).heap.size (W.alloc (.cells #[.slice (some ⟨gl, ol, none⟩) C lc] 24)) W' → W'.cell? ⟨bvis, 0, none⟩ = some (.func (.func 34) #[] #[q1, q2, q3]) ∧ W'.cell? ⟨bt, 0, none⟩ = some (.int .i64 R) ∧ W'.cell? ⟨bt, 1, none⟩ = some (.int .i64 C) ∧ W'.cell? ⟨bc, 0, none⟩ = some (.slice (some ⟨gc, 0, none⟩) (R * C) cc)) := Lib.hid fun W' hb => ⟨keepC hb (cl_up _ e4), keepC hb (cl_up _ e2), keepC hb (cl_up _ e3), keepC hb (cl_up _ e1)⟩
      have HCLO : Hid (∀ W', Below (W.alloc (.cells #[.slice (some ⟨gl, ol, none⟩) C lc] 24)).heap.size (W.alloc (.cells #[.slice (some ⟨gl, ol, none⟩) C lc] 24)) W' → Calls Try.prog 43 #[.slice (some ⟨gc, 0, none⟩) (R * C) cc] W' (fun e w' => ∃ g c', e = .returned (.slice (some ⟨g, 0, none⟩) (R * C) c') ∧ W'.heap.size ≤ g ∧ w'.ownsRow 0 2 1 (.slice (some ⟨g, 0, none⟩) (R * C) c') (R * C) (nlv cnt) ∧ Below W'.heap.size W' w')) := Lib.hid fun W' hb => by
        have ho := own_below E1.out.o hb
        have := cloneN_any gc 0 cnt cc W' (by have := HCL.out; omega) (by have := HCL.out; omega) (own_ltg ho) (fun i hi => by
          rw [Nat.zero_add, own_cellN ho hi, getElem!_pos cnt i hi])
        rw [HCL.out] at this
        exact this
      have HVI : Hid (∀ W1 W' gn cn, W1 = W.alloc (.cells #[.slice (some ⟨gl, ol, none⟩) C lc] 24) → Below W1.heap.size W1 W' → W1.heap.size ≤ gn → W'.ownsRow 0 2 1 (.slice (some ⟨gn, 0, none⟩) (R * C) cn) (R * C) (nlv cnt) → Calls Try.prog 34 #[.agg #[.int .i64 R, .int .i64 C, .slice (some ⟨gn, 0, none⟩) (R * C) cn], q1, q2, q3] W' (fun e w' => e = .returned (.tuple #[]) ∧ ES (VU U us) B0 bc (nxT y cnt) us gc cc cnt w' ∧ Kp (bc :: gc :: us) W w')) := Lib.hid fun W1 W' gn cn hW1 hb hgn ho => by
        subst hW1
        have E2 := E1.out.keep HU.out hb
        have hz1 := K1.out.size
        have hgu : gn ∉ us := fun hm => by have := HE.out.lt _ hm; omega
        refine (HTC.out y cnt gn cn W' E2.v.1 E2.lt hgu (by have := HB.out; omega) ho HCL.out HOK9.out).mono ?_
        rintro e w' ⟨rfl, hu, hk⟩
        refine ⟨rfl, E2.visit ⟨hu, rfl⟩ hk (fun b hm => ⟨.inl hm, Nat.lt_of_lt_of_le (E2.lt b hm) hk.size⟩), ?_⟩
        refine ((Kp.of_below (bs := bc :: gc :: us) K1.out).next hb).trans hk fun b hm => .inl (by simp [hm])
      clear HTC HOK HOK9 E1
      generalize hRCg : R * C = RC at *
      generalize hlsg : lim.sum = ls at *
      go_enter Try.func42, Try.ntmps42
      go_upto_region 4 with (go_at_call 23; refine HT.out.mono ?_; rintro e w1 ⟨rfl, rfl⟩)
      have HVI9 := Lib.hid fun W' gn cn => HVI.out _ W' gn cn rfl
      clear HVI HT
      generalize World.alloc W _ = w1 at *
      have k0 := (HM.out w1 (Below.refl _ _))
      go_region_held3 (fun W' => W'.cell? ⟨bvis, 0, none⟩ = some (.func (.func 34) #[] #[q1, q2, q3]) ∧ W'.cell? ⟨bt, 0, none⟩ = some (.int .i64 R) ∧ W'.cell? ⟨bt, 1, none⟩ = some (.int .i64 C) ∧ W'.cell? ⟨bc, 0, none⟩ = some (.slice (some ⟨gc, 0, none⟩) RC cc))
        (first | exact HM.out _ (Below.refl _ _) | exact HM.out _ (below_dr (Below.refl _ _)) | exact HM.out _ bk3 | exact kv4)
        (first
          | (go_at_call 34; refine (HVI9.out _ gn cn bk3 (by omega) on3).mono ?_; rintro e w4 ⟨rfl, hE4, hK4⟩; have E4 := Lib.hid hE4; have K4 := Lib.hid hK4; have kv4 : w4.cell? ⟨bvis, 0, none⟩ = some (.func (.func 34) #[] #[q1, q2, q3]) ∧ w4.cell? ⟨bt, 0, none⟩ = some (.int .i64 R) ∧ w4.cell? ⟨bt, 1, none⟩ = some (.int .i64 C) ∧ w4.cell? ⟨bc, 0, none⟩ = some (.slice (some ⟨gc, 0, none⟩) RC cc) := ⟨hK4.cell e4 HN.out.2.1, hK4.cell e2 HN.out.1, hK4.cell e3 HN.out.1, by have h9 := hE4.bc; rw [HCL.out] at h9; exact h9⟩; clear hE4 hK4)
          | (go_at_call 43; refine (HCLO.out _ (by first | exact Below.refl _ _ | exact below_dr (Below.refl _ _))).mono ?_; rintro e w3 ⟨gn, cn, rfl, hgn, hon, hb3⟩; have bk3 : Below w1.heap.size w1 w3 := (by first | exact hb3 | exact below_next (below_dr (Below.refl _ _)) hb3); have on3 := hon; have hgn3 : w1.heap.size ≤ gn := hgn; clear hon hgn hb3))
      go_wp2_with fail
      refine bodyPost_ret (results_none rfl _ _ _) rfl ?_
      refine ⟨rfl, gc, cc, ?_, K4.out, .inl rfl⟩
      rw [HG.out]
      exact E4.out
    · have hzi : ¬ ((lim.sum : Nat) : Int) = 0 := by omega
      have HG : Hid (goRows nxT cnt (tabs [] lim) y = y) := Lib.hid (by show goRows nxT cnt (if lim.sum = 0 then _ else _) y = y; rw [if_neg hz]; rfl)
      clear HTC HOK
      generalize hRCg : R * C = RC at *
      generalize lim.sum = ls at *
      go_enter Try.func42, Try.ntmps42
      go_wp2_with (go_at_call 23; refine HT.out.mono ?_; rintro e w1 ⟨rfl, rfl⟩)
      refine bodyPost_ret (results_none rfl _ _ _) rfl ?_
      refine ⟨rfl, gc, cc, ?_, Kp.of_below (below_al (Below.refl _ _) _), .inl rfl⟩
      rw [HG.out]
      exact HE.out.keep HU.out (below_al (Below.refl _ _) _)
  | r :: rs, done, hd => by
    intro lim cnt y gc cc gl ol lc W hll hlb hcn hok hB hE hT hN hgl hl
    have IH := put_any U nxT us B0 bc bt bvis brows bput R C q1 q2 q3 grw orw lrw rows OKT hU hTC hC hR hRC hrl hrb rs (done ++ [r]) (by rw [hd]; simp)
    have hdl : done.length + (rs.length + 1) = R := by rw [← hrl, hd]; simp
    have hcn' : cnt.length + (rs.length + 1) * C = R * C := hcn
    have hcl : cnt.length = done.length * C := by
      have h1 : (done.length + (rs.length + 1)) * C = done.length * C + (rs.length + 1) * C := Nat.add_mul _ _ _
      rw [hdl] at h1
      omega
    have hrk : rows[done.length]! = r := by
      rw [hd, getElem!_pos _ done.length (by simp)]
      simp
    have hr9 : r ≤ 100000 := by rw [← hrk]; exact hrb _ (by omega)
    have hq : ((cnt.length : Nat) : Int).tdiv (C : Int) = (done.length : Int) := by
      rw [hcl, Int.natCast_mul]
      exact Int.mul_tdiv_cancel _ (by omega)
    have e1 := hE.bc
    have e2 := hT.t0
    have e3 := hT.t1
    have e5 := hT.rw
    have e6 := hT.rr done.length (by rw [hrl]; omega)
    rw [hrk] at e6
    rw [hrl] at e5
    have hkR : ¬ ((done.length : Int) = (R : Int)) := by omega
    have hkz : (done.length : Int) < (R : Int) := by omega
    have hglt : gl < W.heap.size := lt_of_cell (hl 0 (by omega))
    have hbcl : bc < W.heap.size := lt_of_cell e1
    have hbtl : bt < W.heap.size := lt_of_cell e2
    have hcl16 : cnt.length ≤ 16 := by
      have := Nat.zero_le ((rs.length + 1) * C)
      omega
    have hmf : ∀ (fn : Fn) (first cap : Array Value) (w : World), (Instr.makeFunc fn first cap).run Try.prog w = .ok (.func fn first cap) w := fun _ _ _ _ => rfl
    have HGT := Lib.hid (goTabs nxT cnt r rs lim y)
    have HEACH : Hid (∀ W1 W', W1 = W.alloc (.cells #[.slice (some ⟨gl, ol, none⟩) C lc] 24) → Below W1.heap.size W1 W' → Calls Try.prog 27 #[.int .i64 r, .slice (some ⟨gl, ol, none⟩) C lc, .func (.func 44) #[] #[.pointer (some ⟨W.heap.size, 0, none⟩), .pointer (some ⟨bc, 0, none⟩), .pointer (some ⟨bput, 0, none⟩)]] W' (fun e w' => e = .returned (.tuple #[]) ∧ (∃ gc' cc', ES (VU U us) B0 bc (goRows nxT cnt (tabs (r :: rs) lim) y) us gc' cc' cnt w' ∧ Kp (bc :: gc :: us) W w' ∧ (gc' = gc ∨ W.heap.size ≤ gc')) ∧ Kp (bc :: gc :: us) W' w')) := Lib.hid fun W1 W' hW1 hb => by
      have hb1 := below_al (Below.refl W.heap.size W) (.cells #[.slice (some ⟨gl, ol, none⟩) C lc] 24)
      have hz1 : W1.heap.size = W.heap.size + 1 := by rw [hW1]; simp
      have hbb : Below W.heap.size W W' := by
        rw [hW1] at hb
        exact below_next hb1 hb
      have hbz := hb.size
      have hlts := hT.lts (by omega)
      have hnlim : W.heap.size ∉ bc :: gc :: us := by
        intro hm
        simp only [List.mem_cons] at hm
        have hgcl := own_ltg hE.o
        rcases hm with h | h | h
        · omega
        · omega
        · have := hE.lt _ h
          omega
      have hv : VL U us B0 bc bt bvis brows bput R C q1 q2 q3 grw orw lrw rows W.heap.size gl ol lc lim cnt y (bc :: gc :: us) W' := by
        refine ⟨gc, cc, rfl, hE.keep hU hbb, hT.keep (by omega) (Kp.of_below (bs := []) hbb) ⟨by simp, by simp, by simp, by simp, by simp⟩, hN, ?_, fun i hi => keepC hbb (hl i hi), hnlim, hgl⟩
        refine keepC hb ?_
        rw [hW1]
        exact cl_new W _ _ _ rfl
      have hV := visit_any U nxT us B0 bc bt bvis brows bput R C q1 q2 q3 grw orw lrw rows rs W.heap.size gl ol lc lim cnt r W'.heap.size hU OKT IH (fun row hrow t ht => by
        have := hok (row ++ t) (by
          show row ++ t ∈ List.flatMap _ _
          rw [List.mem_flatMap]
          exact ⟨row, hrow, List.mem_map.2 ⟨t, ht, rfl⟩⟩)
        rw [List.append_assoc]
        exact this) hC hll hlb hcn' hRC (by omega) (by omega)
      have hF := VL.frame (U := U) (us := us) (bt := bt) (bvis := bvis) (brows := brows) (bput := bput) (R := R) (C := C) (q1 := q1) (q2 := q2) (q3 := q3) (grw := grw) (orw := orw) (lrw := lrw) (rows := rows) (bc := bc) (bLim := W.heap.size) (gl := gl) (ol := ol) (lc := lc) (lim := lim) (cnt := cnt) (Bk := W'.heap.size) hU (by omega) (by omega) (by omega)
      have := eachRow_any _ _ gl ol lc _ _ _ lim r y (bc :: gc :: us) W' hV hF (by omega) (fun i hi => by have := hlb i (by omega); omega) (by omega) hv (fun b hm => by
        simp only [List.mem_cons] at hm
        have hgcl := own_ltg hE.o
        rcases hm with rfl | rfl | hm
        · omega
        · omega
        · have := hE.lt _ hm
          omega) ⟨hgl, by omega⟩ (fun i hi => keepC hbb (hl i (by omega)))
      rw [hll] at this
      refine this.mono ?_
      rintro e w' ⟨rfl, gs', ⟨gc', cc', rfl, hE', -, -, -, -, -, -⟩, hK', hS'⟩
      rw [← HGT.out] at hE'
      refine ⟨rfl, ⟨gc', cc', hE', (Kp.of_below hbb).trans hK' (fun b hm => .inl hm), ?_⟩, hK'⟩
      have h9 := (hS' gc' (by simp)).1
      have hbz2 := hbb.size
      rcases h9 with h9 | h9
      · simp only [List.mem_cons] at h9
        rcases h9 with h9 | h9 | h9
        · exact absurd h9.symm hE'.d3
        · exact .inl h9
        · exact absurd h9 hE'.d2
      · exact .inr (by omega)
    have HM : Hid (∀ W', Below (W.alloc (.cells #[.slice (some ⟨gl, ol, none⟩) C lc] 24)).heap.size (W.alloc (.cells #[.slice (some ⟨gl, ol, none⟩) C lc] 24)) W' → W'.cell? ⟨brows, 0, none⟩ = some (.slice (some ⟨grw, orw, none⟩) R lrw) ∧ W'.cell? ⟨grw, orw + done.length, none⟩ = some (.int .i64 r) ∧ W'.cell? ⟨W.heap.size, 0, none⟩ = some (.slice (some ⟨gl, ol, none⟩) C lc)) := Lib.hid fun W' hb => ⟨keepC hb (cl_up _ e5), keepC hb (cl_up _ e6), keepC hb (cl_new _ _ _ _ rfl)⟩
    have HNB := Lib.hid hN
    have HNL : Hid (W.heap.size ∉ bc :: gc :: us) := Lib.hid (by
      intro hm
      simp only [List.mem_cons] at hm
      have hgcl := own_ltg hE.o
      rcases hm with h | h | h
      · omega
      · omega
      · have := hE.lt _ h
        omega)
    have hbrw := lt_of_cell e5
    have hgrw := lt_of_cell e6
    clear IH hE hT hN hok hU hTC hl hlb hrb hrk hd hcn hcn' hcl hB hgl
    generalize done.length = k at *
    generalize hcg : cnt.length = cl at *
    clear hcg
    go_enter Try.func42, Try.ntmps42
    go_upto_region 5 with fail
    have HE9 := Lib.hid fun W' => HEACH.out _ W' rfl
    clear HEACH
    generalize World.alloc W _ = w1 at *
    have k0 := (HM.out w1 (Below.refl _ _))
    go_region_held3 (fun W' => W'.cell? ⟨brows, 0, none⟩ = some (.slice (some ⟨grw, orw, none⟩) R lrw) ∧ W'.cell? ⟨grw, orw + k, none⟩ = some (.int .i64 r) ∧ W'.cell? ⟨W.heap.size, 0, none⟩ = some (.slice (some ⟨gl, ol, none⟩) C lc))
      (first | exact HM.out _ (Below.refl _ _) | exact HM.out _ (below_dr (Below.refl _ _)) | exact kv4)
      (first
        | (go_at_call 27; refine (HE9.out _ (by first | exact Below.refl _ _ | exact below_dr (Below.refl _ _))).mono ?_; rintro e w4 ⟨rfl, hp4, hk4⟩; have P4 := Lib.hid hp4; have kv4 : w4.cell? ⟨brows, 0, none⟩ = some (.slice (some ⟨grw, orw, none⟩) R lrw) ∧ w4.cell? ⟨grw, orw + k, none⟩ = some (.int .i64 r) ∧ w4.cell? ⟨W.heap.size, 0, none⟩ = some (.slice (some ⟨gl, ol, none⟩) C lc) := by first | exact ⟨hk4.cell (HM.out _ (Below.refl _ _)).1 HNB.out.2.2.1, hk4.cell (HM.out _ (Below.refl _ _)).2.1 HNB.out.2.2.2.1, hk4.cell (HM.out _ (Below.refl _ _)).2.2 HNL.out⟩ | exact ⟨hk4.cell (HM.out _ (below_dr (Below.refl _ _))).1 HNB.out.2.2.1, hk4.cell (HM.out _ (below_dr (Below.refl _ _))).2.1 HNB.out.2.2.2.1, hk4.cell (HM.out _ (below_dr (Below.refl _ _))).2.2 HNL.out⟩; clear hp4 hk4))
    go_wp2_with fail
    go_end0
    exact ⟨rfl, P4.out⟩
end Go.Proofs.Ytbpigeipjeegiaa

