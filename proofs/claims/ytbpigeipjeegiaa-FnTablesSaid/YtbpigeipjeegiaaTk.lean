/-
  impl.TablesWith's visitor: one row more is subtracted from what is left, and counted.
-/
import Derived.Test.YtbpigeipjeegiaaTe
import Derived.Test.YtbpigeipjeegiaaErt
import Derived.Test.YtbpigeipjeegiaaPt
import Derived.Test.YtbpigeipjeegiaaDx
import Derived.Maps.OwnSet
import Derived.LoopN
import Derived.BigRegion
namespace Go.Proofs.Ytbpigeipjeegiaa
open Go Go.RowKit Go.Maps Go.WideShapes Go.WideMaps

theorem wf_wrap (x : Int) : (Lit.int .i64 (IntKind.i64.wrap x)).wf = true := WalkArith.wf_i64 (by rw [IntKind.wrap_i64]; omega)
theorem wrap_add2 (x y : Int) : IntKind.i64.wrap (IntKind.i64.wrap x + IntKind.i64.wrap y) = IntKind.i64.wrap (x + y) := by
  rw [IntKind.wrap_i64, IntKind.wrap_i64, IntKind.wrap_i64, IntKind.wrap_i64]
  omega
theorem arrK : ArrKey Try.prog 49 2 4 := ⟨Try.underlying49, by kernel_rfl, by kernel_rfl, by kernel_rfl⟩
theorem lawK : KeyLaw Try.prog 49 := arrK.law
theorem keyedK : Keyed Try.prog 49 := Keyed.of_law lawK
theorem sizeK : ∃ m, Try.prog.types.size = m + 1 := ⟨Try.prog.types.size - 1, by have : 0 < Try.prog.types.size := of_decide_eq_true (by kernel_rfl); omega⟩
theorem zeroI (w : World) : (zeroValue 2).run Try.prog w = .ok (.int .i64 0) w := by kernel_rfl
theorem keyOf_quad (u v : Nat) (hu : u ≤ 24) (hv : v ≤ 24) : keyOf Try.prog 49 (.agg #[.int .i64 (u : Nat), .int .i64 (v : Nat), .int .i64 0, .int .i64 0]) = some (kP u v) := by
  have hkt := arrK.keyType sizeK
  obtain ⟨m, hm⟩ := sizeK
  have wu : (Lit.int .i64 (u : Nat)).wf = true := WalkArith.wf_i64 (by omega)
  have wv : (Lit.int .i64 (v : Nat)).wf = true := WalkArith.wf_i64 (by omega)
  have w0 : (Lit.int .i64 0).wf = true := by decide
  unfold keyOf kP
  simp only [arrK.hu]
  rw [if_pos (by simp [hkt, Value.formed, arrK.hu, arrK.size]), hm]
  unfold Program.keyLits
  simp only [arrK.hu, Value.cells]
  rw [if_pos (by rw [arrK.size]; rfl), show List.range 4 = [0, 1, 2, 3] from rfl, List.mapM_cons, List.mapM_cons, List.mapM_cons, List.mapM_cons, List.mapM_nil]
  simp [arrK.one, Program.keyLits, Try.underlying2, wu, wv, w0]
theorem injP : InjP := fun u v u' v' h1 h2 h3 h4 e => by
  have a := keyOf_quad u v h1 h2
  have b := keyOf_quad u' v' h3 h4
  rw [← e] at b
  have := lawK.inj a b
  injection this with this
  have := congrArg Array.toList this
  simp only [List.cons.injEq, Value.int.injEq, true_and, and_true] at this
  omega
abbrev OV (W : World) (b n : Nat) (D : DV) : Prop := W.ownsMap Try.prog 49 (plainElem Try.prog 2) b n D
theorem OV.block {W W' : World} {b n : Nat} {D : DV} (h : OV W b n D) (hb : W'.heap[b]? = W.heap[b]?) : OV W' b n D := by
  obtain ⟨es, clock, h1, h2, h3, h4⟩ := h
  exact ⟨es, clock, hb.trans h1, h2, h3, h4⟩
theorem OV.exact {W : World} {b n : Nat} {D : DV} (h : OV W b n D) : OV W b (Maps.size D) D := by
  obtain ⟨es, clock, h1, h2, h3, h4⟩ := h
  refine ⟨es, clock, h1, h2, ?_, h4⟩
  rw [h4]
  show es.size ≤ (_ : List _).length
  rw [length_sorted, List.length_map]
  simp
/-- what impl.TablesWith's visitor keeps: what is left, and in how many ways -/
structure VM (bl bnx bmm bn u v m C0 C1 : Nat) (g : Nat → Nat → Nat) (gs : List Nat) (W : World) : Prop where
  gs : gs = [bn]
  o : ∃ n D, OV W bn n D ∧ MapP D C0 C1 g
  l0 : W.cell? ⟨bl, 0, none⟩ = some (.int .i64 (u : Nat))
  l1 : W.cell? ⟨bl, 1, none⟩ = some (.int .i64 (v : Nat))
  l2 : W.cell? ⟨bl, 2, none⟩ = some (.int .i64 0)
  l3 : W.cell? ⟨bl, 3, none⟩ = some (.int .i64 0)
  x : W.cell? ⟨bnx, 0, none⟩ = some (.map (some bn))
  k : W.cell? ⟨bmm, 0, none⟩ = some (.int .i64 (IntKind.i64.wrap (m : Nat)))
theorem VM.of_blocks {bl bnx bmm bn u v m C0 C1 : Nat} {g : Nat → Nat → Nat} {gs : List Nat} {W W' : World} (h : VM bl bnx bmm bn u v m C0 C1 g gs W) (h0 : W'.heap[bn]? = W.heap[bn]?) (h1 : W'.heap[bl]? = W.heap[bl]?) (h2 : W'.heap[bnx]? = W.heap[bnx]?) (h3 : W'.heap[bmm]? = W.heap[bmm]?) : VM bl bnx bmm bn u v m C0 C1 g gs W' := by
  obtain ⟨n, D, hD, hM⟩ := h.o
  exact ⟨h.gs, ⟨n, D, hD.block h0, hM⟩, (World.cell?_of_block h1).trans h.l0, (World.cell?_of_block h1).trans h.l1, (World.cell?_of_block h1).trans h.l2, (World.cell?_of_block h1).trans h.l3, (World.cell?_of_block h2).trans h.x, (World.cell?_of_block h3).trans h.k⟩
theorem VM.VF {bl bnx bmm bn u v m C0 C1 B0 : Nat} (h1 : bl < B0) (h2 : bnx < B0) (h3 : bmm < B0) : VF (VM bl bnx bmm bn u v m C0 C1) B0 := fun x gs W W' h hs hb => by
  obtain ⟨n, D, hD, hM⟩ := h.o
  have e := h.gs
  exact h.of_blocks (hb bn hD.lt (.inl (by rw [e]; simp))) (hb bl (lt_of_cell (a := ⟨bl, 0, none⟩) h.l0) (.inr h1)) (hb bnx (lt_of_cell (a := ⟨bnx, 0, none⟩) h.x) (.inr h2)) (hb bmm (lt_of_cell (a := ⟨bmm, 0, none⟩) h.k) (.inr h3))
theorem row_two {u v r : Nat} {row : List Nat} (h : row ∈ rowsOf [u, v] r) : ∃ a b, row = [a, b] ∧ a ≤ u ∧ b ≤ v := by
  have h1 : 0 < (rowsOf [u, v] r).count row := List.count_pos_iff.2 h
  rw [count_rows] at h1
  split at h1
  · next hg =>
    have hl := rowGood_len hg
    match row, hl with
    | [a, b], _ =>
      rw [row2] at hg
      exact ⟨a, b, rfl, hg.1, hg.2.1⟩
  · omega
set_option maxRecDepth 100000 in
set_option maxHeartbeats 3200000 in
theorem visitT (bl bnx bmm bn u v m C0 C1 r B0 : Nat) (hC : C0 ≤ 24 ∧ C1 ≤ 24) (hu : u ≤ C0) (hv : v ≤ C1) (hbl : bl < B0 ∧ bnx < B0 ∧ bmm < B0) (hne : bn ≠ bl ∧ bn ≠ bnx ∧ bn ≠ bmm) :
    VCt (VM bl bnx bmm bn u v m C0 C1) (fun g row => bump g (u - row[0]!) (v - row[1]!) m) B0 (.pointer (some ⟨bl, 0, none⟩)) (.pointer (some ⟨bnx, 0, none⟩)) (.pointer (some ⟨bmm, 0, none⟩)) [u, v] r := by
  intro x gs row g c W hV hlt hgn hB0 hown hrow
  obtain ⟨a, b, rfl, ha, hb⟩ := row_two hrow
  obtain rfl := hV.gs
  have HV := Lib.hid hV
  have y0 := own_cellAt hown (show (nlv [a, b])[0]? = some (.int .i64 (a : Nat)) from rfl)
  have y1 := own_cellAt hown (show (nlv [a, b])[1]? = some (.int .i64 (b : Nat)) from rfl)
  have z0 := hV.l0
  have z1 := hV.l1
  have z2 := hV.l2
  have z3 := hV.l3
  have hgl := own_ltg hown
  clear hrow hown hV
  have hwa : IntKind.i64.wrap ((u : Int) - (a : Int)) = ((u - a : Nat) : Int) := by
    rw [show (u : Int) - (a : Int) = ((u - a : Nat) : Int) by omega]
    exact IntWalk.i64_in _ (by omega)
  have hwb : IntKind.i64.wrap ((v : Int) - (b : Int)) = ((v - b : Nat) : Int) := by
    rw [show (v : Int) - (b : Int) = ((v - b : Nat) : Int) by omega]
    exact IntWalk.i64_in _ (by omega)
  go_enter Try.func28, Try.ntmps28
  go_wp2_with fail
  refine wp_loop_rounds 3 ?_
  rw [rounds_succ]
  go_wp2_with fail
  rw [rounds_succ]
  go_wp2_with fail
  rw [rounds_succ]
  go_wp2_with fail
  have F1 : Hid (∀ W1, W1 = W.alloc (.cells #[.int .i64 ((u - a : Nat) : Int), .int .i64 ((v - b : Nat) : Int), .int .i64 0, .int .i64 0] 49) → Below W.heap.size W W1 ∧ W1.heap[W.heap.size]? = some (.cells #[.int .i64 ((u - a : Nat) : Int), .int .i64 ((v - b : Nat) : Int), .int .i64 0, .int .i64 0] 49 (0, 0))) := Lib.hid fun W1 h => by
    subst h
    exact ⟨below_al (Below.refl _ _) _, heap_alloc_new W _⟩
  have hF := F1.out _ rfl
  clear y0 y1 z0 z1 z2 z3 hwa hwb F1
  generalize World.alloc W _ = W1 at *
  have B1 := Lib.hid hF.1
  have V1 : Hid (VM bl bnx bmm bn u v m C0 C1 x [bn] W1) := Lib.hid (HV.out.of_blocks (hF.1.block _ (by obtain ⟨n, D, hD, -⟩ := HV.out.o; exact hD.lt)) (hF.1.block _ (lt_of_cell (a := ⟨bl, 0, none⟩) HV.out.l0)) (hF.1.block _ (lt_of_cell (a := ⟨bnx, 0, none⟩) HV.out.x)) (hF.1.block _ (lt_of_cell (a := ⟨bmm, 0, none⟩) HV.out.k)))
  have q0 := at_block hF.2 0 rfl
  have q1 := at_block hF.2 1 rfl
  have q2 := at_block hF.2 2 rfl
  have q3 := at_block hF.2 3 rfl
  simp only [List.getElem_toArray, List.getElem_cons_zero, List.getElem_cons_succ] at q0 q1 q2 q3
  have hx := V1.out.x
  have hk := V1.out.k
  obtain ⟨n, D, hD, hM⟩ := V1.out.o
  have hsz : Maps.size D ≤ 625 := by
    rw [hM.1.2]
    exact Nat.le_trans (cntP_le D C0 C1) (Nat.mul_le_mul (show C0 + 1 ≤ 25 by omega) (show C1 + 1 ≤ 25 by omega))
  obtain ⟨ct, v0, st, W2, elk, hat, eme, elk2, hst⟩ := entry_all (w := W1.drew) lawK Try.underlying50 Try.underlying2 zeroI hD.exact.drew (by unfold maxLen; omega) (keyOf_quad (u - a) (v - b) (by omega) (by omega))
  have hct : ct = IntKind.i64.wrap ((x (u - a) (v - b) : Nat) : Int) := by
    have h1 := hM.2.2.1 (u - a) (v - b) (by omega) (by omega)
    rw [h1] at hat
    injection hat with hat
    injection hat with _ hat
    exact hat.symm
  have hsum : IntKind.i64.wrap (ct + IntKind.i64.wrap ((m : Nat) : Int)) = IntKind.i64.wrap ((x (u - a) (v - b) + m : Nat) : Int) := by
    rw [hct, wrap_add2]
    congr 1
  have HS2 := Lib.hid (mapP_put injP (u := u - a) (v := v - b) (m := m) hC hM (by omega) (by omega) (x := IntKind.i64.wrap (ct + IntKind.i64.wrap ((m : Nat) : Int))) hsum)
  obtain ⟨W3, est, ho3, hg3⟩ := hst (IntKind.i64.wrap (ct + IntKind.i64.wrap ((m : Nat) : Int))) (wf_wrap _)
  unfold goInt at eme est
  have HO3 := Lib.hid ho3
  have HG3 := Lib.hid hg3
  clear hat hct hsum ho3 hg3 hst hM hD hF hsz
  generalize hmv : IntKind.i64.wrap ((m : Nat) : Int) = mv at *
  generalize hsv : IntKind.i64.wrap (ct + mv) = sv at *
  have hbnl : bn < W1.heap.size := by
    obtain ⟨n', D', hD', -⟩ := V1.out.o
    exact hD'.lt
  go_region
  all_goals
    go_wp2_with fail
    go_end0
    have far : ∀ k, k < W1.heap.size → bn ≠ k → W3.heap[k]? = W1.heap[k]? := fun k hk hn => HG3.out.block k hk (fun e => hn (Option.some.inj e).symm)
    have l0 := lt_of_cell (a := ⟨bl, 0, none⟩) V1.out.l0
    have l1 := lt_of_cell (a := ⟨bnx, 0, none⟩) V1.out.x
    have l2 := lt_of_cell (a := ⟨bmm, 0, none⟩) V1.out.k
    have f0 := far bl l0 hne.1
    refine ⟨rfl, [bn], ⟨rfl, ⟨_, _, HO3.out, HS2.out⟩, (World.cell?_of_block f0).trans V1.out.l0, (World.cell?_of_block f0).trans V1.out.l1, (World.cell?_of_block f0).trans V1.out.l2, (World.cell?_of_block f0).trans V1.out.l3, (World.cell?_of_block (far bnx l1 hne.2.1)).trans V1.out.x, (World.cell?_of_block (far bmm l2 hne.2.2)).trans V1.out.k⟩, ?_, fun k hk => ⟨.inl hk, ?_⟩⟩
    · have k1 : Kp [bn] W W1 := Kp.of_below B1.out
      have k2 : Kp [bn] W W1.drew := ⟨k1.os, k1.tape, k1.output, k1.size, k1.block⟩
      exact k2.grown HG3.out fun k e => .inl (by cases e; simp)
    · simp at hk
      subst hk
      exact HO3.out.lt
end Go.Proofs.Ytbpigeipjeegiaa
