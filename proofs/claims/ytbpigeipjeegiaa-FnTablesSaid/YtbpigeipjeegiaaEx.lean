/-
  impl.rowSums.
-/
import Derived.Test.YtbpigeipjeegiaaEw
import Derived.Test.YtbpigeipjeegiaaRi
import Derived.Deep.DeepCutAuto
import Derived.Sort.QuietIn
namespace Go.Proofs.Ytbpigeipjeegiaa
open Go Go.RowKit Go.Shelf
attribute [local go_sem] Oper.semAt_some

/-- the sums of rows -/
def chN (xs : List Nat) (C k : Nat) : List Nat := (xs.drop (k * C)).take C
def rowsS (xs : List Nat) (R C : Nat) : List Nat := (List.range R).map fun k => (chN xs C k).sum
/-- the sums that have come -/
def rsTo (xs : List Nat) (R C : Nat) (pre : List Nat) : List Nat := pre.map fun j => (chN xs C (j % R)).sum
theorem rsTo_len (xs : List Nat) (R C : Nat) (pre : List Nat) : (rsTo xs R C pre).length = pre.length := by simp [rsTo]
theorem rsTo_snoc (xs : List Nat) (R C : Nat) (pre : List Nat) (j : Nat) : rsTo xs R C (pre ++ [j]) = rsTo xs R C pre ++ [(chN xs C (j % R)).sum] := by simp [rsTo]
theorem rsTo_end (xs : List Nat) (R C : Nat) : rsTo xs R C (List.range R) = rowsS xs R C := by
  unfold rsTo rowsS
  refine List.map_congr_left fun k hk => ?_
  rw [Nat.mod_eq_of_lt (List.mem_range.1 hk)]
theorem chN_len {xs : List Nat} {R C k : Nat} (hx : xs.length = R * C) (hk : k < R) : (chN xs C k).length = C := by
  unfold chN
  have : k * C + C ≤ R * C := by
    have : (k + 1) * C ≤ R * C := Nat.mul_le_mul_right _ (by omega)
    rw [Nat.add_mul, Nat.one_mul] at this
    exact this
  simp
  omega
theorem sum_take_le (l : List Nat) : ∀ n, (l.take n).sum ≤ l.sum := by
  induction l with
  | nil => simp
  | cons a l ih =>
    intro n
    cases n with
    | zero => simp
    | succ n =>
      rw [List.take_succ_cons, List.sum_cons, List.sum_cons]
      have := ih n
      omega
theorem sum_drop_le (l : List Nat) : ∀ n, (l.drop n).sum ≤ l.sum := by
  induction l with
  | nil => simp
  | cons a l ih =>
    intro n
    cases n with
    | zero => simp
    | succ n =>
      rw [List.drop_succ_cons, List.sum_cons]
      have := ih n
      omega
theorem chN_sum (xs : List Nat) (C k : Nat) : (chN xs C k).sum ≤ xs.sum := Nat.le_trans (sum_take_le _ _) (sum_drop_le _ _)
/-- between two rounds -/
structure RSt (lo bO b1 b2 : Nat) (l : List Nat) (W : World) : Prop where
  e : ∃ g c, W.cell? ⟨bO, 0, none⟩ = some (.slice (some ⟨g, 0, none⟩) l.length c) ∧ W.frozen? ⟨bO, 0, none⟩ = false ∧ W.ownsRow 0 2 1 (.slice (some ⟨g, 0, none⟩) l.length c) l.length (nlv l) ∧ bO ≠ g ∧ g ≠ b1 ∧ g ≠ b2 ∧ lo ≤ g
theorem own_kept {W W' : World} {row : Option Nat} {g n c base : Nat} {e : TypeId} {vs : List Value} (h : W.ownsRow base e 1 (.slice (some ⟨g, 0, none⟩) n c) n vs) (hg : W.grownBy W' row) (hrow : ∀ r, row = some r → ∃ o : Obj, W.heap[r]? = some o ∧ o.isCells = false) : W'.ownsRow base e 1 (.slice (some ⟨g, 0, none⟩) n c) n vs := by
  refine own_block h ?_
  rcases h.2 with ⟨hv, hz⟩ | ⟨g', cap, cur, hv, hb, hh, hr⟩
  · cases hv
  · cases hv
    refine hg.block g (Array.getElem?_eq_some_iff.1 hh).1 fun e => ?_
    obtain ⟨o, ho, hc⟩ := hrow g e.symm
    rw [hh] at ho
    cases ho
    cases hc
theorem RSt.kept {lo bO b1 b2 : Nat} {l : List Nat} {W W' : World} (h : RSt lo bO b1 b2 l W) {row : Option Nat} (hg : W.grownBy W' row) (hr : ∀ r, row = some r → ∃ o : Obj, W.heap[r]? = some o ∧ o.isCells = false) : RSt lo bO b1 b2 l W' := by
  obtain ⟨g, c, h1, h2, h3, h4⟩ := h.e
  exact ⟨g, c, cell_kept h1 hg hr, (frozen_kept h1 hg hr).trans h2, own_kept h3 hg hr, h4⟩
theorem run_append_op {P : Program} {o : Oper} {a : Act} {w : World} (s x : Operand) (t : TypeId) (ho : o.op = .call { callee := .builtin .append, args := #[s, x], argTypes := #[t, t] }) {v xv : Value} (hs : a.eval s = v) (hx : a.eval x = xv) {u : Value} {w' : World} (hr : (Builtin.append_ #[t, t] o.type #[v, xv]).run P w = .ok u w') :
    (execOp a.eval o).run P w = .ok (.value u) w' := by
  unfold execOp
  simp only [ho, resolve, invoke, builtin, Sem.run_bind, Sem.run_pure, Result.andThen_ok, List.map_toArray, List.map_cons, List.map_nil, hs, hx, hr]
theorem wpIn_value {F : Fence} {n : Nat} {P : Program} {o : Oper} {a : Act} {w : World} {K : Act → World → Prop} {Q : Exit → Act → World → Prop} (hd : noDefer o = true) (hab : ∀ f, F.fn f) {v : Value} {w' : World} (hr : (execOp a.eval o).run P w = .ok (.value v) w') (h : K (a.put o.dst v) w') : Oper.wpIn F n P o a w K Q := by
  unfold Oper.wpIn
  refine ⟨fun f _ => hab f, ?_⟩
  rw [Oper.semAt_eq _ _ _ (noDefer_ne hd), hr]
  exact h
theorem own_isCells {W : World} {base n c g : Nat} {e : TypeId} {vs : List Value} (h : W.ownsRow base e 1 (.slice (some ⟨g, 0, none⟩) n c) n vs) {o : Obj} (ho : W.heap[g]? = some o) : o.isCells = true := by
  rcases h.2 with ⟨hv, hz⟩ | ⟨g', cap, cur, hv, hb, hh, hr⟩
  · cases hv
  · cases hv
    rw [hh] at ho
    cases ho
    rfl
/-- the end of a round of rowSums -/
theorem rs_round {w W w9 : World} {bO b1 b2 B g c g9 cap9 : Nat} {l : List Nat} {x : Nat} {o : Obj} (hB : Below w.heap.size w W) (h5 : b1 < W.heap.size ∧ b2 < W.heap.size ∧ bO < W.heap.size) (hz5 : w.heap.size + 5 ≤ W.heap.size) (hne : bO ≠ b1 ∧ bO ≠ b2) (hbO : w.heap.size ≤ bO) (hgw : w.heap.size ≤ g)
    (q1 : W.cell? ⟨bO, 0, none⟩ = some (.slice (some ⟨g, 0, none⟩) l.length c)) (q2 : W.frozen? ⟨bO, 0, none⟩ = false) (q3 : W.ownsRow 0 2 1 (.slice (some ⟨g, 0, none⟩) l.length c) l.length (nlv l)) (q4 : bO ≠ g) (q5 : g ≠ b1) (q6 : g ≠ b2)
    (hown : w9.ownsRow 0 2 1 (.slice (some ⟨g9, 0, none⟩) (l.length + 1) cap9) (l.length + 1) (nlv l ++ [.int .i64 (x : Nat)])) (hgrow : ((W.drewN 1).alloc o).grownBy w9 (some g)) (hat : g9 = g ∨ g9 = W.heap.size + 1) (hB0 : B ≤ W.heap.size) :
    (w9.cell? ⟨bO, 0, none⟩ = some (.slice (some ⟨g, 0, none⟩) l.length c) ∧ w9.frozen? ⟨bO, 0, none⟩ = false) ∧
    KeepsFrom B W (w9.setCell ⟨bO, 0, none⟩ (.slice (some ⟨g9, 0, none⟩) (l.length + 1) cap9)) ∧ KB2 b1 b2 W (w9.setCell ⟨bO, 0, none⟩ (.slice (some ⟨g9, 0, none⟩) (l.length + 1) cap9)) ∧ RSt w.heap.size bO b1 b2 (l ++ [x]) (w9.setCell ⟨bO, 0, none⟩ (.slice (some ⟨g9, 0, none⟩) (l.length + 1) cap9)) ∧ Below w.heap.size w (w9.setCell ⟨bO, 0, none⟩ (.slice (some ⟨g9, 0, none⟩) (l.length + 1) cap9)) ∧ w.heap.size + 5 ≤ (w9.setCell ⟨bO, 0, none⟩ (.slice (some ⟨g9, 0, none⟩) (l.length + 1) cap9)).heap.size := by
  have hba : Below W.heap.size W ((W.drewN 1).alloc o) := below_al (below_dn (Below.refl _ _) 1) o
  have hk9 : Kp [g] W w9 := (Kp.of_below hba).grown hgrow (fun j e => by cases e; exact .inl (by simp))
  have hgl := own_ltg q3
  have c9 := hk9.cell q1 (by simp; exact q4)
  have f9 := (hk9.frozen (p := ⟨bO, 0, none⟩) h5.2.2 (by simp; exact q4)).trans q2
  have hne9 : bO ≠ g9 := by
    rcases hat with e | e
    · rw [e]; exact q4
    · omega
  refine ⟨⟨c9, f9⟩, ?_, ?_, ⟨g9, cap9, ?_, ?_, ?_, hne9, ?_, ?_, ?_⟩, ?_, ?_⟩
  · refine (KeepsOthers.trans ?_ (KeepsOthers.setCell _ _ _)).from B
    refine KeepsOthers.trans (KeepsOthers.trans (show KeepsOthers W (W.drewN 1) from ⟨Nat.le_refl _, fun _ _ h _ => h⟩) (KeepsOthers.alloc _ o)) (KeepsOthers.of_grownBy hgrow fun j ob e ho => ?_)
    cases e
    exact own_isCells (own_below q3 hba) ho
  · intro p v hp hc
    have hp2 : p.block ≠ g := by
      rcases hp with h | h
      · rw [h]; exact fun e => q5 e.symm
      · rw [h]; exact fun e => q6 e.symm
    have hp3 : p.block ≠ bO := by
      rcases hp with h | h
      · rw [h]; exact fun e => hne.1 e.symm
      · rw [h]; exact fun e => hne.2 e.symm
    refine (World.cell?_setCell_other _ _ _ _ (by intro e; subst e; exact hp3 rfl)).trans (hk9.cell hc (by simp; exact hp2))
  · rw [show (l ++ [x]).length = l.length + 1 by simp]
    exact World.cell?_setCell_same' _ _ _ (by rw [c9]; rfl)
  · rw [World.frozen?_setCell]
    exact f9
  · rw [show (l ++ [x]).length = l.length + 1 by simp, nlv_snoc]
    exact own_block hown (Below.heap_setCell _ _ _ _ (fun e => hne9 e.symm))
  · rcases hat with e | e
    · rw [e]; exact q5
    · omega
  · rcases hat with e | e
    · rw [e]; exact q6
    · omega
  · rcases hat with e | e <;> omega
  · refine Below.setCell (hB.trans (hk9.below hB.size (fun b hb => by simp at hb; omega))) (p := ⟨bO, 0, none⟩) hbO _
  · have := hk9.size
    simp
    omega
theorem Chunk_stops (b1 b2 gt ot R C ct : Nat) (hR : 1 ≤ R ∧ R ≤ 4) (hC : 1 ≤ C ∧ C ≤ 4) (hct : R * C ≤ ct) (w : World) (h1 : w.cell? ⟨b1, 0, none⟩ = some (.slice (some ⟨gt, ot, none⟩) (R * C) ct)) (h2 : w.cell? ⟨b2, 0, none⟩ = some (.int .i64 C)) :
    SeqStopsK Fence.wide 8 Try.prog 41 #[.pointer (some ⟨b1, 0, none⟩), .pointer (some ⟨b2, 0, none⟩)] (ckE gt ot R C) (KB2 b1 b2) (fun ys => ys = List.range R) (fun _ => True) R w := fun l J Jx W hW hJ _ hY h0 =>
  Chunk1_in Fence.wide 8 trivial rfl (by omega) l b1 b2 gt ot R C ct hR hC hct J Jx hY (fun pre W' m h => hJ pre W' (W'.drewN m) none h ⟨rfl, rfl, rfl, Nat.le_refl _, fun _ _ _ => rfl⟩ (fun r e => by cases e)) W (keepC hW h1) (keepC hW h2) h0
set_option maxRecDepth 100000 in
set_option maxHeartbeats 3200000 in
theorem rowSums_any (gt ot R C ct : Nat) (xs : List Nat) (w : World) (hR : 1 ≤ R ∧ R ≤ 4) (hC : 1 ≤ C ∧ C ≤ 4) (hct : R * C ≤ ct) (hx : xs.length = R * C) (hs : xs.sum ≤ 100000) (hlt : gt < w.heap.size) (hc : ∀ i, i < R * C → w.cell? ⟨gt, ot + i, none⟩ = some (.int .i64 (xs[i]! : Nat))) :
    Calls Try.prog 18 #[.agg #[.int .i64 R, .int .i64 C, .slice (some ⟨gt, ot, none⟩) (R * C) ct]] w (fun e w' => ∃ g c, e = .returned (.slice (some ⟨g, 0, none⟩) R c) ∧ w.heap.size ≤ g ∧ w'.ownsRow 0 2 1 (.slice (some ⟨g, 0, none⟩) R c) R (nlv (rowsS xs R C)) ∧ Below w.heap.size w w') := by
  have hCn : 1 ≤ C := hC.1
  have hRC16 : R * C ≤ 16 := by
    have := Nat.mul_le_mul hR.2 hC.2
    omega
  obtain ⟨i0, hi0, hz0, hz1, hz2⟩ := info_parts info_i64
  have HTOT : Hid (∀ k, k < R → ∀ W', Below w.heap.size w W' → Calls Try.prog 23 #[.slice (some ⟨gt, ot + k * C, none⟩) C C] W' (fun e w' => e = .returned (.int .i64 ((chN xs C k).sum : Nat)) ∧ W' = w')) := Lib.hid fun k hk W' hb => by
    have hl := chN_len hx hk
    have hk1 : k * C + C ≤ R * C := by
      have : (k + 1) * C ≤ R * C := Nat.mul_le_mul_right _ (by omega)
      rw [Nat.add_mul, Nat.one_mul] at this
      exact this
    have := total_any (some ⟨gt, ot + k * C, none⟩) (chN xs C k) C W' (by omega) (by have := chN_sum xs C k; omega) (fun h0 => ⟨gt, ot + k * C, rfl, by have := hb.size; omega, fun i hi => by
      rw [nlv_len, hl] at hi
      have h9 := (hb.cell (p := ⟨gt, ot + (k * C + i), none⟩) hlt).trans (hc (k * C + i) (by omega))
      rw [show ot + k * C + i = ot + (k * C + i) by omega, h9, getElem!_pos xs (k * C + i) (by omega)]
      simp [nlv, chN]⟩)
    rw [hl] at this
    exact this
  have HST := Lib.hid fun b1 b2 w h1 h2 => Chunk_stops b1 b2 gt ot R C ct hR hC hct w h1 h2
  have HSN : Hid (∀ pre j, rsTo xs R C (pre ++ [j]) = rsTo xs R C pre ++ [(chN xs C (j % R)).sum]) := Lib.hid fun pre j => rsTo_snoc xs R C pre j
  have HSL : Hid (∀ pre, (rsTo xs R C pre).length = pre.length) := Lib.hid fun pre => rsTo_len xs R C pre
  have HSE : Hid (rsTo xs R C (List.range R) = rowsS xs R C ∧ (rowsS xs R C).length = R) := Lib.hid ⟨rsTo_end xs R C, by simp [rowsS]⟩
  have HMOD : Hid (∀ x : Nat, x % R < R) := Lib.hid fun x => Nat.mod_lt _ (by omega)
  clear hc hx hs
  refine (callsIn_wide (n := 9)).1 ?_
  refine callsIn_of_wp_marks Try.func18 rfl trivial ?_ rfl
  simp only [Try.ntmps18, List.size_toArray, List.length_cons, List.length_nil, Nat.reduceAdd, Nat.reduceSub, Array.replicate_succ, Array.replicate_zero, List.push_toArray, List.append_toArray, List.nil_append, List.cons_append]
  refine wpIn_wide.2 ?_
  generalize hRCg : R * C = RC at *
  go_wp2_with (go_at_call 32; refine (Chunk_any _ _ _ C hCn _).mono ?_; rintro e w1 ⟨rfl, rfl⟩)
  have HX : Hid (∀ W0, W0 = ((((w.alloc (.cells #[.int .i64 R, .int .i64 C, .slice (some ⟨gt, ot, none⟩) RC ct] 26)).alloc (.cells #[] 2)).alloc (.cells #[.slice (some ⟨w.heap.size + 1, 0, none⟩) 0 0] 24)).alloc (.cells #[.slice (some ⟨gt, ot, none⟩) RC ct] 24)).alloc (.cells #[.int .i64 C] 3) →
      Below w.heap.size w W0 ∧ W0.heap.size = w.heap.size + 5 ∧ RSt w.heap.size (w.heap.size + 2) (w.heap.size + 3) (w.heap.size + 4) [] W0 ∧ W0.cell? ⟨w.heap.size + 3, 0, none⟩ = some (.slice (some ⟨gt, ot, none⟩) RC ct) ∧ W0.cell? ⟨w.heap.size + 4, 0, none⟩ = some (.int .i64 C)) := Lib.hid fun W0 hW => by
    have hz : W0.heap.size = w.heap.size + 5 := by rw [hW]; simp
    refine ⟨?_, hz, ⟨w.heap.size + 1, 0, ?_, ?_, ?_, by omega, by omega, by omega, by omega⟩, ?_, ?_⟩
    · rw [hW]
      repeat (first | exact Below.refl _ _ | refine below_al ?_ _)
    · rw [hW]
      repeat (first | exact cl_new _ _ _ _ (by simp) | refine cl_up _ ?_)
    · rw [hW]
      exact fz_up _ (by simp) (fz_up _ (by simp) (fz_new _ _ _ _ (by simp)))
    · rw [hW]
      exact ow_up _ (ow_up _ (ow_up _ (ow_nil _ _ _ (by simp))))
    · rw [hW]
      repeat (first | exact cl_new _ _ _ _ (by simp) | refine cl_up _ ?_)
    · rw [hW]
      repeat (first | exact cl_new _ _ _ _ (by simp) | refine cl_up _ ?_)
  have X9 := Lib.hid (HX.out _ rfl)
  clear HX
  generalize World.alloc (World.alloc (World.alloc (World.alloc (World.alloc w _) _) _) _) _ = W0 at *
  subst hRCg
  have S9 := Lib.hid (HST.out (w.heap.size + 3) (w.heap.size + 4) W0 X9.out.2.2.2.1 X9.out.2.2.2.2)
  have hz0w := X9.out.2.1
  refine (wpIn_wide (n := 9)).1 ?_
  refine wpIn_rangeFunc_ownG (F := Fence.wide) rfl (by omega) (gf := 41) (lb := #[.pointer (some ⟨w.heap.size + 3, 0, none⟩), .pointer (some ⟨w.heap.size + 4, 0, none⟩)]) rfl trivial (enters_of Try.func41 (by kernel_rfl) rfl)
    S9.out (fun h k => KB2.trans h k) (fun W l o o' _ h1 h2 _ => KB2.put W l o o' h1 h2) (Below.refl _ _) (fun _ => rfl)
    (fun pre W => RSt w.heap.size (w.heap.size + 2) (w.heap.size + 3) (w.heap.size + 4) (rsTo xs R C pre) W ∧ (Below w.heap.size w W ∧ w.heap.size + 5 ≤ W.heap.size)) (fun _ _ _ => False)
    (OwnFrom.and (Own.from (fun s A B row hs hg hr => hs.kept hg hr) _) (OwnFrom.and (ownFrom_below (Nat.le_refl _) (by omega)) (fun s A B row hs hg hr => Nat.le_trans hs hg.size)))
    (fun _ _ _ _ _ hs _ _ => hs) ⟨X9.out.2.2.1, X9.out.1, by omega⟩
    (fun x => { tmps := #[.agg #[.int .i64 R, .int .i64 C, .slice (some ⟨gt, ot, none⟩) (R * C) ct], .pointer (some ⟨w.heap.size, 0, none⟩), .slice none 0 0, .pointer (some ⟨w.heap.size + 1 + 1, 0, none⟩), .slice (some ⟨gt, ot + x % R * C, none⟩) C C, .slice (some ⟨w.heap.size + 1, 0, none⟩) 0 0, .pointer (some ⟨w.heap.size, 2, none⟩), .slice (some ⟨gt, ot, none⟩) (R * C) ct, .pointer (some ⟨w.heap.size, 1, none⟩), .int .i64 C, .func (.func 41) #[] #[.pointer (some ⟨w.heap.size + 1 + 1 + 1, 0, none⟩), .pointer (some ⟨w.heap.size + 1 + 1 + 1 + 1, 0, none⟩)], .slice (some ⟨gt, ot + x % R * C, none⟩) C C, undef, undef, undef, undef, undef, undef], defers := [] }) ?assign ?body ?done ?stop
  case assign =>
    intro l x W K hK
    unfold ckE
    gi_wp2
    exact hK
  case body =>
    rintro l pre x W ⟨hs, hB, hz5⟩ hlen
    have hmx : Try.prog.follows .mixedOrders = true := by kernel_rfl
    have hkR := HMOD.out x
    have hsn := HSN.out pre x
    have hsl := HSL.out pre
    generalize x % R = k at *
    obtain ⟨g, c, q1, q2, q3, q4, q5, q6, HGW⟩ := hs.e
    have q1' := q1
    have q3' := q3
    rw [hsl] at q1 q3
    have hgl := own_ltg q3
    have hol : w.heap.size + 2 < W.heap.size := by omega
    have hol2 : w.heap.size + 1 + 1 < W.heap.size := by omega
    obtain ⟨g9, cap9, w9, hr9, hown9, hgrow9, hat9, hlt9⟩ := run_append_lies (P := Try.prog) (w := W.drew.alloc (.cells #[.int .i64 ((chN xs C k).sum : Nat)] 2)) 24 24 0 2 i0 _ 1 8 Try.underlying24 hi0 hz0 hz1 hz2 rfl (by omega) (.slice (some ⟨g, 0, none⟩) pre.length c) pre.length (nlv (rsTo xs R C pre)) (ow_up _ (own_below q3 (below_dr (Below.refl _ _)))) ⟨W.drew.heap.size, 0, none⟩ 1 1 [.int .i64 ((chN xs C k).sum : Nat)] rfl (World.news_of_block (cs := #[.int .i64 ((chN xs C k).sum : Nat)]) (t := 2) (fr := (0, 0)) (heap_alloc_new W.drew _)) (by simp [Value.oneCell']) (by omega) (by unfold maxLen; omega) (by omega) (Nat.zero_le _) _ rfl
    have hgw9 : w.heap.size ≤ g := HGW
    have E9 := rs_round (B := W0.heap.size) (b1 := w.heap.size + 3) (b2 := w.heap.size + 4) (x := (chN xs C k).sum) hB (by omega) hz5 (by omega) (by omega) hgw9 q1' q2 q3' q4 q5 q6 (by rw [hsl]; exact hown9) hgrow9 (by rcases hat9 with e | e; exact .inl (Option.some.inj e).symm; exact .inr (by rw [e]; simp)) (by omega)
    rw [hsl, ← hsn] at E9
    have u1 := E9.1.1
    have u2 := E9.1.2
    have END := Lib.hid E9.2
    clear E9
    have HT9 := Lib.hid (HTOT.out k hkR)
    have q9 : ((W.drewN 1).alloc (.cells #[.int .i64 ((chN xs C k).sum : Nat)] 2)).cell? ⟨w.heap.size + 1 + 1, 0, none⟩ = some (.slice (some ⟨g, 0, none⟩) pre.length c) := cl_up _ q1
    have HB := Lib.hid hB
    gi_wp2
    refine wpIn_region_any hmx ?_
    (try (change wpAnyIn _ _ _ _ _ _ _ _ _ (World.drew _)))
    refine wpAnyIn_ready (rs := [0, 1]) (by kernel_rfl) (by simp) ?_
    refine AllReadyIn.cons (o := _) rfl (fun K hK => ?_) ?_
    · (try simp only [List.getElem_toArray, List.getElem_cons_zero, List.getElem_cons_succ])
      go_simp
      refine hK _ _ ?_
      clear hK K
      (try simp only [Act.put, List.getElem_toArray, List.getElem_cons_zero, List.getElem_cons_succ, List.setIfInBounds_toArray, List.set_cons_zero, List.set_cons_succ])
      refine wpAnyIn_ready (rs := [1]) (by kernel_rfl) (by simp) ?_
      refine AllReadyIn.cons (o := _) rfl (fun K hK => ?_) ?_
      · (try simp only [List.getElem_toArray, List.getElem_cons_zero, List.getElem_cons_succ])
        go_simp
        refine hK _ _ ?_
        clear hK K
        (try simp only [Act.put, List.getElem_toArray, List.getElem_cons_zero, List.getElem_cons_succ, List.setIfInBounds_toArray, List.set_cons_zero, List.set_cons_succ])
        refine wpAnyIn_ready (rs := [2]) (by kernel_rfl) (by simp) ?_
        refine AllReadyIn.cons (o := _) rfl (fun K hK => ?_) ?_
        · (try simp only [List.getElem_toArray, List.getElem_cons_zero, List.getElem_cons_succ])
          go_simp
          (refine ⟨trivial, ?_⟩); (gi_at_call 23; refine (CallsIn.inRound l (callsIn_wide.2 (HT9.out _ (below_drewN HB.out 1)))).mono ?_; rintro e w9c ⟨rfl, rfl⟩)
          refine hK _ _ ?_
          clear hK K
          (try simp only [Act.put, List.getElem_toArray, List.getElem_cons_zero, List.getElem_cons_succ, List.setIfInBounds_toArray, List.set_cons_zero, List.set_cons_succ])
          refine wpAnyIn_ready (rs := [3]) (by kernel_rfl) (by simp) ?_
          refine AllReadyIn.cons (o := _) rfl (fun K hK => ?_) ?_
          · (try simp only [List.getElem_toArray, List.getElem_cons_zero, List.getElem_cons_succ])
            go_simp
            refine hK _ _ ?_
            clear hK K
            (try simp only [Act.put, List.getElem_toArray, List.getElem_cons_zero, List.getElem_cons_succ, List.setIfInBounds_toArray, List.set_cons_zero, List.set_cons_succ])
            refine wpAnyIn_ready (rs := [4]) (by kernel_rfl) (by simp) ?_
            refine AllReadyIn.cons (o := _) rfl (fun K hK => ?_) ?_
            · (try simp only [List.getElem_toArray, List.getElem_cons_zero, List.getElem_cons_succ])
              refine (iff_of_eq (if_pos ?_)).mpr ?_
              · rfl
              refine wpIn_value (v := .slice (some ⟨g9, 0, none⟩) (pre.length + 1) cap9) (w' := w9) ?_ ?_ ?_ ?_
              · rfl
              · exact fun _ => trivial
              · exact run_append_op (.tmp 12) (.tmp 15) 24 rfl rfl rfl hr9
              refine hK _ _ ?_
              clear hK K
              (try simp only [Act.put, List.getElem_toArray, List.getElem_cons_zero, List.getElem_cons_succ, List.setIfInBounds_toArray, List.set_cons_zero, List.set_cons_succ])
              refine wpAnyIn_ready (rs := [5]) (by kernel_rfl) (by simp) ?_
              refine AllReadyIn.cons (o := _) rfl (fun K hK => ?_) ?_
              · (try simp only [List.getElem_toArray, List.getElem_cons_zero, List.getElem_cons_succ])
                go_simp
                refine hK _ _ ?_
                clear hK K
                (try simp only [Act.put, List.getElem_toArray, List.getElem_cons_zero, List.getElem_cons_succ, List.setIfInBounds_toArray, List.set_cons_zero, List.set_cons_succ])
                refine wpAnyIn_done (by kernel_rfl) ?_ _
                exact END.out
              exact AllReadyIn.nil
            exact AllReadyIn.nil
          exact AllReadyIn.nil
        exact AllReadyIn.nil
      exact AllReadyIn.nil
    refine AllReadyIn.cons (o := _) rfl (fun K hK => ?_) ?_
    · (try simp only [List.getElem_toArray, List.getElem_cons_zero, List.getElem_cons_succ])
      go_simp
      refine hK _ _ ?_
      clear hK K
      (try simp only [Act.put, List.getElem_toArray, List.getElem_cons_zero, List.getElem_cons_succ, List.setIfInBounds_toArray, List.set_cons_zero, List.set_cons_succ])
      refine wpAnyIn_ready (rs := [0, 2]) (by kernel_rfl) (by simp) ?_
      refine AllReadyIn.cons (o := _) rfl (fun K hK => ?_) ?_
      · (try simp only [List.getElem_toArray, List.getElem_cons_zero, List.getElem_cons_succ])
        go_simp
        refine hK _ _ ?_
        clear hK K
        (try simp only [Act.put, List.getElem_toArray, List.getElem_cons_zero, List.getElem_cons_succ, List.setIfInBounds_toArray, List.set_cons_zero, List.set_cons_succ])
        refine wpAnyIn_ready (rs := [2]) (by kernel_rfl) (by simp) ?_
        refine AllReadyIn.cons (o := _) rfl (fun K hK => ?_) ?_
        · (try simp only [List.getElem_toArray, List.getElem_cons_zero, List.getElem_cons_succ])
          go_simp
          (refine ⟨trivial, ?_⟩); (gi_at_call 23; refine (CallsIn.inRound l (callsIn_wide.2 (HT9.out _ (below_drewN HB.out 1)))).mono ?_; rintro e w9c ⟨rfl, rfl⟩)
          refine hK _ _ ?_
          clear hK K
          (try simp only [Act.put, List.getElem_toArray, List.getElem_cons_zero, List.getElem_cons_succ, List.setIfInBounds_toArray, List.set_cons_zero, List.set_cons_succ])
          refine wpAnyIn_ready (rs := [3]) (by kernel_rfl) (by simp) ?_
          refine AllReadyIn.cons (o := _) rfl (fun K hK => ?_) ?_
          · (try simp only [List.getElem_toArray, List.getElem_cons_zero, List.getElem_cons_succ])
            go_simp
            refine hK _ _ ?_
            clear hK K
            (try simp only [Act.put, List.getElem_toArray, List.getElem_cons_zero, List.getElem_cons_succ, List.setIfInBounds_toArray, List.set_cons_zero, List.set_cons_succ])
            refine wpAnyIn_ready (rs := [4]) (by kernel_rfl) (by simp) ?_
            refine AllReadyIn.cons (o := _) rfl (fun K hK => ?_) ?_
            · (try simp only [List.getElem_toArray, List.getElem_cons_zero, List.getElem_cons_succ])
              refine (iff_of_eq (if_pos ?_)).mpr ?_
              · rfl
              refine wpIn_value (v := .slice (some ⟨g9, 0, none⟩) (pre.length + 1) cap9) (w' := w9) ?_ ?_ ?_ ?_
              · rfl
              · exact fun _ => trivial
              · exact run_append_op (.tmp 12) (.tmp 15) 24 rfl rfl rfl hr9
              refine hK _ _ ?_
              clear hK K
              (try simp only [Act.put, List.getElem_toArray, List.getElem_cons_zero, List.getElem_cons_succ, List.setIfInBounds_toArray, List.set_cons_zero, List.set_cons_succ])
              refine wpAnyIn_ready (rs := [5]) (by kernel_rfl) (by simp) ?_
              refine AllReadyIn.cons (o := _) rfl (fun K hK => ?_) ?_
              · (try simp only [List.getElem_toArray, List.getElem_cons_zero, List.getElem_cons_succ])
                go_simp
                refine hK _ _ ?_
                clear hK K
                (try simp only [Act.put, List.getElem_toArray, List.getElem_cons_zero, List.getElem_cons_succ, List.setIfInBounds_toArray, List.set_cons_zero, List.set_cons_succ])
                refine wpAnyIn_done (by kernel_rfl) ?_ _
                exact END.out
              exact AllReadyIn.nil
            exact AllReadyIn.nil
          exact AllReadyIn.nil
        exact AllReadyIn.nil
      refine AllReadyIn.cons (o := _) rfl (fun K hK => ?_) ?_
      · (try simp only [List.getElem_toArray, List.getElem_cons_zero, List.getElem_cons_succ])
        go_simp
        (refine ⟨trivial, ?_⟩); (gi_at_call 23; refine (CallsIn.inRound l (callsIn_wide.2 (HT9.out _ (below_drewN HB.out 1)))).mono ?_; rintro e w9c ⟨rfl, rfl⟩)
        refine hK _ _ ?_
        clear hK K
        (try simp only [Act.put, List.getElem_toArray, List.getElem_cons_zero, List.getElem_cons_succ, List.setIfInBounds_toArray, List.set_cons_zero, List.set_cons_succ])
        refine wpAnyIn_ready (rs := [0, 3]) (by kernel_rfl) (by simp) ?_
        refine AllReadyIn.cons (o := _) rfl (fun K hK => ?_) ?_
        · (try simp only [List.getElem_toArray, List.getElem_cons_zero, List.getElem_cons_succ])
          go_simp
          refine hK _ _ ?_
          clear hK K
          (try simp only [Act.put, List.getElem_toArray, List.getElem_cons_zero, List.getElem_cons_succ, List.setIfInBounds_toArray, List.set_cons_zero, List.set_cons_succ])
          refine wpAnyIn_ready (rs := [3]) (by kernel_rfl) (by simp) ?_
          refine AllReadyIn.cons (o := _) rfl (fun K hK => ?_) ?_
          · (try simp only [List.getElem_toArray, List.getElem_cons_zero, List.getElem_cons_succ])
            go_simp
            refine hK _ _ ?_
            clear hK K
            (try simp only [Act.put, List.getElem_toArray, List.getElem_cons_zero, List.getElem_cons_succ, List.setIfInBounds_toArray, List.set_cons_zero, List.set_cons_succ])
            refine wpAnyIn_ready (rs := [4]) (by kernel_rfl) (by simp) ?_
            refine AllReadyIn.cons (o := _) rfl (fun K hK => ?_) ?_
            · (try simp only [List.getElem_toArray, List.getElem_cons_zero, List.getElem_cons_succ])
              refine (iff_of_eq (if_pos ?_)).mpr ?_
              · rfl
              refine wpIn_value (v := .slice (some ⟨g9, 0, none⟩) (pre.length + 1) cap9) (w' := w9) ?_ ?_ ?_ ?_
              · rfl
              · exact fun _ => trivial
              · exact run_append_op (.tmp 12) (.tmp 15) 24 rfl rfl rfl hr9
              refine hK _ _ ?_
              clear hK K
              (try simp only [Act.put, List.getElem_toArray, List.getElem_cons_zero, List.getElem_cons_succ, List.setIfInBounds_toArray, List.set_cons_zero, List.set_cons_succ])
              refine wpAnyIn_ready (rs := [5]) (by kernel_rfl) (by simp) ?_
              refine AllReadyIn.cons (o := _) rfl (fun K hK => ?_) ?_
              · (try simp only [List.getElem_toArray, List.getElem_cons_zero, List.getElem_cons_succ])
                go_simp
                refine hK _ _ ?_
                clear hK K
                (try simp only [Act.put, List.getElem_toArray, List.getElem_cons_zero, List.getElem_cons_succ, List.setIfInBounds_toArray, List.set_cons_zero, List.set_cons_succ])
                refine wpAnyIn_done (by kernel_rfl) ?_ _
                exact END.out
              exact AllReadyIn.nil
            exact AllReadyIn.nil
          exact AllReadyIn.nil
        refine AllReadyIn.cons (o := _) rfl (fun K hK => ?_) ?_
        · (try simp only [List.getElem_toArray, List.getElem_cons_zero, List.getElem_cons_succ])
          go_simp
          refine hK _ _ ?_
          clear hK K
          (try simp only [Act.put, List.getElem_toArray, List.getElem_cons_zero, List.getElem_cons_succ, List.setIfInBounds_toArray, List.set_cons_zero, List.set_cons_succ])
          refine wpAnyIn_ready (rs := [0]) (by kernel_rfl) (by simp) ?_
          refine AllReadyIn.cons (o := _) rfl (fun K hK => ?_) ?_
          · (try simp only [List.getElem_toArray, List.getElem_cons_zero, List.getElem_cons_succ])
            go_simp
            refine hK _ _ ?_
            clear hK K
            (try simp only [Act.put, List.getElem_toArray, List.getElem_cons_zero, List.getElem_cons_succ, List.setIfInBounds_toArray, List.set_cons_zero, List.set_cons_succ])
            refine wpAnyIn_ready (rs := [4]) (by kernel_rfl) (by simp) ?_
            refine AllReadyIn.cons (o := _) rfl (fun K hK => ?_) ?_
            · (try simp only [List.getElem_toArray, List.getElem_cons_zero, List.getElem_cons_succ])
              refine (iff_of_eq (if_pos ?_)).mpr ?_
              · rfl
              refine wpIn_value (v := .slice (some ⟨g9, 0, none⟩) (pre.length + 1) cap9) (w' := w9) ?_ ?_ ?_ ?_
              · rfl
              · exact fun _ => trivial
              · exact run_append_op (.tmp 12) (.tmp 15) 24 rfl rfl rfl hr9
              refine hK _ _ ?_
              clear hK K
              (try simp only [Act.put, List.getElem_toArray, List.getElem_cons_zero, List.getElem_cons_succ, List.setIfInBounds_toArray, List.set_cons_zero, List.set_cons_succ])
              refine wpAnyIn_ready (rs := [5]) (by kernel_rfl) (by simp) ?_
              refine AllReadyIn.cons (o := _) rfl (fun K hK => ?_) ?_
              · (try simp only [List.getElem_toArray, List.getElem_cons_zero, List.getElem_cons_succ])
                go_simp
                refine hK _ _ ?_
                clear hK K
                (try simp only [Act.put, List.getElem_toArray, List.getElem_cons_zero, List.getElem_cons_succ, List.setIfInBounds_toArray, List.set_cons_zero, List.set_cons_succ])
                refine wpAnyIn_done (by kernel_rfl) ?_ _
                exact END.out
              exact AllReadyIn.nil
            exact AllReadyIn.nil
          exact AllReadyIn.nil
        exact AllReadyIn.nil
      exact AllReadyIn.nil
    exact AllReadyIn.nil
  case done =>
    rintro D ys W hD rfl ⟨hs, hB, hz5⟩ hK
    obtain ⟨g, c, q1, q2, q3, q4, q5, q6, hgw⟩ := hs.e
    have hlen : (rsTo xs R C (List.range R)).length = R := by rw [HSL.out, List.length_range]
    rw [hlen] at q1 q3
    rw [HSE.out.1] at q3
    go_wp2
    refine ⟨by simp, .inl ⟨_, _, rfl, run_takeDeferred hK, ?_⟩⟩
    refine ⟨.slice (some ⟨g, 0, none⟩) R c, by simp [results, Try.results18, go_sem], g, c, rfl, hgw, own_kept q3 (grownBy_putObj' W D (.deferred none)) (fun r e => by cases e; exact ⟨_, hK, rfl⟩), hB.trans (belowK_b (w := w) (Nat.le_refl _) W D _ _ (by omega) hK rfl rfl)⟩
  case stop =>
    rintro D c pre W _ _ h _
    exact h.elim
end Go.Proofs.Ytbpigeipjeegiaa

