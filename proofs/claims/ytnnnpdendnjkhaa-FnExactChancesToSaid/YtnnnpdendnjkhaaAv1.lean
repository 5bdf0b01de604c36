/-
  What times and chances are of (plain), and rows of single numbers that the call owns with a row that grows, all apart.
-/
import Derived.Test.YtnnnpdendnjkhaaDl2
namespace Go.Proofs.Ytnnnpdendnjkhaa
open Go Go.RowKit Ieee

/-- the states that are none of some, as numbers -/
def openN (n : Nat) (but : List Int) : List Nat := (List.range n).filter fun i => !but.contains (i : Int)
theorem openL_N (n : Nat) (but : List Int) : il (openL n but) = nlv (openN n but) ∧ (openL n but).length = (openN n but).length := by
  have e : openL n but = (openN n but).map Int.ofNat := by
    unfold openL openN upsN
    rw [List.filter_map]
    rfl
  rw [e]
  refine ⟨?_, by simp⟩
  unfold il nlv
  rw [List.map_map]
  rfl
theorem openN_lt {n : Nat} {but : List Int} {i : Nat} (h : i < (openN n but).length) : (openN n but).getD i 0 < n ∧ but.contains (((openN n but).getD i 0 : Nat) : Int) = false := by
  have hm : (openN n but)[i] ∈ openN n but := List.getElem_mem h
  have e : (openN n but).getD i 0 = (openN n but)[i] := by rw [List.getD_eq_getElem?_getD, List.getElem?_eq_getElem h]; rfl
  rw [e]
  have h2 := List.mem_filter.1 hm
  exact ⟨List.mem_range.1 h2.1, by simpa using h2.2⟩
theorem openN_nodup (n : Nat) (but : List Int) : (openN n but).Nodup := List.nodup_range.filter _
theorem openN_inj {n : Nat} {but : List Int} {i k : Nat} (hi : i < (openN n but).length) (hk : k < (openN n but).length) : ((openN n but).getD i 0 = (openN n but).getD k 0) ↔ i = k := by
  have e : ∀ j (hj : j < (openN n but).length), (openN n but).getD j 0 = (openN n but)[j] := fun j hj => by rw [List.getD_eq_getElem?_getD, List.getElem?_eq_getElem hj]; rfl
  rw [e i hi, e k hk]
  exact List.getElem_inj (openN_nodup n but)
theorem openN_le (n : Nat) (but : List Int) : (openN n but).length ≤ n := by
  have := List.length_filter_le (fun i : Nat => !but.contains (i : Int)) (List.range n)
  rw [List.length_range] at this
  exact this
def oneF : Nat := 1065353216
def unitF (b : Bool) : Nat := if b = true then oneF else 0
/-- the rows that are solved, each with its right side behind it -/
def cofM (xs : List Nat) (n : Nat) (ls : List Nat) (right : Nat → Nat) : Nat → Nat → Nat := fun r c => if c < ls.length then fsub (unitF (decide (r = c))) (stepOf xs n (ls.getD r 0) (ls.getD c 0)) else right (ls.getD r 0)
theorem unitF_num (b : Bool) : isNan single (unitF b) = false := by cases b <;> decide +kernel
theorem cofM_run {xs : List Nat} {n : Nat} {ls : List Nat} {right : Nat → Nat} (hl : xs.length = n * n) (hp : xs.all partB = true) {r c : Nat} (hr : ls.getD r 0 < n) (hc : ls.getD c 0 < n) (hcl : c < ls.length) :
    floatBits .sub .f32 (unitF (decide (r = c))) (stepOf xs n (ls.getD r 0) (ls.getD c 0)) = some (cofM xs n ls right r c) := by
  unfold cofM
  rw [if_pos hcl]
  exact (fsub_run (unitF_num _) (part_key (stepOf_part hl hp hr hc)).2.2.2).1
theorem cofM_right {xs : List Nat} {n : Nat} {ls : List Nat} {right : Nat → Nat} {r : Nat} : cofM xs n ls right r ls.length = right (ls.getD r 0) := if_neg (by omega)
/-- numbers put at their places among given ones -/
def putM (ls : List Nat) (x : Nat → Nat) (f : Nat → Nat) : Nat → Nat → Nat
  | 0 => f
  | k + 1 => fun i => if i = ls.getD k 0 then x k else putM ls x f k i
/-- the first so many numbers of a row -/
def rowTo (C : Nat → Nat → Nat) (r k : Nat) : List Nat := (List.range k).map (C r)
theorem rowTo_succ (C : Nat → Nat → Nat) (r k : Nat) : fl (rowTo C r (k + 1)) = fl (rowTo C r k) ++ [.float .f32 (C r k)] := by
  unfold rowTo
  rw [List.range_succ, List.map_append]
  simp [fl]
theorem rowTo_len (C : Nat → Nat → Nat) (r k : Nat) : (rowTo C r k).length = k := by simp [rowTo]

theorem info_f32s : (Try.prog.info? 22).map (fun i => (i.zero, i.size, i.bytes)) = some (some (.slice none 0 0), 1, 24) := by kernel_rfl
theorem own_neF {a b : Option Nat} (h : ∀ j, a = some j → b ≠ some j) : a = none ∨ a ≠ b := by
  cases a with
  | none => exact .inl rfl
  | some j => exact .inr fun e => h j rfl e.symm
structure FR (W : World) (base : Nat) (v : Value) (rs : List (List Nat × Value)) (u : Value) (vs : List Value) : Prop where
  m : W.ownsRow base 22 1 v rs.length (rs.map (·.2))
  r : ∀ x ∈ rs, W.ownsRow base 42 1 x.2 x.1.length (fl x.1)
  o : W.ownsRow base 42 1 u vs.length vs
  mr : ∀ x ∈ rs, ∀ j, x.2.ownBlock = some j → v.ownBlock ≠ some j
  ur : ∀ x ∈ rs, ∀ j, x.2.ownBlock = some j → u.ownBlock ≠ some j
  uv : ∀ j, u.ownBlock = some j → v.ownBlock ≠ some j
  rr : rs.Pairwise fun x y => ∀ j, x.2.ownBlock = some j → y.2.ownBlock ≠ some j
variable {W W' W0 W1 W2 W3 : World} {base : Nat} {v u : Value} {rs : List (List Nat × Value)} {vs : List Value}
theorem FR.keep (h : FR W base v rs u vs) (hb : Below W.heap.size W W') : FR W' base v rs u vs := ⟨own_below h.m hb, fun x hx => own_below (h.r x hx) hb, own_below h.o hb, h.mr, h.ur, h.uv, h.rr⟩
theorem FR.rowLt (h : FR W base v rs u vs) {x : List Nat × Value} (hx : x ∈ rs) {j : Nat} (hj : x.2.ownBlock = some j) : j < W.heap.size := ((h.r x hx).lt j hj).2
theorem FR.add {g cap q : Nat} {x : Value} {o : Obj} (h : FR W0 base v rs u vs) (hq : vs.length = q) (hgr : (W0.alloc o).grownBy W3 u.ownBlock) (ho : W3.ownsRow base 42 1 (.slice (some ⟨g, 0, none⟩) (q + 1) cap) (q + 1) (vs ++ [x])) (hat : u.ownBlock = some g ∨ g = W0.heap.size + 1) :
    FR W3 base v rs (.slice (some ⟨g, 0, none⟩) (q + 1) cap) (vs ++ [x]) := by
  subst hq
  have h2 := h.keep (below_al (Below.refl _ _) o)
  refine ⟨h2.m.kept hgr (own_neF fun j hv hu => h.uv j hu hv), fun y hy => (h2.r y hy).kept hgr (own_neF fun j hr hu => h.ur y hy j hr hu), by rw [List.length_append]; exact ho, h.mr, fun y hy j hj e => ?_, fun j hj e => ?_, h.rr⟩
  · have e : g = j := Option.some.inj e
    subst e
    have := h.rowLt hy hj
    rcases hat with hat | hat
    · exact h.ur y hy _ hj hat
    · omega
  · have hj : g = j := Option.some.inj hj
    subst hj
    have := (h.m.lt g e).2
    rcases hat with hat | hat
    · exact h.uv _ hat e
    · omega
theorem FR.push {g cap q : Nat} {o : Obj} {l : List Nat} (h : FR W0 base v rs u (fl l)) (hq : rs.length = q) (hgr : (W0.alloc o).grownBy W3 v.ownBlock) (ho : W3.ownsRow base 22 1 (.slice (some ⟨g, 0, none⟩) (q + 1) cap) (q + 1) (rs.map (·.2) ++ [u])) (hat : v.ownBlock = some g ∨ g = W0.heap.size + 1) :
    FR W3 base (.slice (some ⟨g, 0, none⟩) (q + 1) cap) (rs ++ [(l, u)]) (.slice none 0 0) [] := by
  subst hq
  have h2 := h.keep (below_al (Below.refl _ _) o)
  have hol := h2.o
  rw [fl_len] at hol
  refine ⟨by rw [List.length_append, List.map_append]; exact ho, fun y hy => ?_, World.ownsRow_nil _ _ _ _, fun y hy j hj e => ?_, fun y hy j hj e => (by cases e), (fun j hj => by cases hj), ?_⟩
  · rcases List.mem_append.1 hy with hy | hy
    · exact (h2.r y hy).kept hgr (own_neF fun j hr hv => h.mr y hy j hr hv)
    · rw [List.mem_singleton] at hy
      subst hy
      exact hol.kept hgr (own_neF fun j hu hv => h.uv j hu hv)
  · have e : g = j := Option.some.inj e
    subst e
    rcases List.mem_append.1 hy with hy | hy
    · have := h.rowLt hy hj
      rcases hat with hat | hat
      · exact h.mr y hy _ hj hat
      · omega
    · rw [List.mem_singleton] at hy
      subst hy
      have := (h.o.lt g hj).2
      rcases hat with hat | hat
      · exact h.uv _ hj hat
      · omega
  · rw [List.pairwise_append]
    refine ⟨h.rr, List.pairwise_singleton _ _, fun x hx y hy j hj e => ?_⟩
    rw [List.mem_singleton] at hy
    subst hy
    exact h.ur x hx j hj e
theorem FR.fresh (h : FR W base v rs u vs) (hb : base ≤ W.heap.size) : FR (W.alloc (.cells #[] 42)) base v rs (.slice (some ⟨W.heap.size, 0, none⟩) 0 0) [] := by
  have h1 := h.keep (below_al (Below.refl _ _) (.cells #[] 42))
  refine ⟨h1.m, h1.r, own_base (World.ownsRow_made W #[] 0 (base := W.heap.size) (e := 42) (size := 1) (Nat.le_refl _) (by unfold maxLen; omega) rfl) hb, h1.mr, fun y hy j hj e => ?_, fun j hj e => ?_, h1.rr⟩
  · have e : W.heap.size = j := Option.some.inj e
    have := h.rowLt hy hj
    omega
  · have hj : W.heap.size = j := Option.some.inj hj
    have := (h.m.lt j e).2
    omega
theorem FR.start (W : World) : FR (W.alloc (.cells #[] 22)) W.heap.size (.slice (some ⟨W.heap.size, 0, none⟩) 0 0) [] (.slice none 0 0) [] :=
  ⟨World.ownsRow_made W #[] 0 (base := W.heap.size) (e := 22) (size := 1) (Nat.le_refl _) (by unfold maxLen; omega) rfl, (fun x hx => absurd hx (by simp)), World.ownsRow_nil _ _ _ _, (fun x hx => absurd hx (by simp)), (fun x hx => absurd hx (by simp)), (fun _ e => by cases e), List.Pairwise.nil⟩
theorem FR.add_below {w : World} {o : Obj} (h : FR W0 base v rs u vs) (hw : Below w.heap.size w W0) (hb : w.heap.size ≤ base) (hgr : (W0.alloc o).grownBy W3 u.ownBlock) : Below w.heap.size w W3 :=
  (below_al hw o).grown hgr (below_al hw o).size fun j hj => by have := (h.o.lt j hj).1; omega
theorem FR.push_below {w : World} {o : Obj} (h : FR W0 base v rs u vs) (hw : Below w.heap.size w W0) (hb : w.heap.size ≤ base) (hgr : (W0.alloc o).grownBy W3 v.ownBlock) : Below w.heap.size w W3 :=
  (below_al hw o).grown hgr (below_al hw o).size fun j hj => by have := (h.m.lt j hj).1; omega
/-- the matrix that such rows are -/
theorem FR.toM {R cap n : Nat} {C : Nat → Nat → Nat} (h : FR W base (.slice (some ⟨R, 0, none⟩) n cap) rs u vs) (hn : rs.length = n) (hc : rs.map (·.1) = (List.range n).map fun r => rowTo C r (n + 1)) : ∃ bl cp, MR W base n R bl cp C := by
  have hrow : ∀ r (hr : r < n), ∃ g c, rs[r].2 = .slice (some ⟨g, 0, none⟩) (n + 1) c ∧ rs[r].1 = rowTo C r (n + 1) := by
    intro r hr
    have hr' : r < rs.length := by omega
    have e1 : (rs.map (·.1))[r]? = some rs[r].1 := by rw [List.getElem?_map, List.getElem?_eq_getElem hr']; rfl
    rw [hc, List.getElem?_map, List.getElem?_range hr] at e1
    have e1 := Option.some.inj e1
    have ho := h.r rs[r] (List.getElem_mem hr')
    rw [← e1, rowTo_len] at ho
    rcases ho.2 with ⟨hv, hn0⟩ | ⟨g', cap', cur, hv, _⟩
    · omega
    · exact ⟨g', cap', hv, e1.symm⟩
  let bl : Nat → Nat := fun r => if hr : r < n then (hrow r hr).choose else 0
  let cp : Nat → Nat := fun r => if hr : r < n then (hrow r hr).choose_spec.choose else 0
  have hspec : ∀ r (hr : r < n), rs[r].2 = .slice (some ⟨bl r, 0, none⟩) (n + 1) (cp r) ∧ rs[r].1 = rowTo C r (n + 1) := by
    intro r hr
    have e1 : bl r = (hrow r hr).choose := dif_pos hr
    have e2 : cp r = (hrow r hr).choose_spec.choose := dif_pos hr
    rw [e1, e2]
    exact (hrow r hr).choose_spec.choose_spec
  have hown : ∀ r (hr : r < n), W.ownsRow base 42 1 (.slice (some ⟨bl r, 0, none⟩) (n + 1) (cp r)) (n + 1) (fl (rowTo C r (n + 1))) := by
    intro r hr
    have ho := h.r rs[r] (List.getElem_mem (by omega))
    rw [(hspec r hr).2, rowTo_len, (hspec r hr).1] at ho
    exact ho
  have hfrozen : ∀ {e : TypeId} {g c k : Nat} {xs : List Value}, W.ownsRow base e 1 (.slice (some ⟨g, 0, none⟩) k c) k xs → ∀ j, W.frozen? ⟨g, j, none⟩ = false := by
    intro e g c k xs ho j
    rcases ho.2 with ⟨hv, _⟩ | ⟨g', cap', cur, hv, hb, hh, _⟩
    · cases hv
    · cases hv
      simp [World.frozen?, hh]
  refine ⟨bl, cp, fun r hr => ?_, fun r hr => ?_, fun r c hr hcc => ?_, fun r c hr hcc => hfrozen (hown r hr) c, fun r hr e => ?_, fun r s hr hs e => ?_, fun hn0 => ?_, fun r hr => ?_⟩
  · have h1 := h.m.cells (g := R) rfl r rs[r].2 (by rw [List.getElem?_map, List.getElem?_eq_getElem (by omega)]; rfl)
    have hadd : (⟨R, 0, none⟩ : Addr).add r = ⟨R, r, none⟩ := by unfold Addr.add; split <;> simp_all
    rw [hadd, (hspec r hr).1] at h1
    exact h1
  · have hm := h.m
    rw [hn] at hm
    exact hfrozen hm r
  · have h1 := (hown r hr).cells (g := bl r) rfl c (.float .f32 (C r c)) (by
      unfold fl rowTo
      rw [List.map_map, List.getElem?_map, List.getElem?_range (by omega)]
      rfl)
    have hadd : (⟨bl r, 0, none⟩ : Addr).add c = ⟨bl r, c, none⟩ := by unfold Addr.add; split <;> simp_all
    rw [hadd] at h1
    exact h1
  · exact h.mr rs[r] (List.getElem_mem (by omega)) (bl r) (by rw [(hspec r hr).1]; rfl) (by rw [e]; rfl)
  · have hp := List.pairwise_iff_getElem.1 h.rr
    rcases Nat.lt_trichotomy r s with hl | hl | hl
    · exact absurd (by rw [(hspec s hs).1, ← e]; rfl) (hp r s (by omega) (by omega) hl (bl r) (by rw [(hspec r hr).1]; rfl))
    · exact hl
    · exact absurd (by rw [(hspec r hr).1, e]; rfl) (hp s r (by omega) (by omega) hl (bl s) (by rw [(hspec s hs).1]; rfl))
  · exact (h.m.lt R rfl).1
  · exact ((hown r hr).lt (bl r) rfl).1
end Go.Proofs.Ytnnnpdendnjkhaa
