/-
  A list of rows of integers that the call owns, a row that grows, and a row of bools, all apart.
-/
import Derived.Test.YtadkpmmbnenemaaGreatDoorTi
import Derived.Test.YtadkpmmbnenemaaGreatDoorCy0
namespace Go.Proofs.YtadkpmmbnenemaaGreatDoor
open Go Go.RowKit

theorem info_i64s : (Tryz.prog.info? 22).map (fun i => (i.zero, i.size, i.bytes)) = some (some (.slice none 0 0), 1, 24) := by kernel_rfl
structure LS (W : World) (base p n : Nat) (f : Nat → Bool) (v : Value) (rs : List (List Int × Value)) (u : Value) (vs : List Value) : Prop where
  m : W.ownsRow base 22 1 v rs.length (rs.map (·.2))
  r : ∀ x ∈ rs, W.ownsRow base 2 1 x.2 x.1.length (il x.1)
  o : W.ownsRow base 2 1 u vs.length vs
  s : W.rowIs p 4 n (fun q => .bool (f q))
  mr : ∀ x ∈ rs, ∀ j, x.2.ownBlock = some j → v.ownBlock ≠ some j
  ur : ∀ x ∈ rs, ∀ j, x.2.ownBlock = some j → u.ownBlock ≠ some j
  uv : ∀ j, u.ownBlock = some j → v.ownBlock ≠ some j
  vp : v.ownBlock ≠ some p
  up : u.ownBlock ≠ some p
  rp : ∀ x ∈ rs, x.2.ownBlock ≠ some p
variable {W W' W0 W1 W2 W3 : World} {base p n : Nat} {f : Nat → Bool} {v u : Value} {rs : List (List Int × Value)} {vs : List Value}
theorem own_nes {a b : Option Nat} (h : ∀ j, a = some j → b ≠ some j) : a = none ∨ a ≠ b := by
  cases a with
  | none => exact .inl rfl
  | some j => exact .inr fun e => h j rfl e.symm
theorem LS.keep (h : LS W base p n f v rs u vs) (hb : Below W.heap.size W W') : LS W' base p n f v rs u vs :=
  ⟨own_below h.m hb, fun x hx => own_below (h.r x hx) hb, own_below h.o hb, h.s.of_block (hb.block _ h.s.lt), h.mr, h.ur, h.uv, h.vp, h.up, h.rp⟩
theorem LS.rowLt (h : LS W base p n f v rs u vs) {x : List Int × Value} (hx : x ∈ rs) {j : Nat} (hj : x.2.ownBlock = some j) : j < W.heap.size := ((h.r x hx).lt j hj).2
theorem LS.mark (h : LS W base p n f v rs u vs) (k : Nat) : LS (W.setCell ⟨p, k, none⟩ (.bool true)) base p n (updS f k) v rs u vs := by
  have hg := grown_set (grown_refl W (some p)) k (.bool true)
  refine ⟨h.m.kept hg (.inr h.vp), fun x hx => (h.r x hx).kept hg (.inr (h.rp x hx)), h.o.kept hg (.inr h.up), (h.s.set k _).congr fun q _ => ?_, h.mr, h.ur, h.uv, h.vp, h.up, h.rp⟩
  show (if q = k then Value.bool true else Value.bool (f q)) = Value.bool (if q = k then true else f q)
  split <;> rfl
theorem LS.add {g cap q : Nat} {x : Value} {o : Obj} (h : LS W0 base p n f v rs u vs) (hq : vs.length = q) (hgr : (W0.alloc o).grownBy W3 u.ownBlock) (ho : W3.ownsRow base 2 1 (.slice (some ⟨g, 0, none⟩) (q + 1) cap) (q + 1) (vs ++ [x])) (hat : u.ownBlock = some g ∨ g = W0.heap.size + 1) :
    LS W3 base p n f v rs (.slice (some ⟨g, 0, none⟩) (q + 1) cap) (vs ++ [x]) := by
  subst hq
  have h2 := h.keep (below_al (Below.refl _ _) o)
  have hp := h.s.lt
  refine ⟨h2.m.kept hgr (own_nes fun j hv hu => h.uv j hu hv), fun y hy => (h2.r y hy).kept hgr (own_nes fun j hr hu => h.ur y hy j hr hu), by rw [List.length_append]; exact ho, h2.s.of_block (hgr.block _ (by simp; omega) fun e => h.up e.symm), h.mr, fun y hy j hj e => ?_, fun j hj e => ?_, h.vp, fun e => ?_, h.rp⟩
  · have e : g = j := Option.some.inj e
    subst e
    have := h.rowLt hy hj
    rcases hat with hat | hat
    · exact h.ur y hy _ hj hat
    · omega
  · have hj : g = j := Option.some.inj hj
    subst hj
    have := (h.m.lt g e).2
    rcases hat with hat | hat
    · exact h.uv _ hat e
    · omega
  · have e : g = p := Option.some.inj e
    subst e
    rcases hat with hat | hat
    · exact h.up hat
    · omega
theorem LS.push {g cap q : Nat} {o : Obj} {l : List Int} (h : LS W0 base p n f v rs u (il l)) (hq : rs.length = q) (hgr : (W0.alloc o).grownBy W3 v.ownBlock) (ho : W3.ownsRow base 22 1 (.slice (some ⟨g, 0, none⟩) (q + 1) cap) (q + 1) (rs.map (·.2) ++ [u])) (hat : v.ownBlock = some g ∨ g = W0.heap.size + 1) :
    LS W3 base p n f (.slice (some ⟨g, 0, none⟩) (q + 1) cap) (rs ++ [(l, u)]) (.slice none 0 0) [] := by
  subst hq
  have h2 := h.keep (below_al (Below.refl _ _) o)
  have hp := h.s.lt
  have hol := h2.o
  rw [il_len] at hol
  refine ⟨by rw [List.length_append, List.map_append]; exact ho, fun y hy => ?_, World.ownsRow_nil _ _ _ _, h2.s.of_block (hgr.block _ (by simp; omega) fun e => h.vp e.symm), fun y hy j hj e => ?_, fun y hy j hj e => (by cases e), (fun j hj => by cases hj), fun e => ?_, (fun e => by cases e), fun y hy => ?_⟩
  · rcases List.mem_append.1 hy with hy | hy
    · exact (h2.r y hy).kept hgr (own_nes fun j hr hv => h.mr y hy j hr hv)
    · rw [List.mem_singleton] at hy
      subst hy
      exact hol.kept hgr (own_nes fun j hu hv => h.uv j hu hv)
  · have e : g = j := Option.some.inj e
    subst e
    rcases List.mem_append.1 hy with hy | hy
    · have := h.rowLt hy hj
      rcases hat with hat | hat
      · exact h.mr y hy _ hj hat
      · omega
    · rw [List.mem_singleton] at hy
      subst hy
      have := (h.o.lt g hj).2
      rcases hat with hat | hat
      · exact h.uv _ hj hat
      · omega
  · have e : g = p := Option.some.inj e
    subst e
    rcases hat with hat | hat
    · exact h.vp hat
    · omega
  · rcases List.mem_append.1 hy with hy | hy
    · exact h.rp y hy
    · rw [List.mem_singleton] at hy
      subst hy
      exact h.up
theorem LS.fresh (h : LS W base p n f v rs u vs) (hb : base ≤ W.heap.size) : LS (W.alloc (.cells #[] 2)) base p n f v rs (.slice (some ⟨W.heap.size, 0, none⟩) 0 0) [] := by
  have h1 := h.keep (below_al (Below.refl _ _) (.cells #[] 2))
  have hp := h.s.lt
  refine ⟨h1.m, h1.r, own_base (World.ownsRow_made W #[] 0 (base := W.heap.size) (e := 2) (size := 1) (Nat.le_refl _) (by unfold maxLen; omega) rfl) hb, h1.s, h1.mr, fun y hy j hj e => ?_, fun j hj e => ?_, h1.vp, fun e => ?_, h1.rp⟩
  · have e : W.heap.size = j := Option.some.inj e
    have := h.rowLt hy hj
    omega
  · have hj : W.heap.size = j := Option.some.inj hj
    have := (h.m.lt j e).2
    omega
  · have e : W.heap.size = p := Option.some.inj e
    omega
theorem LS.drop (h : LS W base p n f v rs u vs) : LS W base p n f v rs (.slice none 0 0) [] :=
  ⟨h.m, h.r, World.ownsRow_nil _ _ _ _, h.s, h.mr, (fun _ _ _ _ e => by cases e), (fun _ e => by cases e), h.vp, (fun e => by cases e), h.rp⟩
theorem LS.mark_below {w : World} (hw : Below w.heap.size w W) (hp : w.heap.size ≤ p) (k : Nat) : Below w.heap.size w (W.setCell ⟨p, k, none⟩ (.bool true)) := below_set hw _ _ hp
theorem LS.add_below {w : World} {o : Obj} (h : LS W0 base p n f v rs u vs) (hw : Below w.heap.size w W0) (hb : w.heap.size ≤ base) (hgr : (W0.alloc o).grownBy W3 u.ownBlock) : Below w.heap.size w W3 :=
  (below_al hw o).grown hgr (below_al hw o).size fun j hj => by have := (h.o.lt j hj).1; omega
theorem LS.push_below {w : World} {o : Obj} (h : LS W0 base p n f v rs u vs) (hw : Below w.heap.size w W0) (hb : w.heap.size ≤ base) (hgr : (W0.alloc o).grownBy W3 v.ownBlock) : Below w.heap.size w W3 :=
  (below_al hw o).grown hgr (below_al hw o).size fun j hj => by have := (h.m.lt j hj).1; omega
/-- the list's block and that of the bools, made in either order -/
theorem LS.start1 (W : World) (n : Nat) (o : Obj) (h : (W.alloc o).rowIs W.heap.size 4 n (fun _ => .bool false)) : LS ((W.alloc o).alloc (.cells #[] 22)) W.heap.size W.heap.size n (fun _ => false) (.slice (some ⟨W.heap.size + 1, 0, none⟩) 0 0) [] (.slice none 0 0) [] := by
  have h1 := World.ownsRow_made (W.alloc o) #[] 0 (base := W.heap.size) (e := 22) (size := 1) (by simp) (by unfold maxLen; omega) rfl
  rw [World.size_alloc] at h1
  refine ⟨h1, (fun x hx => absurd hx (by simp)), World.ownsRow_nil _ _ _ _, h.alloc _, (fun x hx => absurd hx (by simp)), (fun x hx => absurd hx (by simp)), (fun _ e => by cases e), fun e => ?_, (fun e => by cases e), (fun x hx => absurd hx (by simp))⟩
  have e : W.heap.size + 1 = W.heap.size := Option.some.inj e
  omega
theorem LS.start2 (W : World) (n : Nat) (o : Obj) (h : ((W.alloc (.cells #[] 22)).alloc o).rowIs (W.heap.size + 1) 4 n (fun _ => .bool false)) : LS ((W.alloc (.cells #[] 22)).alloc o) W.heap.size (W.heap.size + 1) n (fun _ => false) (.slice (some ⟨W.heap.size, 0, none⟩) 0 0) [] (.slice none 0 0) [] := by
  have h1 := World.ownsRow_made W #[] 0 (base := W.heap.size) (e := 22) (size := 1) (Nat.le_refl _) (by unfold maxLen; omega) rfl
  refine ⟨own_below h1 (below_al (Below.refl _ _) _), (fun x hx => absurd hx (by simp)), World.ownsRow_nil _ _ _ _, h, (fun x hx => absurd hx (by simp)), (fun x hx => absurd hx (by simp)), (fun _ e => by cases e), fun e => ?_, (fun e => by cases e), (fun x hx => absurd hx (by simp))⟩
  have e : W.heap.size = W.heap.size + 1 := Option.some.inj e
  omega
/-- a list of rows, for reading -/
structure LR (W : World) (base : Nat) (v : Value) (rs : List (List Int × Value)) : Prop where
  m : W.ownsRow base 22 1 v rs.length (rs.map (·.2))
  r : ∀ x ∈ rs, W.ownsRow base 2 1 x.2 x.1.length (il x.1)
theorem LR.keep (h : LR W base v rs) (hb : Below W.heap.size W W') : LR W' base v rs := ⟨own_below h.m hb, fun x hx => own_below (h.r x hx) hb⟩
theorem LS.lr (h : LS W base p n f v rs u vs) : LR W base v rs := ⟨h.m, h.r⟩
theorem row_form {g : Nat} {l : List Int} {x : Value} (h : W.ownsRow g 2 1 x l.length (il l)) : ∃ A c, x = .slice A l.length c := by
  rcases h.2 with ⟨hv, hn⟩ | ⟨g', cap, cur, hv, _⟩
  · exact ⟨none, 0, by rw [hv, hn]⟩
  · exact ⟨_, _, hv⟩
theorem LR.at_ (h : LR W base v rs) {i : Nat} (hi : i < rs.length) : ∃ g cap A c, v = .slice (some ⟨g, 0, none⟩) rs.length cap ∧ W.cell? ⟨g, i, none⟩ = some (.slice A rs[i].1.length c) ∧ W.ownsRow base 2 1 (.slice A rs[i].1.length c) rs[i].1.length (il rs[i].1) := by
  obtain ⟨g, cap, rfl, hb, hlt⟩ := h.m.form (by omega)
  have h1 := h.m.cells (g := g) rfl i rs[i].2 (by rw [List.getElem?_map, List.getElem?_eq_getElem hi]; rfl)
  have hadd : (⟨g, 0, none⟩ : Addr).add i = ⟨g, i, none⟩ := by unfold Addr.add; split <;> simp_all
  rw [hadd] at h1
  have hr := h.r rs[i] (List.getElem_mem hi)
  obtain ⟨A, c, e⟩ := row_form hr
  rw [e] at h1 hr
  exact ⟨g, cap, A, c, rfl, h1, hr⟩
end Go.Proofs.YtadkpmmbnenemaaGreatDoor
