/-
  A queue: a slice that begins in the midst of its own block, appended to and shortened at its front.
-/
import Derived.Test.YtnnnpdendnjkhaaOut
import Derived.Deep.AppendLies
namespace Go.Proofs.Ytnnnpdendnjkhaa
open Go Go.RowKit

/-- v is a slice of the call's own whose cells are xs; it may begin anywhere in its block -/
def QOwn (w : World) (base : Nat) (e : TypeId) (v : Value) (xs : List Value) : Prop :=
  ∃ g off cap cur, v = .slice (some ⟨g, off, none⟩) xs.length cap ∧ base ≤ g ∧ w.heap[g]? = some (.cells cur e (0, 0)) ∧ xs.length ≤ cap ∧ cap ≤ maxLen ∧ off + cap ≤ cur.size ∧ (cur.toList.drop off).take xs.length = xs
theorem QOwn.lt {w : World} {base : Nat} {e : TypeId} {v : Value} {xs : List Value} (h : QOwn w base e v xs) {g : Nat} (hg : v.ownBlock = some g) : base ≤ g ∧ g < w.heap.size := by
  obtain ⟨g', off, cap, cur, rfl, hb, hh, _⟩ := h
  have : g' = g := Option.some.inj hg
  subst this
  exact ⟨hb, (Array.getElem?_eq_some_iff.1 hh).1⟩
theorem QOwn.cell {w : World} {base g off n cap : Nat} {e : TypeId} {xs : List Value} (h : QOwn w base e (.slice (some ⟨g, off, none⟩) n cap) xs) {j : Nat} (hj : j < xs.length) : w.cell? ⟨g, off + j, none⟩ = some xs[j] := by
  obtain ⟨g', off', cap', cur, hv, hb, hh, h1, h2, h3, h4⟩ := h
  injection hv with hA hn hc
  injection hA with hA
  injection hA with hg ho _
  subst hg ho
  have hlt : off + j < cur.size := by omega
  have hx : cur[off + j]? = some xs[j] := by
    have h5 : ((cur.toList.drop off).take xs.length)[j]? = some xs[j] := by rw [h4]; exact List.getElem?_eq_getElem hj
    rw [List.getElem?_take_of_lt hj, List.getElem?_drop, Array.getElem?_toList] at h5
    exact h5
  unfold World.cell?
  rw [hh]
  simpa using hx
theorem QOwn.far {w w' : World} {base : Nat} {e : TypeId} {v : Value} {xs : List Value} {row : Option Nat} (h : QOwn w base e v xs) (hg : w.grownBy w' row) (hne : v.ownBlock ≠ row) : QOwn w' base e v xs := by
  obtain ⟨g, off, cap, cur, rfl, hb, hh, hr⟩ := h
  exact ⟨g, off, cap, cur, rfl, hb, by rw [hg.block g (Array.getElem?_eq_some_iff.1 hh).1 hne]; exact hh, hr⟩
theorem QOwn.below {w w' : World} {base : Nat} {e : TypeId} {v : Value} {xs : List Value} (h : QOwn w base e v xs) (hb : Below w.heap.size w w') : QOwn w' base e v xs := by
  obtain ⟨g, off, cap, cur, rfl, hbb, hh, hr⟩ := h
  exact ⟨g, off, cap, cur, rfl, hbb, by rw [hb.block g (Array.getElem?_eq_some_iff.1 hh).1]; exact hh, hr⟩
theorem QOwn.start {w : World} {base : Nat} {e : TypeId} {x : Value} (hb : base ≤ w.heap.size) : QOwn (w.alloc (.cells #[x] e)) base e (.slice (some ⟨w.heap.size, 0, none⟩) 1 1) [x] :=
  ⟨w.heap.size, 0, 1, #[x], rfl, hb, heap_alloc_new w _, Nat.le_refl _, by unfold maxLen; omega, by simp, by simp⟩
/-- what is left behind the first one -/
theorem QOwn.pop {w : World} {base g off n cap : Nat} {e : TypeId} {x : Value} {xs : List Value} (h : QOwn w base e (.slice (some ⟨g, off, none⟩) n cap) (x :: xs)) : QOwn w base e (.slice (if cap = 1 then some ⟨g, off, none⟩ else some ⟨g, off + 1, none⟩) (n - 1) (cap - 1)) xs := by
  obtain ⟨g', off', cap', cur, hv, hb, hh, h1, h2, h3, h4⟩ := h
  injection hv with hA hn hc
  injection hA with hA
  injection hA with hg ho _
  subst hg ho hn hc
  simp only [List.length_cons] at h1 h4 ⊢
  have h5 : (cur.toList.drop (off + 1)).take xs.length = xs := by
    have h6 := congrArg (List.drop 1) h4
    rw [List.drop_take, List.drop_drop, Nat.add_sub_cancel] at h6
    exact h6
  by_cases hc : cap = 1
  · subst hc
    obtain rfl : xs = [] := List.eq_nil_of_length_eq_zero (by omega)
    exact ⟨g, off, 0, cur, by simp, hb, hh, by simp, by omega, by omega, by simp⟩
  · exact ⟨g, off + 1, cap - 1, cur, by simp [hc], hb, hh, by omega, by omega, by omega, h5⟩
section
variable {P : Program}
theorem run_append_queue (w : World) (t ty : TypeId) (base : Nat) (e : TypeId) (i : TypeInfo) (z : Value) (ht : P.underlying t = some (.slice e)) (hi : P.info? e = some i) (hz : i.zero = some z)
    (hsize : i.size = 1) (hby : i.bytes ≤ 8) (hzs : z.cells.size = 1) (v : Value) (xs : List Value) (hq : QOwn w base e v xs) (hlen : xs.length ≤ 1048576)
    (ad : Addr) (c : Nat) (u : Value) (hnews : w.cell? ad = some u) (h1 : u.oneCell' = true) (hbase : base ≤ w.heap.size) :
    ∃ g off cap w', (Builtin.append_ #[t, t] ty #[v, .slice (some ad) 1 c]).run P w = .ok (.slice (some ⟨g, off, none⟩) (xs.length + 1) cap) w' ∧
      QOwn w' base e (.slice (some ⟨g, off, none⟩) (xs.length + 1) cap) (xs ++ [u]) ∧ w.grownBy w' v.ownBlock ∧ (v.ownBlock = some g ∨ g = w.heap.size) := by
  obtain ⟨g, off, cap, cur, rfl, hb, hh, hc1, hc2, hc3, hx⟩ := id hq
  have hnw : ∀ j v, [u][j]? = some v → w.cell? (ad.add j) = some v := fun j v hj => by
    cases j with
    | zero =>
      have hv : u = v := Option.some.inj hj
      subst hv
      have : ad.add 0 = ad := by unfold Addr.add; split <;> simp_all
      rw [this]
      exact hnews
    | succ j => simp at hj
  have hnl : [u].length = 1 * i.size := by rw [hsize]; rfl
  have hlen2 : (xs ++ [u]).length = xs.length + 1 := by simp
  by_cases hroom : xs.length + 1 ≤ cap
  · refine ⟨g, off, cap, w.setRow g (cur.toList.take (off + xs.length) ++ [u] ++ cur.toList.drop (off + xs.length + 1)).toArray, ?_, ?_, ⟨rfl, rfl, rfl, by simp, fun k _ hk => setRow_other w g k _ (fun e => hk (by simp [Value.ownBlock, e]))⟩, .inl rfl⟩
    · have hf := run_firstCells_some (P := P) w i.size 1 ad 1 c [u] hnl hnw
      have hst := run_storeCells_at P g off e [u] xs.length cur w hh (by simp; omega) (by simpa using h1)
      have hst2 := run_storeCells_at P g (off + xs.length) e [u] 0 cur w hh (by simp; omega) (by simpa using h1)
      simp only [Nat.add_zero, List.length_singleton] at hst2
      have hadd : (⟨g, off, none⟩ : Addr).add xs.length = ⟨g, off + xs.length, none⟩ := by unfold Addr.add; split <;> simp_all
      rw [hsize] at hf
      simp at hst2
      simp [Builtin.append_, run_underlying ht, sizeOf, typeInfo, hi, Builtin.lenOf, hroom, hf, hsize, hadd, hst2]
    · refine ⟨g, off, cap, _, by rw [hlen2], hb, setRow_heap w g cur _ e _ hh, by rw [hlen2]; exact hroom, hc2, ?_, ?_⟩
      · simp only [List.size_toArray, List.length_append, List.length_take, List.length_drop, Array.length_toList, List.length_singleton]
        omega
      · rw [hlen2]
        have hA : cur.toList.take (off + xs.length) = cur.toList.take off ++ xs := by rw [List.take_add, hx]
        have hL : (cur.toList.take off).length = off := by rw [List.length_take, Array.length_toList]; omega
        simp only [hA, List.append_assoc]
        have hd : (cur.toList.take off ++ (xs ++ ([u] ++ cur.toList.drop (off + xs.length + 1)))).drop off = xs ++ ([u] ++ cur.toList.drop (off + xs.length + 1)) := by
          conv => lhs; rw [← hL]
          rw [hL]
          exact List.drop_left' hL
        rw [hd, ← List.append_assoc]
        exact List.take_left' hlen2
  · have holds : ∀ j v, xs[j]? = some v → w.cell? ((⟨g, off, none⟩ : Addr).add j) = some v := fun j v hj => by
      obtain ⟨hjl, hjv⟩ := List.getElem?_eq_some_iff.1 hj
      have hadd : (⟨g, off, none⟩ : Addr).add j = ⟨g, off + j, none⟩ := by unfold Addr.add; split <;> simp_all
      rw [hadd, hq.cell hjl, hjv]
    have hby2 : (xs.length + 1) * i.bytes ≤ 1048577 * 8 := Nat.mul_le_mul (by omega) hby
    have hr := run_append_grow (P := P) w t ty e i z ht hi hz ⟨g, off, none⟩ xs.length cap xs (by rw [hsize, Nat.mul_one]) holds ad 1 c [u] hnl hnw (by omega) (by omega) (growslice_fits (by omega) (by omega))
    have hge := grownCap_ge w (xs.length + 1) cap e
    have hcm : grownCap w (xs.length + 1) cap e ≤ maxLen := grownCap_le_maxLen w (xs.length + 1) cap e (by unfold maxLen; omega)
    refine ⟨_, 0, _, _, hr, ⟨w.heap.size, 0, _, _, by rw [hlen2], hbase, heap_alloc_new w.drew _, by rw [hlen2]; exact hge, hcm, ?_, ?_⟩, ⟨rfl, rfl, rfl, by simp, fun k hk _ => Below.heap_alloc w.drew _ k hk⟩, .inr rfl⟩
    · simp only [Array.size_append, List.size_toArray, size_zeroCells, hzs, List.length_singleton]
      omega
    · simp only [Array.toList_append, List.drop_zero]
      exact List.take_left' (by simp)
theorem wpList_append_queue (w : World) {ops : Array Oper} {rest : List Oper} {o : Oper} {a : Act} {Q : Exit → Act → World → Prop} (hgd : o.guard = none) (s x : Operand) (t : TypeId)
    (ho : o.op = .call { callee := .builtin .append, args := #[s, x], argTypes := #[t, t] })
    (base : Nat) (e : TypeId) (i : TypeInfo) (z : Value) (ht : P.underlying t = some (.slice e)) (hi : P.info? e = some i) (hz : i.zero = some z)
    (hsize : i.size = 1) (hby : i.bytes ≤ 8) (hzs : z.cells.size = 1) (v : Value) (xs : List Value) (hs : a.eval s = v) (hq : QOwn w base e v xs) (hlen : xs.length ≤ 1048576)
    (ad : Addr) (c : Nat) (u : Value) (hx : a.eval x = .slice (some ad) 1 c) (hnews : w.cell? ad = some u) (h1 : u.oneCell' = true) (hbase : base ≤ w.heap.size)
    (h : ∀ g off cap w', QOwn w' base e (.slice (some ⟨g, off, none⟩) (xs.length + 1) cap) (xs ++ [u]) → w.grownBy w' v.ownBlock → (v.ownBlock = some g ∨ g = w.heap.size) → wpList P ops Q rest (a.put o.dst (.slice (some ⟨g, off, none⟩) (xs.length + 1) cap)) w') : wpList P ops Q (o :: rest) a w := by
  obtain ⟨g, off, cap, w', hr, h2, h3, h4⟩ := run_append_queue (P := P) w t o.type base e i z ht hi hz hsize hby hzs v xs hq hlen ad c u hnews h1 hbase
  refine wpList_plain hgd fun K hK => ?_
  unfold Oper.wp execOp
  simp only [ho, resolve, invoke, builtin, Sem.run_bind, Sem.run_pure, Result.andThen_ok, List.map_toArray, List.map_cons, List.map_nil, hs, hx, hr]
  exact hK _ _ (h g off cap w' h2 h3 h4)
end
end Go.Proofs.Ytnnnpdendnjkhaa
