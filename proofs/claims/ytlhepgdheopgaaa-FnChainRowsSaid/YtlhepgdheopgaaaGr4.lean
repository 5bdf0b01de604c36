/-
  Contracts of the laws' helpers on slices of 64 bit integers: copy, compare, write marks, read marks.
  A queue: a slice that begins in the midst of its own block, appended to and shortened at its front.
  To which states one comes, and groups of states: a search that keeps a list finds all of them; being reached from each other parts states into groups. No program.
  To which states one comes: spec.l07Reach.
  To which states one comes: impl.Chain.reachedFrom, whose list is shortened at its front.
  A matrix of bools that the call owns, row by row, and a row of numbers behind it, all apart.
  impl.GroupsOfChain.
-/
import Derived.Test.YtlhepgdheopgaaaCh
import Derived.BigQuiet
import Derived.Test.YtlhepgdheopgaaaOut
import Derived.Deep.AppendLies
import Derived.Test.YtlhepgdheopgaaaMem
import Derived.Test.YtlhepgdheopgaaaStep
import Derived.Test.YtlhepgdheopgaaaVa3
import Derived.Deep.DeepCutAuto
import Derived.Deep.QuietTactic
import Derived.Deep.RegionHeld3
import Derived.Deep.LoopGhost
namespace Go.Proofs.Ytlhepgdheopgaaa
open Go Go.RowKit

theorem info_i64 : (Try.prog.info? 2).map (fun i => (i.zero, i.size, i.bytes)) = some (some (.int .i64 0), 1, 8) := by kernel_rfl

/-- a number that is no NaN as a double -/
theorem wide_run (x : Nat) (h : isNan Ieee.single x = false) : ∃ r, (∀ W : World, (convert 31 37 (.float .f32 x)).run Try.prog W = .ok (.float .f64 r) W) ∧ isNan Ieee.double r = false := by
  have hs : (Try.prog.underlying 31).isSome = true := by rw [Try.underlying31]; rfl
  obtain ⟨r, hr, hr2⟩ := wide x h
  exact ⟨r, fun W => run_convert_float_float W _ _ .f32 .f64 x r hs Try.underlying37 hr, hr2⟩

theorem il_take_succ {xs : List Int} {k : Nat} (h : k < xs.length) (rest : List Value) (hr : 0 < rest.length) :
    (il (xs.take k) ++ rest).set k (.int .i64 xs[k]) = il (xs.take (k + 1)) ++ rest.tail := by
  have hl : (il (xs.take k)).length = k := by rw [il_len, List.length_take]; omega
  rw [List.set_append_right _ _ (by omega), hl, Nat.sub_self]
  cases rest with
  | nil => simp at hr
  | cons r rs =>
    simp only [List.set_cons_zero, List.tail_cons]
    rw [List.take_succ_eq_append_getElem h]
    unfold il
    rw [List.map_append, List.append_assoc]
    rfl

/-- the marks that a slice of integers gets -/
def marksI (k : Int) : Nat → List Int
  | 0 => []
  | n + 1 => marksI k n ++ [k + n]
theorem marksI_len (k : Int) (n : Nat) : (marksI k n).length = n := by
  induction n with
  | zero => rfl
  | succ n ih => simp [marksI, ih]
theorem marksI_get (k : Int) (n j : Nat) (h : j < n) (hj : j < (marksI k n).length) : (marksI k n)[j] = k + j := by
  induction n with
  | zero => omega
  | succ n ih =>
    simp only [marksI]
    rcases Nat.lt_or_ge j n with h1 | h1
    · rw [List.getElem_append_left (by rw [marksI_len]; exact h1)]
      exact ih h1 _
    · have : j = n := by omega
      subst this
      rw [List.getElem_append_right (by rw [marksI_len]; omega)]
      simp [marksI_len]
theorem marksI_set (k : Int) (j : Nat) (ys : List Value) (h : j < ys.length) : (il (marksI k j) ++ ys.drop j).set j (.int .i64 (k + j)) = il (marksI k (j + 1)) ++ ys.drop (j + 1) := by
  have hl : (il (marksI k j)).length = j := by rw [il_len, marksI_len]
  rw [List.set_append_right _ _ (by omega), hl, Nat.sub_self, List.drop_eq_getElem_cons h]
  simp only [List.set_cons_zero, marksI]
  unfold il
  rw [List.map_append, List.append_assoc]
  rfl

end Go.Proofs.Ytlhepgdheopgaaa

namespace Go.Proofs.Ytlhepgdheopgaaa
open Go Go.RowKit

/-- v is a slice of the call's own whose cells are xs; it may begin anywhere in its block -/
def QOwn (w : World) (base : Nat) (e : TypeId) (v : Value) (xs : List Value) : Prop :=
  ∃ g off cap cur, v = .slice (some ⟨g, off, none⟩) xs.length cap ∧ base ≤ g ∧ w.heap[g]? = some (.cells cur e (0, 0)) ∧ xs.length ≤ cap ∧ cap ≤ maxLen ∧ off + cap ≤ cur.size ∧ (cur.toList.drop off).take xs.length = xs
theorem QOwn.lt {w : World} {base : Nat} {e : TypeId} {v : Value} {xs : List Value} (h : QOwn w base e v xs) {g : Nat} (hg : v.ownBlock = some g) : base ≤ g ∧ g < w.heap.size := by
  obtain ⟨g', off, cap, cur, rfl, hb, hh, _⟩ := h
  have : g' = g := Option.some.inj hg
  subst this
  exact ⟨hb, (Array.getElem?_eq_some_iff.1 hh).1⟩
theorem QOwn.cell {w : World} {base g off n cap : Nat} {e : TypeId} {xs : List Value} (h : QOwn w base e (.slice (some ⟨g, off, none⟩) n cap) xs) {j : Nat} (hj : j < xs.length) : w.cell? ⟨g, off + j, none⟩ = some xs[j] := by
  obtain ⟨g', off', cap', cur, hv, hb, hh, h1, h2, h3, h4⟩ := h
  injection hv with hA hn hc
  injection hA with hA
  injection hA with hg ho _
  subst hg ho
  have hlt : off + j < cur.size := by omega
  have hx : cur[off + j]? = some xs[j] := by
    have h5 : ((cur.toList.drop off).take xs.length)[j]? = some xs[j] := by rw [h4]; exact List.getElem?_eq_getElem hj
    rw [List.getElem?_take_of_lt hj, List.getElem?_drop, Array.getElem?_toList] at h5
    exact h5
  unfold World.cell?
  rw [hh]
  simpa using hx
theorem QOwn.far {w w' : World} {base : Nat} {e : TypeId} {v : Value} {xs : List Value} {row : Option Nat} (h : QOwn w base e v xs) (hg : w.grownBy w' row) (hne : v.ownBlock ≠ row) : QOwn w' base e v xs := by
  obtain ⟨g, off, cap, cur, rfl, hb, hh, hr⟩ := h
  exact ⟨g, off, cap, cur, rfl, hb, by rw [hg.block g (Array.getElem?_eq_some_iff.1 hh).1 hne]; exact hh, hr⟩
theorem QOwn.below {w w' : World} {base : Nat} {e : TypeId} {v : Value} {xs : List Value} (h : QOwn w base e v xs) (hb : Below w.heap.size w w') : QOwn w' base e v xs := by
  obtain ⟨g, off, cap, cur, rfl, hbb, hh, hr⟩ := h
  exact ⟨g, off, cap, cur, rfl, hbb, by rw [hb.block g (Array.getElem?_eq_some_iff.1 hh).1]; exact hh, hr⟩
theorem QOwn.start {w : World} {base : Nat} {e : TypeId} {x : Value} (hb : base ≤ w.heap.size) : QOwn (w.alloc (.cells #[x] e)) base e (.slice (some ⟨w.heap.size, 0, none⟩) 1 1) [x] :=
  ⟨w.heap.size, 0, 1, #[x], rfl, hb, heap_alloc_new w _, Nat.le_refl _, by unfold maxLen; omega, by simp, by simp⟩
/-- what is left behind the first one -/
theorem QOwn.pop {w : World} {base g off n cap : Nat} {e : TypeId} {x : Value} {xs : List Value} (h : QOwn w base e (.slice (some ⟨g, off, none⟩) n cap) (x :: xs)) : QOwn w base e (.slice (if cap = 1 then some ⟨g, off, none⟩ else some ⟨g, off + 1, none⟩) (n - 1) (cap - 1)) xs := by
  obtain ⟨g', off', cap', cur, hv, hb, hh, h1, h2, h3, h4⟩ := h
  injection hv with hA hn hc
  injection hA with hA
  injection hA with hg ho _
  subst hg ho hn hc
  simp only [List.length_cons] at h1 h4 ⊢
  have h5 : (cur.toList.drop (off + 1)).take xs.length = xs := by
    have h6 := congrArg (List.drop 1) h4
    rw [List.drop_take, List.drop_drop, Nat.add_sub_cancel] at h6
    exact h6
  by_cases hc : cap = 1
  · subst hc
    obtain rfl : xs = [] := List.eq_nil_of_length_eq_zero (by omega)
    exact ⟨g, off, 0, cur, by simp, hb, hh, by simp, by omega, by omega, by simp⟩
  · exact ⟨g, off + 1, cap - 1, cur, by simp [hc], hb, hh, by omega, by omega, by omega, h5⟩
section
variable {P : Program}
theorem run_append_queue (w : World) (t ty : TypeId) (base : Nat) (e : TypeId) (i : TypeInfo) (z : Value) (ht : P.underlying t = some (.slice e)) (hi : P.info? e = some i) (hz : i.zero = some z)
    (hsize : i.size = 1) (hby : i.bytes ≤ 8) (hzs : z.cells.size = 1) (v : Value) (xs : List Value) (hq : QOwn w base e v xs) (hlen : xs.length ≤ 1048576)
    (ad : Addr) (c : Nat) (u : Value) (hnews : w.cell? ad = some u) (h1 : u.oneCell' = true) (hbase : base ≤ w.heap.size) :
    ∃ g off cap w', (Builtin.append_ #[t, t] ty #[v, .slice (some ad) 1 c]).run P w = .ok (.slice (some ⟨g, off, none⟩) (xs.length + 1) cap) w' ∧
      QOwn w' base e (.slice (some ⟨g, off, none⟩) (xs.length + 1) cap) (xs ++ [u]) ∧ w.grownBy w' v.ownBlock ∧ (v.ownBlock = some g ∨ g = w.heap.size) := by
  obtain ⟨g, off, cap, cur, rfl, hb, hh, hc1, hc2, hc3, hx⟩ := id hq
  have hnw : ∀ j v, [u][j]? = some v → w.cell? (ad.add j) = some v := fun j v hj => by
    cases j with
    | zero =>
      have hv : u = v := Option.some.inj hj
      subst hv
      have : ad.add 0 = ad := by unfold Addr.add; split <;> simp_all
      rw [this]
      exact hnews
    | succ j => simp at hj
  have hnl : [u].length = 1 * i.size := by rw [hsize]; rfl
  have hlen2 : (xs ++ [u]).length = xs.length + 1 := by simp
  by_cases hroom : xs.length + 1 ≤ cap
  · refine ⟨g, off, cap, w.setRow g (cur.toList.take (off + xs.length) ++ [u] ++ cur.toList.drop (off + xs.length + 1)).toArray, ?_, ?_, ⟨rfl, rfl, rfl, by simp, fun k _ hk => setRow_other w g k _ (fun e => hk (by simp [Value.ownBlock, e]))⟩, .inl rfl⟩
    · have hf := run_firstCells_some (P := P) w i.size 1 ad 1 c [u] hnl hnw
      have hst := run_storeCells_at P g off e [u] xs.length cur w hh (by simp; omega) (by simpa using h1)
      have hst2 := run_storeCells_at P g (off + xs.length) e [u] 0 cur w hh (by simp; omega) (by simpa using h1)
      simp only [Nat.add_zero, List.length_singleton] at hst2
      have hadd : (⟨g, off, none⟩ : Addr).add xs.length = ⟨g, off + xs.length, none⟩ := by unfold Addr.add; split <;> simp_all
      rw [hsize] at hf
      simp at hst2
      simp [Builtin.append_, run_underlying ht, sizeOf, typeInfo, hi, Builtin.lenOf, hroom, hf, hsize, hadd, hst2]
    · refine ⟨g, off, cap, _, by rw [hlen2], hb, setRow_heap w g cur _ e _ hh, by rw [hlen2]; exact hroom, hc2, ?_, ?_⟩
      · simp only [List.size_toArray, List.length_append, List.length_take, List.length_drop, Array.length_toList, List.length_singleton]
        omega
      · rw [hlen2]
        have hA : cur.toList.take (off + xs.length) = cur.toList.take off ++ xs := by rw [List.take_add, hx]
        have hL : (cur.toList.take off).length = off := by rw [List.length_take, Array.length_toList]; omega
        simp only [hA, List.append_assoc]
        have hd : (cur.toList.take off ++ (xs ++ ([u] ++ cur.toList.drop (off + xs.length + 1)))).drop off = xs ++ ([u] ++ cur.toList.drop (off + xs.length + 1)) := by
          conv => lhs; rw [← hL]
          rw [hL]
          exact List.drop_left' hL
        rw [hd, ← List.append_assoc]
        exact List.take_left' hlen2
  · have holds : ∀ j v, xs[j]? = some v → w.cell? ((⟨g, off, none⟩ : Addr).add j) = some v := fun j v hj => by
      obtain ⟨hjl, hjv⟩ := List.getElem?_eq_some_iff.1 hj
      have hadd : (⟨g, off, none⟩ : Addr).add j = ⟨g, off + j, none⟩ := by unfold Addr.add; split <;> simp_all
      rw [hadd, hq.cell hjl, hjv]
    have hby2 : (xs.length + 1) * i.bytes ≤ 1048577 * 8 := Nat.mul_le_mul (by omega) hby
    have hr := run_append_grow (P := P) w t ty e i z ht hi hz ⟨g, off, none⟩ xs.length cap xs (by rw [hsize, Nat.mul_one]) holds ad 1 c [u] hnl hnw (by omega) (by omega) (growslice_fits (by omega) (by omega))
    have hge := grownCap_ge w (xs.length + 1) cap e
    have hcm : grownCap w (xs.length + 1) cap e ≤ maxLen := grownCap_le_maxLen w (xs.length + 1) cap e (by unfold maxLen; omega)
    refine ⟨_, 0, _, _, hr, ⟨w.heap.size, 0, _, _, by rw [hlen2], hbase, heap_alloc_new w.drew _, by rw [hlen2]; exact hge, hcm, ?_, ?_⟩, ⟨rfl, rfl, rfl, by simp, fun k hk _ => Below.heap_alloc w.drew _ k hk⟩, .inr rfl⟩
    · simp only [Array.size_append, List.size_toArray, size_zeroCells, hzs, List.length_singleton]
      omega
    · simp only [Array.toList_append, List.drop_zero]
      exact List.take_left' (by simp)
theorem wpList_append_queue (w : World) {ops : Array Oper} {rest : List Oper} {o : Oper} {a : Act} {Q : Exit → Act → World → Prop} (hgd : o.guard = none) (s x : Operand) (t : TypeId)
    (ho : o.op = .call { callee := .builtin .append, args := #[s, x], argTypes := #[t, t] })
    (base : Nat) (e : TypeId) (i : TypeInfo) (z : Value) (ht : P.underlying t = some (.slice e)) (hi : P.info? e = some i) (hz : i.zero = some z)
    (hsize : i.size = 1) (hby : i.bytes ≤ 8) (hzs : z.cells.size = 1) (v : Value) (xs : List Value) (hs : a.eval s = v) (hq : QOwn w base e v xs) (hlen : xs.length ≤ 1048576)
    (ad : Addr) (c : Nat) (u : Value) (hx : a.eval x = .slice (some ad) 1 c) (hnews : w.cell? ad = some u) (h1 : u.oneCell' = true) (hbase : base ≤ w.heap.size)
    (h : ∀ g off cap w', QOwn w' base e (.slice (some ⟨g, off, none⟩) (xs.length + 1) cap) (xs ++ [u]) → w.grownBy w' v.ownBlock → (v.ownBlock = some g ∨ g = w.heap.size) → wpList P ops Q rest (a.put o.dst (.slice (some ⟨g, off, none⟩) (xs.length + 1) cap)) w') : wpList P ops Q (o :: rest) a w := by
  obtain ⟨g, off, cap, w', hr, h2, h3, h4⟩ := run_append_queue (P := P) w t o.type base e i z ht hi hz hsize hby hzs v xs hq hlen ad c u hnews h1 hbase
  refine wpList_plain hgd fun K hK => ?_
  unfold Oper.wp execOp
  simp only [ho, resolve, invoke, builtin, Sem.run_bind, Sem.run_pure, Result.andThen_ok, List.map_toArray, List.map_cons, List.map_nil, hs, hx, hr]
  exact hK _ _ (h g off cap w' h2 h3 h4)
end
end Go.Proofs.Ytlhepgdheopgaaa

namespace Go.Proofs.Ytlhepgdheopgaaa

def upd (f : Nat → Bool) (k : Nat) : Nat → Bool := fun j => if j = k then true else f j
/-- looking from p at k: what has been seen, and in which order -/
def visit (adj : Nat → Nat → Bool) (p : Nat) (S : (Nat → Bool) × List Nat) (k : Nat) : (Nat → Bool) × List Nat := if (!S.1 k && adj p k) = true then (upd S.1 k, S.2 ++ [k]) else S
def visits (adj : Nat → Nat → Bool) (p : Nat) (S : (Nat → Bool) × List Nat) (m : Nat) : (Nat → Bool) × List Nat := (List.range m).foldl (visit adj p) S
theorem visits_succ (adj : Nat → Nat → Bool) (p : Nat) (S : (Nat → Bool) × List Nat) (m : Nat) : visits adj p S (m + 1) = visit adj p (visits adj p S m) m := by
  unfold visits
  rw [List.range_succ, List.foldl_append]
  rfl
/-- behind so many states of the list -/
def search (adj : Nat → Nat → Bool) (n i : Nat) : Nat → (Nat → Bool) × List Nat
  | 0 => (fun j => decide (j = i), [i])
  | p + 1 => if p < (search adj n i p).2.length then visits adj ((search adj n i p).2.getD p 0) (search adj n i p) n else search adj n i p
theorem search_succ {adj : Nat → Nat → Bool} {n i p : Nat} (h : p < (search adj n i p).2.length) : search adj n i (p + 1) = visits adj ((search adj n i p).2.getD p 0) (search adj n i p) n := by
  show (if p < (search adj n i p).2.length then _ else _) = _
  rw [if_pos h]
theorem search_end {adj : Nat → Nat → Bool} {n i p : Nat} (h : p = (search adj n i p).2.length) : ∀ d, search adj n i (p + d) = search adj n i p := by
  intro d
  induction d with
  | zero => rfl
  | succ d ih =>
    show (if p + d < (search adj n i (p + d)).2.length then visits adj ((search adj n i (p + d)).2.getD (p + d) 0) (search adj n i (p + d)) n else search adj n i (p + d)) = _
    rw [ih, if_neg (by omega)]

/-- k can be reached from i -/
def Rch (adj : Nat → Nat → Bool) (n i k : Nat) : Prop := ∀ P : Nat → Prop, P i → (∀ a b, b < n → P a → adj a b = true → P b) → P k
theorem Rch.refl (adj : Nat → Nat → Bool) (n i : Nat) : Rch adj n i i := fun _ h _ => h
theorem Rch.step {adj : Nat → Nat → Bool} {n i a b : Nat} (h : Rch adj n i a) (hb : b < n) (hab : adj a b = true) : Rch adj n i b := fun P h0 h1 => h1 a b hb (h P h0 h1) hab
theorem Rch.trans {adj : Nat → Nat → Bool} {n i j k : Nat} (h : Rch adj n i j) (h' : Rch adj n j k) : Rch adj n i k := h' (Rch adj n i) h fun _ _ hb ha hab => ha.step hb hab

/-- what holds of the state of a search -/
def Inv (adj : Nat → Nat → Bool) (n i : Nat) (S : (Nat → Bool) × List Nat) : Prop :=
  S.2.Nodup ∧ (∀ j ∈ S.2, j < n) ∧ (∀ j, S.1 j = true ↔ j ∈ S.2) ∧ i ∈ S.2 ∧ (∀ j ∈ S.2, Rch adj n i j)
theorem inv_visit {adj : Nat → Nat → Bool} {n i p k : Nat} {S : (Nat → Bool) × List Nat} (h : Inv adj n i S) (hp : Rch adj n i p) (hk : k < n) : Inv adj n i (visit adj p S k) := by
  unfold visit
  split
  · rename_i hc
    rw [Bool.and_eq_true] at hc
    obtain ⟨h1, h2, h3, h4, h5⟩ := h
    have hns : k ∉ S.2 := fun hm => by
      have := (h3 k).2 hm
      rw [this] at hc
      exact absurd hc.1 (by decide)
    refine ⟨?_, ?_, ?_, List.mem_append_left _ h4, ?_⟩
    · rw [List.nodup_append]
      refine ⟨h1, by simp, fun a ha b hb => ?_⟩
      rw [List.mem_singleton] at hb
      subst hb
      rintro rfl
      exact hns ha
    · intro j hj
      rcases List.mem_append.1 hj with hj | hj
      · exact h2 j hj
      · rw [List.mem_singleton] at hj
        omega
    · intro j
      show upd S.1 k j = true ↔ j ∈ S.2 ++ [k]
      unfold upd
      rw [List.mem_append, List.mem_singleton]
      by_cases hj : j = k
      · rw [if_pos hj]
        exact ⟨fun _ => .inr hj, fun _ => rfl⟩
      · rw [if_neg hj, h3 j]
        exact ⟨.inl, fun h => h.resolve_right hj⟩
    · intro j hj
      rcases List.mem_append.1 hj with hj | hj
      · exact h5 j hj
      · rw [List.mem_singleton] at hj
        subst hj
        exact hp.step hk hc.2
  · exact h
theorem visit_keeps {adj : Nat → Nat → Bool} {p k : Nat} {S : (Nat → Bool) × List Nat} : S.2 <+: (visit adj p S k).2 := by
  unfold visit
  split
  · exact List.prefix_append _ _
  · exact List.prefix_refl _
theorem visits_keeps {adj : Nat → Nat → Bool} {p : Nat} {S : (Nat → Bool) × List Nat} : ∀ m, S.2 <+: (visits adj p S m).2 := by
  intro m
  induction m with
  | zero => exact List.prefix_refl _
  | succ m ih => rw [visits_succ]; exact ih.trans visit_keeps
theorem inv_visits {adj : Nat → Nat → Bool} {n i p : Nat} {S : (Nat → Bool) × List Nat} (h : Inv adj n i S) (hp : Rch adj n i p) : ∀ m, m ≤ n → Inv adj n i (visits adj p S m) := by
  intro m
  induction m with
  | zero => exact fun _ => h
  | succ m ih => intro hm; rw [visits_succ]; exact inv_visit (ih (by omega)) hp (by omega)
theorem visits_all {adj : Nat → Nat → Bool} {n i p : Nat} {S : (Nat → Bool) × List Nat} (h : Inv adj n i S) (hp : Rch adj n i p) : ∀ m, m ≤ n → ∀ k, k < m → adj p k = true → k ∈ (visits adj p S m).2 := by
  intro m
  induction m with
  | zero => intro _ k hk; omega
  | succ m ih =>
    intro hm k hk ha
    rcases Nat.lt_or_ge k m with hlt | hge
    · have h1 := ih (by omega) k hlt ha
      rw [visits_succ]
      exact visit_keeps.subset h1
    · have : k = m := by omega
      subst this
      have hi := inv_visits h hp k (by omega)
      rw [visits_succ]
      unfold visit
      cases hs : (visits adj p S k).1 k with
      | true =>
        rw [if_neg (by simp)]
        exact (hi.2.2.1 k).1 hs
      | false =>
        rw [if_pos (by simp [ha])]
        exact List.mem_append_right _ (by simp)
theorem search_inv {adj : Nat → Nat → Bool} {n i : Nat} (hi : i < n) : ∀ p, Inv adj n i (search adj n i p) := by
  intro p
  induction p with
  | zero => exact ⟨by simp [search], by simpa [search] using hi, by simp [search], by simp [search], fun j hj => by
      have : j = i := by simpa [search] using hj
      subst this
      exact Rch.refl _ _ _⟩
  | succ p ih =>
    show Inv adj n i (if p < (search adj n i p).2.length then _ else _)
    split
    · rename_i hlt
      refine inv_visits ih (ih.2.2.2.2 _ ?_) n (Nat.le_refl _)
      rw [List.getD_eq_getElem?_getD, List.getElem?_eq_getElem hlt]
      exact List.getElem_mem hlt
    · exact ih
theorem nodup_len : ∀ (n : Nat) (l : List Nat), l.Nodup → (∀ x ∈ l, x < n) → l.length ≤ n := by
  intro n
  induction n with
  | zero =>
    intro l _ h
    cases l with
    | nil => simp
    | cons a l => exact absurd (h a (List.mem_cons_self ..)) (by omega)
  | succ n ih =>
    intro l hd h
    by_cases hm : n ∈ l
    · have h1 := ih (l.erase n) (hd.erase n) fun x hx => by
        have h2 := (hd.mem_erase_iff).1 hx
        have := h x h2.2
        have := h2.1
        omega
      rw [List.length_erase_of_mem hm] at h1
      omega
    · have := ih l hd fun x hx => by
        have := h x hx
        have : x ≠ n := fun e => hm (e ▸ hx)
        omega
      omega
theorem search_len {adj : Nat → Nat → Bool} {n i : Nat} (hi : i < n) (p : Nat) : (search adj n i p).2.length ≤ n := nodup_len n _ (search_inv hi p).1 (search_inv hi p).2.1
theorem search_keeps {adj : Nat → Nat → Bool} {n i : Nat} (p : Nat) : (search adj n i p).2 <+: (search adj n i (p + 1)).2 := by
  show _ <+: (if p < (search adj n i p).2.length then visits adj ((search adj n i p).2.getD p 0) (search adj n i p) n else search adj n i p).2
  split
  · exact visits_keeps n
  · exact List.prefix_refl _
theorem search_closed {adj : Nat → Nat → Bool} {n i : Nat} (hi : i < n) : ∀ p, ∀ q, q < p → ∀ hq : q < (search adj n i p).2.length, ∀ k, k < n → adj ((search adj n i p).2[q]) k = true → k ∈ (search adj n i p).2 := by
  intro p
  induction p with
  | zero => intro q hq; omega
  | succ p ih =>
    intro q hqp hq k hk ha
    have hpre := search_keeps (adj := adj) (n := n) (i := i) p
    rcases Nat.lt_or_ge q p with hlt | hge
    · by_cases hl : q < (search adj n i p).2.length
      · have h1 := hpre.getElem hl
        rw [← h1] at ha
        exact hpre.subset (ih q hlt hl k hk ha)
      · exfalso
        have h2 : ¬ p < (search adj n i p).2.length := by omega
        have h3 : search adj n i (p + 1) = search adj n i p := by
          show (if p < (search adj n i p).2.length then _ else _) = _
          rw [if_neg h2]
        rw [h3] at hq
        exact hl hq
    · have hqe : q = p := by omega
      subst hqe
      by_cases hl : q < (search adj n i q).2.length
      · have h1 := hpre.getElem hl
        rw [← h1] at ha
        rw [search_succ hl]
        have hg : (search adj n i q).2.getD q 0 = (search adj n i q).2[q] := by rw [List.getD_eq_getElem?_getD, List.getElem?_eq_getElem hl]; rfl
        rw [hg]
        exact visits_all (search_inv hi q) ((search_inv hi q).2.2.2.2 _ (List.getElem_mem hl)) n (Nat.le_refl _) k hk ha
      · exfalso
        have h3 : search adj n i (q + 1) = search adj n i q := by
          show (if q < (search adj n i q).2.length then _ else _) = _
          rw [if_neg hl]
        rw [h3] at hq
        exact hl hq
/-- whether one comes from i to k -/
def seenB (adj : Nat → Nat → Bool) (n i : Nat) : Nat → Bool := (search adj n i n).1
theorem search_stop {adj : Nat → Nat → Bool} {n i p : Nat} (hi : i < n) (h : p = (search adj n i p).2.length) : search adj n i p = search adj n i n := by
  have hle := search_len (adj := adj) hi p
  have := search_end h (n - p)
  rw [show p + (n - p) = n by omega] at this
  exact this.symm
theorem seen_iff {adj : Nat → Nat → Bool} {n i : Nat} (hi : i < n) (k : Nat) : seenB adj n i k = true ↔ Rch adj n i k := by
  have hv := search_inv (adj := adj) hi n
  have hlen := search_len (adj := adj) hi n
  unfold seenB
  constructor
  · intro h
    exact hv.2.2.2.2 k ((hv.2.2.1 k).1 h)
  · intro h
    refine (hv.2.2.1 k).2 (h (· ∈ (search adj n i n).2) hv.2.2.2.1 fun a b hb ha hab => ?_)
    obtain ⟨q, hq, rfl⟩ := List.getElem_of_mem ha
    exact search_closed hi n q (by omega) hq b hb hab

/-! ### groups -/
def both_ (R : Nat → Nat → Bool) (i k : Nat) : Bool := R i k && R k i
/-- the group that a state takes from those before it; -1 if none -/
def takeG (R : Nat → Nat → Bool) (gs : List Int) (i m : Nat) : Int := match (List.range m).find? (both_ R i) with | some q => gs.getD q 0 | none => -1
def groupsTo (R : Nat → Nat → Bool) : Nat → List Int × Nat
  | 0 => ([], 0)
  | i + 1 => if takeG R (groupsTo R i).1 i i < 0 then ((groupsTo R i).1 ++ [((groupsTo R i).2 : Int)], (groupsTo R i).2 + 1) else ((groupsTo R i).1 ++ [takeG R (groupsTo R i).1 i i], (groupsTo R i).2)
theorem groupsTo_len (R : Nat → Nat → Bool) : ∀ i, (groupsTo R i).1.length = i := by
  intro i
  induction i with
  | zero => rfl
  | succ i ih =>
    unfold groupsTo
    split <;> simp [ih]
theorem groupsTo_many (R : Nat → Nat → Bool) : ∀ i, (groupsTo R i).2 ≤ i := by
  intro i
  induction i with
  | zero => exact Nat.le_refl _
  | succ i ih =>
    unfold groupsTo
    split
    · show (groupsTo R i).2 + 1 ≤ i + 1
      omega
    · show (groupsTo R i).2 ≤ i + 1
      omega
theorem groupsTo_get (R : Nat → Nat → Bool) (q : Nat) : ∀ i, q < i → (groupsTo R i).1.getD q 0 = (groupsTo R (q + 1)).1.getD q 0 := by
  intro i
  induction i with
  | zero => intro h; omega
  | succ i ih =>
    intro h
    rcases Nat.lt_or_ge q i with hlt | hge
    · rw [← ih hlt]
      have hl := groupsTo_len R i
      have : ∀ x : Int, ((groupsTo R i).1 ++ [x]).getD q 0 = (groupsTo R i).1.getD q 0 := fun x => by
        rw [List.getD_eq_getElem?_getD, List.getD_eq_getElem?_getD, List.getElem?_append_left (by omega)]
      show (if takeG R (groupsTo R i).1 i i < 0 then ((groupsTo R i).1 ++ [((groupsTo R i).2 : Int)], (groupsTo R i).2 + 1) else ((groupsTo R i).1 ++ [takeG R (groupsTo R i).1 i i], (groupsTo R i).2)).1.getD q 0 = _
      split
      · exact this _
      · exact this _
    · have : q = i := by omega
      subst this
      rfl
theorem groupsTo_nn (R : Nat → Nat → Bool) : ∀ i, ∀ x ∈ (groupsTo R i).1, 0 ≤ x ∧ x ≤ i := by
  intro i
  induction i with
  | zero => intro x hx; cases hx
  | succ i ih =>
    intro x hx
    unfold groupsTo at hx
    have hm := groupsTo_many R i
    split at hx
    · rcases List.mem_append.1 hx with h | h
      · have := ih x h; omega
      · rw [List.mem_singleton] at h; omega
    · rcases List.mem_append.1 hx with h | h
      · have := ih x h; omega
      · rename_i hneg
        rw [List.mem_singleton] at h
        have hx2 : takeG R (groupsTo R i).1 i i ≤ i := by
          unfold takeG
          split
          · rename_i q hq
            have hqi := List.mem_range.1 (List.mem_of_find?_eq_some hq)
            rw [List.getD_eq_getElem?_getD, List.getElem?_eq_getElem (by rw [groupsTo_len]; exact hqi)]
            exact (ih _ (List.getElem_mem _)).2
          · omega
        omega
/-- being reached from each other is one group -/
theorem groups_same {R : Nat → Nat → Bool} {n : Nat} (ht : ∀ i j k, i < n → j < n → k < n → R i j = true → R j k = true → R i k = true) :
    ∀ b, b < n → ∀ a, a < b → both_ R b a = true → (groupsTo R (b + 1)).1.getD b 0 = (groupsTo R (a + 1)).1.getD a 0 := by
  intro b
  induction b using Nat.strongRecOn with
  | _ b ih =>
    intro hb a hab hm
    have hl := groupsTo_len R b
    obtain ⟨q, hq⟩ : ∃ q, (List.range b).find? (both_ R b) = some q := by
      cases hf : (List.range b).find? (both_ R b) with
      | some q => exact ⟨q, rfl⟩
      | none =>
        rw [List.find?_eq_none] at hf
        exact absurd hm (hf a (List.mem_range.2 hab))
    have hqm : both_ R b q = true := List.find?_some hq
    have hqb : q < b := List.mem_range.1 (List.mem_of_find?_eq_some hq)
    have hqa : q ≤ a := by
      rcases Nat.lt_or_ge a q with hlt | hge
      · exfalso
        obtain ⟨-, -, hno⟩ := List.find?_range_eq_some.1 hq
        have := hno a hlt
        rw [hm] at this
        cases this
      · exact hge
    have htake : takeG R (groupsTo R b).1 b b = (groupsTo R b).1.getD q 0 := by unfold takeG; rw [hq]
    have hnn : 0 ≤ (groupsTo R b).1.getD q 0 := by
      rw [List.getD_eq_getElem?_getD, List.getElem?_eq_getElem (by omega)]
      exact (groupsTo_nn R b _ (List.getElem_mem _)).1
    have h1 : (groupsTo R (b + 1)).1.getD b 0 = (groupsTo R b).1.getD q 0 := by
      show (if takeG R (groupsTo R b).1 b b < 0 then ((groupsTo R b).1 ++ [((groupsTo R b).2 : Int)], (groupsTo R b).2 + 1) else ((groupsTo R b).1 ++ [takeG R (groupsTo R b).1 b b], (groupsTo R b).2)).1.getD b 0 = _
      rw [if_neg (by rw [htake]; omega), htake]
      rw [List.getD_eq_getElem?_getD, List.getElem?_append_right (by omega), hl, Nat.sub_self]
      rfl
    rw [h1, groupsTo_get R q b hqb]
    rcases Nat.lt_or_ge q a with hlt | hge
    · unfold both_ at hm hqm
      rw [Bool.and_eq_true] at hm hqm
      have haq : both_ R a q = true := by
        unfold both_
        rw [Bool.and_eq_true]
        exact ⟨ht a b q (by omega) hb (by omega) hm.2 hqm.1, ht q b a (by omega) hb (by omega) hqm.2 hm.1⟩
      exact (ih a hab (by omega) q hlt haq).symm
    · have : q = a := by omega
      subst this
      rfl
theorem takeG_zero (R : Nat → Nat → Bool) (gs : List Int) (i : Nat) : takeG R gs i 0 = -1 := rfl
theorem find_range_succ (P : Nat → Bool) (m : Nat) : (List.range (m + 1)).find? P = match (List.range m).find? P with | some q => some q | none => if P m = true then some m else none := by
  rw [List.range_succ, List.find?_append]
  cases h : (List.range m).find? P with
  | some q => rfl
  | none =>
    simp only [Option.none_or, List.find?_cons, List.find?_nil]
    cases hp : P m <;> simp
/-- the first one, as the program takes it -/
theorem takeG_first {R : Nat → Nat → Bool} {gs : List Int} {i m : Nat} (hnn : ∀ q, q < m → 0 ≤ gs.getD q 0) : takeG R gs i (m + 1) = if (decide (takeG R gs i m < 0) && both_ R i m) = true then gs.getD m 0 else takeG R gs i m := by
  unfold takeG
  rw [find_range_succ]
  cases h : (List.range m).find? (both_ R i) with
  | some q =>
    have hq := hnn q (List.mem_range.1 (List.mem_of_find?_eq_some h))
    simp only
    rw [decide_eq_false (by omega), Bool.false_and, if_neg (by decide)]
  | none =>
    simp only
    cases hb : both_ R i m <;> simp
/-- the last one, as the reference takes it -/
theorem takeG_last {R : Nat → Nat → Bool} {n i m : Nat} (ht : ∀ i j k, i < n → j < n → k < n → R i j = true → R j k = true → R i k = true) (hi : i < n) (hm : m < i) :
    takeG R (groupsTo R i).1 i (m + 1) = if both_ R i m = true then (groupsTo R i).1.getD m 0 else takeG R (groupsTo R i).1 i m := by
  unfold takeG
  rw [find_range_succ]
  cases h : (List.range m).find? (both_ R i) with
  | some q =>
    have hqm : both_ R i q = true := List.find?_some h
    have hq := List.mem_range.1 (List.mem_of_find?_eq_some h)
    simp only
    split
    · rename_i hb
      rw [groupsTo_get R q i (by omega), groupsTo_get R m i (by omega)]
      unfold both_ at hb hqm
      rw [Bool.and_eq_true] at hb hqm
      refine (groups_same ht m (by omega) q hq ?_).symm
      unfold both_
      rw [Bool.and_eq_true]
      exact ⟨ht m i q (by omega) hi (by omega) hb.2 hqm.1, ht q i m (by omega) hi (by omega) hqm.2 hb.1⟩
    · rfl
  | none =>
    simp only
    cases hb : both_ R i m <;> simp
theorem seen_trans {adj : Nat → Nat → Bool} {n : Nat} : ∀ i j k, i < n → j < n → k < n → seenB adj n i j = true → seenB adj n j k = true → seenB adj n i k = true := fun i j k hi hj _ h1 h2 => by
  rw [seen_iff hi] at h1 ⊢
  rw [seen_iff hj] at h2
  exact h1.trans h2
end Go.Proofs.Ytlhepgdheopgaaa

namespace Go.Proofs.Ytlhepgdheopgaaa
open Go Go.RowKit Ieee

theorem info_bool : (Try.prog.info? 4).map (fun i => (i.zero, i.size, i.bytes)) = some (some (.bool false), 1, 1) := by kernel_rfl
/-- a step from a state to another one that is greater than 0 -/
def adjC (xs : List Nat) (n i k : Nat) : Bool := decide (0 < key single (stepOf xs n i k))
theorem adj_eq {xs : List Nat} {n i k : Nat} (hl : xs.length = n * n) (hp : xs.all partB = true) (hi : i < n) (hk : k < n) : (FloatKind.f32.format.order (stepOf xs n i k) 0 == some .gt) = adjC xs n i k := by
  have := gt_key (f := single) (by decide) (part_key (stepOf_part hl hp hi hk)).1 zero_notNan
  rw [key_zero] at this
  exact this
def nlv (l : List Nat) : List Value := l.map fun n => Value.int .i64 (n : Nat)
theorem nlv_len (l : List Nat) : (nlv l).length = l.length := by simp [nlv]
theorem nlv_snoc (l : List Nat) (k : Nat) : nlv (l ++ [k]) = nlv l ++ [.int .i64 (k : Nat)] := by simp [nlv]
/-- a search: what has been seen lies in block g, the list behind it -/
def SRel (w : World) (g n : Nat) (S : (Nat → Bool) × List Nat) (L : Option Addr) (c : Nat) (wr : World) : Prop :=
  Below w.heap.size w wr ∧ wr.rowIs g 4 n (fun q => .bool (S.1 q)) ∧ wr.ownsRow (g + 1) 2 1 (.slice L S.2.length c) S.2.length (nlv S.2)
theorem SRel.mark {w wr : World} {g n c k : Nat} {S : (Nat → Bool) × List Nat} {L : Option Addr} (h : SRel w g n S L c wr) (hg : w.heap.size ≤ g) : SRel w g n (upd S.1 k, S.2) L c (wr.setCell ⟨g, k, none⟩ (.bool true)) := by
  refine ⟨below_set h.1 _ _ hg, (h.2.1.set k _).congr fun i _ => ?_, ownsRow_setCell_below h.2.2 (a := ⟨g, k, none⟩) (show g < g + 1 by omega) _⟩
  show (if i = k then Value.bool true else Value.bool (S.1 i)) = Value.bool (if i = k then true else S.1 i)
  split <;> rfl
theorem SRel.push {w wr w3 : World} {g n c k b cap : Nat} {f : Nat → Bool} {l : List Nat} {L : Option Addr} {o : Obj} (h : SRel w g n (f, l) L c wr) (hg : w.heap.size ≤ g) (hgr : (wr.alloc o).grownBy w3 (Value.slice L l.length c).ownBlock)
    (ho : w3.ownsRow (g + 1) 2 1 (.slice (some ⟨b, 0, none⟩) (l.length + 1) cap) (l.length + 1) (nlv l ++ [.int .i64 (k : Nat)])) : SRel w g n (f, l ++ [k]) (some ⟨b, 0, none⟩) cap w3 := by
  have hl := h.2.1.lt
  refine ⟨(below_al h.1 o).grown hgr (by have := h.1.size; simp; omega) (fun j hj => by have := (h.2.2.lt j hj).1; omega), ?_, ?_⟩
  · refine (h.2.1.alloc o).of_block (hgr.block g (by simp; omega) fun e => ?_)
    have := (h.2.2.lt g e.symm).1
    omega
  · show w3.ownsRow _ _ _ (.slice _ (l ++ [k]).length _) (l ++ [k]).length (nlv (l ++ [k]))
    rw [List.length_append, nlv_snoc]
    exact ho
theorem SRel.dn {w wr : World} {g n c : Nat} {S : (Nat → Bool) × List Nat} {L : Option Addr} (h : SRel w g n S L c wr) (m : Nat) : SRel w g n S L c (wr.drewN m) := ⟨below_dn h.1 m, h.2.1.of_block rfl, own_below h.2.2 (below_dn (Below.refl _ _) m)⟩
theorem SRel.form {w wr : World} {g n c : Nat} {S : (Nat → Bool) × List Nat} {L : Option Addr} (h : SRel w g n S L c wr) (h0 : 0 < S.2.length) : ∃ b, L = some ⟨b, 0, none⟩ ∧ g + 1 ≤ b ∧ b < wr.heap.size ∧ ∀ j (hj : j < S.2.length), wr.cell? ⟨b, j, none⟩ = some (.int .i64 (S.2[j] : Nat)) := by
  obtain ⟨b, cap, hv, hb, hlt⟩ := h.2.2.form h0
  injection hv with hA _ _
  refine ⟨b, hA, hb, hlt, fun j hj => ?_⟩
  subst hA
  have h1 := h.2.2.cells (g := b) rfl j (.int .i64 (S.2[j] : Nat)) (by unfold nlv; rw [List.getElem?_map, List.getElem?_eq_getElem hj]; rfl)
  have hadd : (⟨b, 0, none⟩ : Addr).add j = ⟨b, j, none⟩ := by unfold Addr.add; split <;> simp_all
  rw [hadd] at h1
  exact h1
theorem visit_yes {adj : Nat → Nat → Bool} {p k : Nat} {S : (Nat → Bool) × List Nat} (h1 : S.1 k = false) (h2 : adj p k = true) : visit adj p S k = (upd S.1 k, S.2 ++ [k]) := by unfold visit; rw [h1, h2]; rfl
theorem visit_seen {adj : Nat → Nat → Bool} {p k : Nat} {S : (Nat → Bool) × List Nat} (h1 : S.1 k = true) : visit adj p S k = S := by unfold visit; rw [h1]; rfl
theorem visit_not {adj : Nat → Nat → Bool} {p k : Nat} {S : (Nat → Bool) × List Nat} (h2 : adj p k = false) : visit adj p S k = S := by unfold visit; rw [h2, Bool.and_false]; rfl
/-- the state of a search within its step p -/
theorem mid_facts {adj : Nat → Nat → Bool} {n i p m : Nat} (hi : i < n) (hp : p < (search adj n i p).2.length) (hm : m ≤ n) :
    (visits adj ((search adj n i p).2.getD p 0) (search adj n i p) m).2.length ≤ n ∧ (∀ j ∈ (visits adj ((search adj n i p).2.getD p 0) (search adj n i p) m).2, j < n) ∧
    p < (visits adj ((search adj n i p).2.getD p 0) (search adj n i p) m).2.length ∧ (visits adj ((search adj n i p).2.getD p 0) (search adj n i p) m).2.getD p 0 = (search adj n i p).2.getD p 0 := by
  have hi0 := search_inv (adj := adj) hi p
  have hg : (search adj n i p).2.getD p 0 = (search adj n i p).2[p] := by rw [List.getD_eq_getElem?_getD, List.getElem?_eq_getElem hp]; rfl
  have hiv := inv_visits hi0 (hi0.2.2.2.2 _ (List.getElem_mem hp)) m hm
  rw [hg]
  have hpre := visits_keeps (adj := adj) (p := (search adj n i p).2[p]) (S := search adj n i p) m
  have hlen := hpre.length_le
  refine ⟨nodup_len n _ hiv.1 hiv.2.1, hiv.2.1, by omega, ?_⟩
  rw [List.getD_eq_getElem?_getD, List.getElem?_eq_getElem (by omega), ← hpre.getElem hp]
  rfl
end Go.Proofs.Ytlhepgdheopgaaa

namespace Go.Proofs.Ytlhepgdheopgaaa
open Go Go.RowKit Ieee

/-- a search with a queue: what has been seen lies in block g, the queue behind it holds what is still to be looked at -/
def QRel (w : World) (g n : Nat) (S : (Nat → Bool) × List Nat) (p : Nat) (v : Value) (wr : World) : Prop :=
  Below w.heap.size w wr ∧ wr.rowIs g 4 n (fun q => .bool (S.1 q)) ∧ QOwn wr (g + 1) 2 v (nlv (S.2.drop p))
theorem QRel.mark {w wr : World} {g n p k : Nat} {S : (Nat → Bool) × List Nat} {v : Value} (h : QRel w g n S p v wr) (hg : w.heap.size ≤ g) : QRel w g n (upd S.1 k, S.2) p v (wr.setCell ⟨g, k, none⟩ (.bool true)) := by
  refine ⟨below_set h.1 _ _ hg, (h.2.1.set k _).congr fun i _ => ?_, ?_⟩
  · show (if i = k then Value.bool true else Value.bool (S.1 i)) = Value.bool (if i = k then true else S.1 i)
    split <;> rfl
  · refine h.2.2.far (grown_set (grown_refl wr (some g)) k _) (fun e => ?_)
    have := (h.2.2.lt e).1
    omega
theorem QRel.dn {w wr : World} {g n p : Nat} {S : (Nat → Bool) × List Nat} {v : Value} (h : QRel w g n S p v wr) (m : Nat) : QRel w g n S p v (wr.drewN m) := ⟨below_dn h.1 m, h.2.1.of_block rfl, h.2.2.below (below_dn (Below.refl _ _) m)⟩
theorem QRel.keep {w wr wr' : World} {g n p : Nat} {S : (Nat → Bool) × List Nat} {v : Value} (h : QRel w g n S p v wr) (hb : Below wr.heap.size wr wr') : QRel w g n S p v wr' := ⟨below_next h.1 hb, h.2.1.of_block (hb.block _ h.2.1.lt), h.2.2.below hb⟩
theorem QRel.push {w wr w3 : World} {g n p k : Nat} {f : Nat → Bool} {l : List Nat} {v v' : Value} {o : Obj} (h : QRel w g n (f, l) p v wr) (hp : p ≤ l.length) (hg : w.heap.size ≤ g) (hgr : (wr.alloc o).grownBy w3 v.ownBlock)
    (ho : QOwn w3 (g + 1) 2 v' (nlv (l.drop p) ++ [.int .i64 (k : Nat)])) : QRel w g n (f, l ++ [k]) p v' w3 := by
  have hl := h.2.1.lt
  refine ⟨(below_al h.1 o).grown hgr (by have := h.1.size; simp; omega) (fun j hj => by have := (h.2.2.lt hj).1; omega), ?_, ?_⟩
  · refine (h.2.1.alloc o).of_block (hgr.block g (by simp; omega) fun e => ?_)
    have := (h.2.2.lt e.symm).1
    omega
  · show QOwn w3 (g + 1) _ v' (nlv ((l ++ [k]).drop p))
    rw [List.drop_append_of_le_length hp, nlv_snoc]
    exact ho
set_option maxRecDepth 100000 in
set_option maxHeartbeats 1600000 in
theorem reachedFrom_any (n i : Nat) (A : Option Addr) (xs : List Nat) (c : Nat) (w : World) (hn : 1 ≤ n ∧ n ≤ 12) (hl : xs.length = n * n) (hp : xs.all partB = true) (hi : i < n) (h : Rd w w.heap.size A (fl xs)) :
    Calls Try.prog 63 #[.agg #[.int .i64 n, .slice A xs.length c], .int .i64 i] w (fun e w' => ∃ g, e = .returned (.slice (some ⟨g, 0, none⟩) n n) ∧ w.heap.size ≤ g ∧ w'.rowIs g 4 n (fun q => .bool (seenB (adjC xs n) n i q)) ∧ Below w.heap.size w w') := by
  obtain ⟨i0, hi0, hz0, hz1, hz2⟩ := info_parts info_bool
  obtain ⟨j0, hj0, hy0, hy1, hy2⟩ := info_parts info_i64
  have hmk := run_make_row (P := Try.prog) 76 4 i0 (.bool false) Try.underlying76 hi0 hz0 hz1 rfl .i64 .i64 n (by rw [hz2]; omega) (by omega)
  have HR := Lib.hid h
  have HSTEP := Lib.hid fun j k W hj hk hr => step_any n j k A xs c W hn.2 hj hk hl hr
  have HADJ := Lib.hid fun j k hj hk => adj_eq (xs := xs) (n := n) (i := j) (k := k) hl hp hj hk
  have HMID := Lib.hid fun q m hq hm => mid_facts (adj := adjC xs n) (n := n) (i := i) (p := q) (m := m) hi hq hm
  have HSL := Lib.hid fun q => search_len (adj := adjC xs n) (n := n) hi q
  have HSTOP := Lib.hid fun q hq => search_stop (adj := adjC xs n) (n := n) (p := q) hi hq
  obtain ⟨n1, n2⟩ := hn
  have hi' : (i : Int) < (n : Int) := by omega
  clear hl hp h hi0 hz0 hz1 hz2
  go_enter Try.func63, Try.ntmps63
  go_upto_region 2 with fail
  generalize hW2 : World.alloc (World.alloc (World.alloc w _) _) _ = w2
  obtain ⟨w1, hw1, hz1, hb1, c0, c1⟩ : ∃ w1, w1 = w.alloc (.cells #[.int .i64 n, .slice A xs.length c] 26) ∧ w1.heap.size = w.heap.size + 1 ∧ Below w.heap.size w w1 ∧ w1.cell? ⟨w.heap.size, 0, none⟩ = some (.int .i64 n) ∧ w1.cell? ⟨w.heap.size, 1, none⟩ = some (.slice A xs.length c) := ⟨_, rfl, by simp, below_al (Below.refl _ _) _, by simp [go_sem], by simp [go_sem]⟩
  rw [← hw1] at hW2
  have q2 : Below w1.heap.size w1 w2 ∧ w2.rowIs w1.heap.size 4 n (fun _ => .bool false) ∧ QOwn w2 (w1.heap.size + 1) 2 (.slice (some ⟨w1.heap.size + 1, 0, none⟩) 1 1) (nlv [i]) := by
    rw [← hW2]
    refine ⟨below_al (below_al (Below.refl _ _) _) _, (World.rowIs_made w1 (.bool false) n _).alloc _, ?_⟩
    have h := QOwn.start (w := w1.alloc (.cells (madeCells #[.bool false] n) 4)) (base := w1.heap.size + 1) (e := 2) (x := .int .i64 (i : Nat)) (by simp)
    rw [World.size_alloc] at h
    exact h
  obtain ⟨b2, r2, u2⟩ := q2
  have HBW1 := Lib.hid hb1
  have HBX : Hid (∀ W, Below w1.heap.size w1 W → W.cell? ⟨w.heap.size, 0, none⟩ = some (.int .i64 n) ∧ W.cell? ⟨w.heap.size, 1, none⟩ = some (.slice A xs.length c)) := Lib.hid fun W hW => ⟨keepC hW c0, keepC hW c1⟩
  have HRB : Hid (∀ W, Below w1.heap.size w1 W → Rd W W.heap.size A (fl xs)) := Lib.hid fun W hW => HR.out.at_ (below_next HBW1.out hW)
  have hc2 := r2.cell hi
  have hf2 := r2.frozen i
  have s2 : Hid (∀ W, W = w2.setCell ⟨w1.heap.size, i, none⟩ (.bool true) → QRel w1 w1.heap.size n (search (adjC xs n) n i 0) 0 (.slice (some ⟨w1.heap.size + 1, 0, none⟩) 1 1) W) := Lib.hid fun W hW => by
    subst hW
    have h0 : QRel w1 w1.heap.size n ((fun _ => false), [i]) 0 (.slice (some ⟨w1.heap.size + 1, 0, none⟩) 1 1) w2 := ⟨b2, r2, u2⟩
    have h1 := h0.mark (k := i) (Nat.le_refl _)
    refine ⟨h1.1, h1.2.1.congr fun q _ => ?_, h1.2.2⟩
    show Value.bool (if q = i then true else false) = Value.bool (decide (q = i))
    by_cases e : q = i <;> simp [e]
  rw [hz1] at hc2 hf2 s2
  clear hW2 hw1 hb1 c0 c1 b2 r2 u2 HR
  have hzz := hz1
  clear hz1
  go_upto_region 3 with fail
  generalize hW3 : World.setCell w2 _ _ = w3
  have S3 := Lib.hid (s2.out w3 hW3.symm)
  clear hW3 s2 hc2 hf2
  have HG : Hid (w1.heap.size ≤ w.heap.size + 1) := Lib.hid (by omega)
  generalize hg : w.heap.size + 1 = g at *
  go_loopg [6, 7, 23] n (fun gk ov _ _ wr => ∃ (q : Nat) (gq off d : Nat), gk + q = n ∧ ov = .slice (some ⟨gq, off, none⟩) ((search (adjC xs n) n i q).2.length - q) d ∧ q ≤ (search (adjC xs n) n i q).2.length ∧ QRel w1 g n (search (adjC xs n) n i q) q ov wr)
  case atStart => exact ⟨0, g + 1, 0, 1, rfl, rfl, Nat.zero_le _, S3.out⟩
  case round =>
    obtain ⟨q, gq, off, d, hgk, rfl, hq, hs⟩ := hrel
    have HS := Lib.hid hs
    have HGK := Lib.hid hgk
    have hsl := HSL.out q
    clear hs S3 hgk
    by_cases hlt : q < (search (adjC xs n) n i q).2.length
    · have HMIDq := Lib.hid fun m hm => HMID.out q m hlt hm
      have HNX : Hid (search (adjC xs n) n i (q + 1) = visits (adjC xs n) ((search (adjC xs n) n i q).2.getD q 0) (search (adjC xs n) n i q) n) := Lib.hid (search_succ hlt)
      have hjn : (search (adjC xs n) n i q).2.getD q 0 < n := by
        have h := (HMIDq.out 0 (by omega)).2.1
        rw [List.getD_eq_getElem?_getD, List.getElem?_eq_getElem hlt]
        exact h _ (List.getElem_mem hlt)
      have hqn : q < n := by omega
      generalize hj : (search (adjC xs n) n i q).2.getD q 0 = j at *
      generalize hSE : search (adjC xs n) n i q = S at *
      have HV0 : Hid (visits (adjC xs n) j S 0 = S) := Lib.hid rfl
      obtain ⟨e0, e1⟩ := HBX.out wr HS.out.1
      clear hj hSE HMID HSL HSTOP
      have hq1 : q + 1 ≤ S.2.length := hlt
      obtain ⟨K0, hK0⟩ : ∃ K0, S.2.length - q = K0 + 1 := ⟨S.2.length - q - 1, by omega⟩
      have HK0 := Lib.hid hK0
      have HLT := Lib.hid hlt
      rw [hK0]
      clear hK0 hlt hq
      go_wp2_with fail
      go_loopg [6, 7, 23] n (fun hk ov _ mv wq => ∃ (m gq off d : Nat), hk + m = n ∧ mv = .int .i64 m ∧ ov = .slice (some ⟨gq, off, none⟩) ((visits (adjC xs n) j S m).2.length - q) d ∧ QRel w1 g n (visits (adjC xs n) j S m) q ov wq)
      case atStart => exact ⟨0, gq, off, d, rfl, rfl, by rw [HV0.out, HK0.out], by rw [HV0.out, ← HK0.out]; exact HS.out⟩
      case round =>
        rename World => wq
        obtain ⟨m, gq, off, d, hhk, rfl, rfl, hs⟩ := hrel
        have HSQ := Lib.hid hs
        have HHK := Lib.hid hhk
        have hm : m ≤ n := by omega
        obtain ⟨e0, e1⟩ := HBX.out wq hs.1
        clear hs hhk
        by_cases hmn : m < n
        · obtain ⟨k1, k2, k3, k4⟩ := HMIDq.out m hm
          have HVS : Hid (visits (adjC xs n) j S (m + 1) = visit (adjC xs n) j (visits (adjC xs n) j S m) m) := Lib.hid (visits_succ _ _ _ _)
          have hADJ := HADJ.out j m hjn hmn
          generalize visits (adjC xs n) j S m = T at *
          obtain ⟨f, l⟩ := T
          dsimp only at *
          have hcs := HSQ.out.2.1.cell hmn
          have hfs := HSQ.out.2.1.frozen m
          dsimp only at hcs
          have hlq : l[q] = j := by rw [← k4, List.getD_eq_getElem?_getD, List.getElem?_eq_getElem k3]; rfl
          have hcq : wq.cell? ⟨gq, off + 0, none⟩ = some (.int .i64 (j : Nat)) := by
            have h := HSQ.out.2.2.cell (j := 0) (by show 0 < (nlv (l.drop q)).length; rw [nlv_len, List.length_drop]; omega)
            rw [h]
            simp [nlv, hlq]
          rw [Nat.add_zero] at hcq
          obtain ⟨K, hK⟩ : ∃ K, l.length - q = K + 1 := ⟨l.length - q - 1, by omega⟩
          have HKL : Hid ((l ++ [m]).length - q = K + 1 + 1) := Lib.hid (by rw [List.length_append, List.length_singleton]; omega)
          have HK := Lib.hid hK
          have k3' : (0 : Int) < ((K + 1 : Nat) : Int) := by omega
          rw [hK]
          have hmn' : (m : Int) < (n : Int) := by omega
          have HPQ : Hid (q ≤ l.length) := Lib.hid (by omega)
          have HKb : Hid (K + 1 ≤ 1000) := Lib.hid (by omega)
          clear k4 hlq k2 hK k3
          cases hf : f m with
          | true =>
            have HR1 : Hid (visit (adjC xs n) j (f, l) m = (f, l)) := Lib.hid (visit_seen hf)
            rw [hf] at hcs
            clear hf
            go_wp2_with fail
            go_quiet (fail)
            go_wp2_with fail
            go_roundg (n - (m + 1))
            case measure => have := HHK.out; omega
            case rel => exact ⟨m + 1, gq, off, d, by omega, by go_num, by rw [HVS.out, HR1.out, ← HK.out], by rw [HVS.out, HR1.out, ← HK.out]; exact HSQ.out.dn _⟩
          | false =>
            rw [hf] at hcs
            have HF := Lib.hid hf
            have HSTj := Lib.hid fun W hr => HSTEP.out j m W hjn hmn hr
            have HRBq := Lib.hid (HRB.out wq HSQ.out.1)
            have HM3 : Hid (∀ W, Below wq.heap.size wq W → W.cell? ⟨w.heap.size, 0, none⟩ = some (.int .i64 n) ∧ W.cell? ⟨w.heap.size, 1, none⟩ = some (.slice A xs.length c) ∧ W.cell? ⟨gq, off, none⟩ = some (.int .i64 (j : Nat)) ∧ W.cell? ⟨g, m, none⟩ = some (.bool false)) := Lib.hid fun W hW => ⟨keepC hW e0, keepC hW e1, keepC hW hcq, keepC hW hcs⟩
            clear hf HSTEP
            generalize stepOf xs n j m = v at *
            have HRBd : Hid (Rd wq.drew wq.drew.heap.size A (fl xs)) := Lib.hid HRBq.out
            cases ha : adjC xs n j m with
            | false =>
              have HR1 : Hid (visit (adjC xs n) j (f, l) m = (f, l)) := Lib.hid (visit_not ha)
              rw [ha] at hADJ
              clear ha
              go_wp2_with fail
              go_region_held3 (fun W => W.cell? ⟨w.heap.size, 0, none⟩ = some (.int .i64 n) ∧ W.cell? ⟨w.heap.size, 1, none⟩ = some (.slice A xs.length c) ∧ W.cell? ⟨gq, off, none⟩ = some (.int .i64 (j : Nat)) ∧ W.cell? ⟨g, m, none⟩ = some (.bool false))
                (first | exact HM3.out _ bk9 | exact HM3.out _ (below_dr (Below.refl _ _)))
                (first
                  | (go_at_call 35; refine (HSTj.out _ HRBd.out).mono ?_; rintro e w9 ⟨rfl, hb9⟩; have bk9 : Below wq.heap.size wq w9 := below_next (below_dr (Below.refl _ _)) hb9; clear hb9))
              have S9 := Lib.hid (HSQ.out.keep bk9)
              clear bk9
              go_wp2_with fail
              go_roundg (n - (m + 1))
              case measure => have := HHK.out; omega
              case rel => exact ⟨m + 1, gq, off, d, by omega, by go_num, by rw [HVS.out, HR1.out, ← HK.out], by rw [HVS.out, HR1.out, ← HK.out]; exact S9.out⟩
            | true =>
              have HR1 : Hid (visit (adjC xs n) j (f, l) m = (upd f m, l ++ [m])) := Lib.hid (visit_yes HF.out ha)
              rw [ha] at hADJ
              clear ha
              go_wp2_with fail
              go_region_held3 (fun W => W.cell? ⟨w.heap.size, 0, none⟩ = some (.int .i64 n) ∧ W.cell? ⟨w.heap.size, 1, none⟩ = some (.slice A xs.length c) ∧ W.cell? ⟨gq, off, none⟩ = some (.int .i64 (j : Nat)) ∧ W.cell? ⟨g, m, none⟩ = some (.bool false))
                (first | exact HM3.out _ bk9 | exact HM3.out _ (below_dr (Below.refl _ _)))
                (first
                  | (go_at_call 35; refine (HSTj.out _ HRBd.out).mono ?_; rintro e w9 ⟨rfl, hb9⟩; have bk9 : Below wq.heap.size wq w9 := below_next (below_dr (Below.refl _ _)) hb9; clear hb9))
              have S9 := Lib.hid (HSQ.out.keep bk9)
              have hcs9 := S9.out.2.1.cell hmn
              have hfs9 := S9.out.2.1.frozen m
              dsimp only at hcs9
              rw [HF.out] at hcs9
              clear bk9
              go_upto_region 10 with fail
              generalize hW9 : World.setCell w9 _ _ = w10
              have s10 : QRel w1 g n (upd f m, l) q (.slice (some ⟨gq, off, none⟩) (K + 1) d) w10 := by rw [← hW9, ← HK.out]; exact S9.out.mark HG.out
              have S10 := Lib.hid s10
              have z10 : g + 1 ≤ w10.heap.size := s10.2.1.lt
              have hlK : (nlv (l.drop q)).length = K + 1 := by rw [nlv_len, List.length_drop]; exact HK.out
              have hlK2 : (nlv (l.drop q)).length ≤ 1048576 := by have := HKb.out; omega
              clear hW9 s10 hcs hfs hcq hcs9 hfs9 e0 e1
              go_wp2_with (refine wpList_append_queue _ rfl _ _ _ rfl (g + 1) 2 j0 _ Try.underlying49 hj0 hy0 hy1 (by omega) rfl (.slice (some ⟨gq, off, none⟩) (K + 1) d) (nlv (l.drop q)) (by rfl) (S10.out.2.2.below (below_al (Below.refl _ _) _)) hlK2 ⟨w10.heap.size, 0, none⟩ 1 (.int .i64 (m : Nat)) (by rfl) (by simp [go_sem]) rfl (by simp; omega) ?_; intro g9 off9 cap9 w11 hq9 hgr9 hat9; have S11 := Lib.hid (S10.out.push HPQ.out HG.out hgr9 hq9); rw [hlK] at S11 ⊢; clear hq9 hgr9 hat9)
              go_roundg (n - (m + 1))
              case measure => have := HHK.out; omega
              case rel => exact ⟨m + 1, g9, off9, cap9, by omega, by go_num, by rw [HVS.out, HR1.out, HKL.out], by rw [HVS.out, HR1.out]; exact S11.out⟩
        · have hnm : n = m := by omega
          subst hnm
          obtain ⟨k1, k2, k3, k4⟩ := HMIDq.out n (Nat.le_refl _)
          have HPOP : Hid (∀ d, QRel w1 g n (visits (adjC xs n) j S n) q (.slice (some ⟨gq, off, none⟩) ((visits (adjC xs n) j S n).2.length - q) d) wq → QRel w1 g n (visits (adjC xs n) j S n) (q + 1) (.slice (if d = 1 then some ⟨gq, off, none⟩ else some ⟨gq, off + 1, none⟩) ((visits (adjC xs n) j S n).2.length - (q + 1)) (d - 1)) wq ∧ (visits (adjC xs n) j S n).2.length - q ≤ d ∧ d ≤ maxLen) := Lib.hid fun d h => by
            obtain ⟨h1, h2, h3⟩ := h
            have e : nlv ((visits (adjC xs n) j S n).2.drop q) = .int .i64 ((visits (adjC xs n) j S n).2[q] : Nat) :: nlv ((visits (adjC xs n) j S n).2.drop (q + 1)) := by
              rw [List.drop_eq_getElem_cons k3]; rfl
            have hl : (nlv ((visits (adjC xs n) j S n).2.drop q)).length = (visits (adjC xs n) j S n).2.length - q := by rw [nlv_len, List.length_drop]
            refine ⟨⟨h1, h2, ?_⟩, ?_⟩
            · rw [e] at h3
              have h4 := h3.pop
              rw [Nat.sub_sub] at h4
              exact h4
            · obtain ⟨g', off', cap', cur, hv, hb, hh, x1, x2, x3, x4⟩ := h3
              injection hv with hA hn hc
              rw [hl] at x1
              omega
          obtain ⟨s1, s2, s3⟩ := HPOP.out d HSQ.out
          have S1 := Lib.hid s1
          clear HPOP s1
          generalize visits (adjC xs n) j S n = T at *
          obtain ⟨f, l⟩ := T
          dsimp only at *
          obtain ⟨K, hK⟩ : ∃ K, l.length - q = K + 1 := ⟨l.length - q - 1, by omega⟩
          have HK := Lib.hid hK
          have HK1 : Hid (l.length - (q + 1) = K) := Lib.hid (by omega)
          rw [hK] at s2 ⊢
          have HPQ : Hid (q + 1 ≤ l.length) := Lib.hid (by omega)
          have hdm : d ≤ 9223372036854775807 := by unfold maxLen at s3; omega
          have hd1 : 1 ≤ d := by omega
          rw [HK1.out] at S1
          clear s3 hK k2 k4
          by_cases hd : d = 1
          · subst hd
            have hK0 : K = 0 := by omega
            subst hK0
            go_wp2_with fail
            go_roundg (n - (q + 1))
            case measure => have := HGK.out; omega
            case rel => exact ⟨q + 1, gq, off, 0, by have := HGK.out; omega, by rw [HNX.out, HK1.out], by rw [HNX.out]; exact HPQ.out, by rw [HNX.out]; exact S1.out⟩
          · rw [if_neg hd] at S1
            go_wp2_with fail
            go_roundg (n - (q + 1))
            case measure => have := HGK.out; omega
            case rel => exact ⟨q + 1, gq, off + 1, d - 1, by have := HGK.out; omega, by rw [HNX.out, HK1.out], by rw [HNX.out]; exact HPQ.out, by rw [HNX.out]; exact S1.out⟩
    · have HQ : Hid (search (adjC xs n) n i q = search (adjC xs n) n i n) := Lib.hid (HSTOP.out q (by omega))
      have hlt' : ¬ (0 : Int) < (((search (adjC xs n) n i q).2.length - q : Nat) : Int) := by omega
      go_wp2_with fail
      go_ret
      exact ⟨g, rfl, by omega, by unfold seenB; rw [← HQ.out]; exact HS.out.2.1, (below_next HBW1.out HS.out.1)⟩
end Go.Proofs.Ytlhepgdheopgaaa

namespace Go.Proofs.Ytlhepgdheopgaaa
open Go Go.RowKit Go.Joins

def rowsV (n : Nat) (gs : List Nat) : List Value := gs.map fun g => .slice (some ⟨g, 0, none⟩) n n
theorem rowsV_snoc (n : Nat) (gs : List Nat) (g : Nat) : rowsV n (gs ++ [g]) = rowsV n gs ++ [.slice (some ⟨g, 0, none⟩) n n] := by simp [rowsV]
theorem rowsV_get {n : Nat} {gs : List Nat} {i : Nat} (h : i < gs.length) : (rowsV n gs)[i]? = some (.slice (some ⟨gs[i], 0, none⟩) n n) := by unfold rowsV; rw [List.getElem?_map, List.getElem?_eq_getElem h]; rfl
structure GS (W : World) (base n : Nat) (R : Nat → Nat → Bool) (v : Value) (gs : List Nat) (u : Value) (vs : List Value) : Prop where
  m : W.ownsRow base 76 1 v gs.length (rowsV n gs)
  r : ∀ i (h : i < gs.length), base ≤ gs[i] ∧ W.rowIs gs[i] 4 n (fun q => .bool (R i q))
  o : W.ownsRow base 2 1 u vs.length vs
  mr : ∀ g ∈ gs, v.ownBlock ≠ some g
  ur : ∀ g ∈ gs, u.ownBlock ≠ some g
  uv : ∀ j, u.ownBlock = some j → v.ownBlock ≠ some j
variable {W W' W0 W1 W2 W3 : World} {base n : Nat} {R : Nat → Nat → Bool} {v u : Value} {gs : List Nat} {vs : List Value}
theorem own_ne {a b : Option Nat} (h : ∀ j, a = some j → b ≠ some j) : a = none ∨ a ≠ b := by
  cases a with
  | none => exact .inl rfl
  | some j => exact .inr fun e => h j rfl e.symm
theorem GS.keep (h : GS W base n R v gs u vs) (hb : Below W.heap.size W W') : GS W' base n R v gs u vs :=
  ⟨own_below h.m hb, fun i hi => ⟨(h.r i hi).1, (h.r i hi).2.of_block (hb.block _ (h.r i hi).2.lt)⟩, own_below h.o hb, h.mr, h.ur, h.uv⟩
theorem GS.rowLt (h : GS W base n R v gs u vs) {g : Nat} (hg : g ∈ gs) : g < W.heap.size := by
  obtain ⟨i, hi, rfl⟩ := List.getElem_of_mem hg
  exact (h.r i hi).2.lt
theorem GS.row {g g1 cap : Nat} (h : GS W0 base n R v gs u vs) (hbase : base ≤ W0.heap.size) (b1 : Below W0.heap.size W0 W1) (hg1 : W0.heap.size ≤ g1) (hr : W1.rowIs g1 4 n (fun q => .bool (R gs.length q)))
    (b2 : Below W1.heap.size W1 W2) (hgr : W2.grownBy W3 v.ownBlock) (ho : W3.ownsRow base 76 1 (.slice (some ⟨g, 0, none⟩) (gs.length + 1) cap) (gs.length + 1) (rowsV n gs ++ [.slice (some ⟨g1, 0, none⟩) n n])) (hat : v.ownBlock = some g ∨ g = W2.heap.size) :
    GS W3 base n R (.slice (some ⟨g, 0, none⟩) (gs.length + 1) cap) (gs ++ [g1]) u vs := by
  have s1 := b1.size
  have s2 := b2.size
  have h2 := (h.keep b1).keep b2
  have hl1 := hr.lt
  have hv : ∀ j, v.ownBlock = some j → j < W0.heap.size := fun j hj => (h.m.lt j hj).2
  have hu : ∀ j, u.ownBlock = some j → j < W0.heap.size := fun j hj => (h.o.lt j hj).2
  refine ⟨by rw [List.length_append, rowsV_snoc]; exact ho, fun i hi => ?_, h2.o.kept hgr (own_ne h.uv), fun j hj => ?_, fun j hj => ?_, fun j hj => ?_⟩
  · rcases Nat.lt_or_ge i gs.length with hlt | hge
    · have e : (gs ++ [g1])[i] = gs[i] := List.getElem_append_left hlt
      rw [e]
      refine ⟨(h2.r i hlt).1, (h2.r i hlt).2.of_block (hgr.block _ (h2.r i hlt).2.lt fun e => ?_)⟩
      exact h.mr _ (List.getElem_mem hlt) e.symm
    · have hi' : i = gs.length := by rw [List.length_append, List.length_singleton] at hi; omega
      subst hi'
      have e : (gs ++ [g1])[gs.length] = g1 := by simp
      rw [e]
      refine ⟨by omega, (hr.of_block (b2.block _ hl1)).of_block (hgr.block _ (by omega) fun e => ?_)⟩
      have := hv _ e.symm
      omega
  · intro e
    have e : g = j := Option.some.inj e
    subst e
    rcases List.mem_append.1 hj with hj | hj
    · have := h.rowLt hj
      rcases hat with hat | hat
      · exact h.mr _ hj hat
      · omega
    · rw [List.mem_singleton] at hj
      subst hj
      rcases hat with hat | hat
      · have := hv _ hat
        omega
      · omega
  · rcases List.mem_append.1 hj with hj | hj
    · exact h.ur j hj
    · rw [List.mem_singleton] at hj
      subst hj
      intro e
      have := hu _ e
      omega
  · intro e
    have e : g = j := Option.some.inj e
    subst e
    have := hu _ hj
    rcases hat with hat | hat
    · exact h.uv _ hj hat
    · omega
theorem GS.add {g cap : Nat} {x : Value} (h : GS W0 base n R v gs u vs) (b2 : Below W0.heap.size W0 W2) (hgr : W2.grownBy W3 u.ownBlock) (ho : W3.ownsRow base 2 1 (.slice (some ⟨g, 0, none⟩) (vs.length + 1) cap) (vs.length + 1) (vs ++ [x])) (hat : u.ownBlock = some g ∨ g = W2.heap.size) :
    GS W3 base n R v gs (.slice (some ⟨g, 0, none⟩) (vs.length + 1) cap) (vs ++ [x]) := by
  have s2 := b2.size
  have h2 := h.keep b2
  refine ⟨h2.m.kept hgr (own_ne fun j hv hu => h.uv j hu hv), fun i hi => ⟨(h2.r i hi).1, (h2.r i hi).2.of_block (hgr.block _ (h2.r i hi).2.lt fun e => h.ur _ (List.getElem_mem hi) e.symm)⟩, by rw [List.length_append]; exact ho, h.mr, fun j hj e => ?_, fun j hj e => ?_⟩
  · have e : g = j := Option.some.inj e
    subst e
    have := h.rowLt hj
    rcases hat with hat | hat
    · exact h.ur _ hj hat
    · omega
  · have hj : g = j := Option.some.inj hj
    subst hj
    have := (h.m.lt g e).2
    rcases hat with hat | hat
    · exact h.uv _ hat e
    · omega
theorem GS.row' {g g1 cap q : Nat} (h : GS W0 base n R v gs u vs) (hq : gs.length = q) (hbase : base ≤ W0.heap.size) (b1 : Below W0.heap.size W0 W1) (hg1 : W0.heap.size ≤ g1) (hr : W1.rowIs g1 4 n (fun k => .bool (R q k)))
    (b2 : Below W1.heap.size W1 W2) (hgr : W2.grownBy W3 v.ownBlock) (ho : W3.ownsRow base 76 1 (.slice (some ⟨g, 0, none⟩) (q + 1) cap) (q + 1) (rowsV n gs ++ [.slice (some ⟨g1, 0, none⟩) n n])) (hat : v.ownBlock = some g ∨ g = W2.heap.size) :
    GS W3 base n R (.slice (some ⟨g, 0, none⟩) (q + 1) cap) (gs ++ [g1]) u vs := by
  subst hq
  exact h.row hbase b1 hg1 hr b2 hgr ho hat
theorem GS.add' {g cap q : Nat} {x : Value} (h : GS W0 base n R v gs u vs) (hq : vs.length = q) (b2 : Below W0.heap.size W0 W2) (hgr : W2.grownBy W3 u.ownBlock) (ho : W3.ownsRow base 2 1 (.slice (some ⟨g, 0, none⟩) (q + 1) cap) (q + 1) (vs ++ [x])) (hat : u.ownBlock = some g ∨ g = W2.heap.size) :
    GS W3 base n R v gs (.slice (some ⟨g, 0, none⟩) (q + 1) cap) (vs ++ [x]) := by
  subst hq
  exact h.add b2 hgr ho hat
theorem GS.below (h : GS W0 base n R v gs u vs) {w : World} (hw : Below w.heap.size w W0) (hb : w.heap.size ≤ base) (hgr : W0.grownBy W3 u.ownBlock ∨ W0.grownBy W3 v.ownBlock) : Below w.heap.size w W3 := by
  rcases hgr with hgr | hgr
  · exact hw.grown hgr hw.size fun j hj => by have := (h.o.lt j hj).1; omega
  · exact hw.grown hgr hw.size fun j hj => by have := (h.m.lt j hj).1; omega
theorem GS.far_below {w : World} {o : Obj} (h : GS W1 base n R v gs u vs) (hw : Below w.heap.size w W0) (b1 : Below W0.heap.size W0 W1) (hb : w.heap.size ≤ base) (hgr : (W1.alloc o).grownBy W3 v.ownBlock) : Below w.heap.size w W3 :=
  (below_al (below_next hw b1) o).grown hgr (below_al (below_next hw b1) o).size fun j hj => by have := (h.m.lt j hj).1; omega
theorem GS.add_below {w : World} {o : Obj} (h : GS W0 base n R v gs u vs) (hw : Below w.heap.size w W0) (hb : w.heap.size ≤ base) (hgr : (W0.alloc o).grownBy W3 u.ownBlock) : Below w.heap.size w W3 :=
  (below_al hw o).grown hgr (below_al hw o).size fun j hj => by have := (h.o.lt j hj).1; omega
/-- a row of the matrix, and a cell of it -/
theorem GS.at_ (h : GS W base n R v gs u vs) {i k : Nat} (hi : i < gs.length) (hk : k < n) : ∃ g g1 cap, v = .slice (some ⟨g, 0, none⟩) gs.length cap ∧ W.cell? ⟨g, i, none⟩ = some (.slice (some ⟨g1, 0, none⟩) n n) ∧ W.cell? ⟨g1, k, none⟩ = some (.bool (R i k)) := by
  obtain ⟨g, cap, rfl, hb, hlt⟩ := h.m.form (by omega)
  refine ⟨g, gs[i], cap, rfl, ?_, (h.r i hi).2.cell hk⟩
  have h1 := h.m.cells (g := g) rfl i _ (rowsV_get hi)
  have hadd : (⟨g, 0, none⟩ : Addr).add i = ⟨g, i, none⟩ := by unfold Addr.add; split <;> simp_all
  rw [hadd] at h1
  exact h1
theorem GS.num (h : GS W base n R v gs u vs) {k : Nat} (hk : k < vs.length) : ∃ g cap, u = .slice (some ⟨g, 0, none⟩) vs.length cap ∧ W.cell? ⟨g, k, none⟩ = some vs[k] := by
  obtain ⟨g, cap, rfl, hb, hlt⟩ := h.o.form (by omega)
  refine ⟨g, cap, rfl, ?_⟩
  have h1 := h.o.cells (g := g) rfl k vs[k] (by rw [List.getElem?_eq_getElem hk])
  have hadd : (⟨g, 0, none⟩ : Addr).add k = ⟨g, k, none⟩ := by unfold Addr.add; split <;> simp_all
  rw [hadd] at h1
  exact h1
theorem GS.cellAt {gV q c : Nat} (h : GS W base n R (.slice (some ⟨gV, 0, none⟩) q c) gs u vs) {i k : Nat} (hi : i < gs.length) (hk : k < n) : W.cell? ⟨gV, i, none⟩ = some (.slice (some ⟨gs[i], 0, none⟩) n n) ∧ W.cell? ⟨gs[i], k, none⟩ = some (.bool (R i k)) := by
  refine ⟨?_, (h.r i hi).2.cell hk⟩
  have h1 := h.m.cells (g := gV) rfl i _ (rowsV_get hi)
  have hadd : (⟨gV, 0, none⟩ : Addr).add i = ⟨gV, i, none⟩ := by unfold Addr.add; split <;> simp_all
  rw [hadd] at h1
  exact h1
theorem GS.numAt {gU q c : Nat} {l : List Int} (h : GS W base n R v gs (.slice (some ⟨gU, 0, none⟩) q c) (il l)) {k : Nat} (hk : k < l.length) : W.cell? ⟨gU, k, none⟩ = some (.int .i64 (l.getD k 0)) := by
  have h1 := h.o.cells (g := gU) rfl k (.int .i64 (l.getD k 0)) (by unfold il; rw [List.getElem?_map, List.getElem?_eq_getElem hk, List.getD_eq_getElem?_getD, List.getElem?_eq_getElem hk]; rfl)
  have hadd : (⟨gU, 0, none⟩ : Addr).add k = ⟨gU, k, none⟩ := by unfold Addr.add; split <;> simp_all
  rw [hadd] at h1
  exact h1
end Go.Proofs.Ytlhepgdheopgaaa

namespace Go.Proofs.Ytlhepgdheopgaaa
open Go Go.RowKit Ieee

theorem info_bools : (Try.prog.info? 76).map (fun i => (i.zero, i.size, i.bytes)) = some (some (.slice none 0 0), 1, 24) := by kernel_rfl
def grOut (ys : List Int) (ok : Bool) (w : World) : Ending → World → Prop := fun e w' => ∃ A c, e = .returned (.tuple #[.slice A ys.length c, .bool ok]) ∧ w'.ownsRow w.heap.size 2 1 (.slice A ys.length c) ys.length (il ys) ∧ Below w.heap.size w w'
theorem grOut_bad {w W : World} (h : Below w.heap.size w W) : grOut [] false w (.returned (.tuple #[.slice none 0 0, .bool false])) W := ⟨none, 0, rfl, World.ownsRow_nil _ _ _ _, h⟩
theorem GS.start (W : World) (n : Nat) (R : Nat → Nat → Bool) : GS ((W.alloc (.cells #[] 76)).alloc (.cells #[] 2)) W.heap.size n R (.slice (some ⟨W.heap.size, 0, none⟩) 0 0) [] (.slice (some ⟨W.heap.size + 1, 0, none⟩) 0 0) [] := by
  have h1 := World.ownsRow_made W #[] 0 (base := W.heap.size) (e := 76) (size := 1) (Nat.le_refl _) (by unfold maxLen; omega) rfl
  have h2 := World.ownsRow_made (W.alloc (.cells #[] 76)) #[] 0 (base := W.heap.size) (e := 2) (size := 1) (by simp) (by unfold maxLen; omega) rfl
  rw [World.size_alloc] at h2
  exact ⟨own_below h1 (below_al (Below.refl _ _) _), fun i hi => absurd hi (by simp), h2, fun g hg => absurd hg (by simp), fun g hg => absurd hg (by simp), fun j hj e => by
    have hj : W.heap.size + 1 = j := Option.some.inj hj
    have e : W.heap.size = j := Option.some.inj e
    omega⟩
set_option maxHeartbeats 800000 in
theorem GroupsOfChain_bad (side : Int) (A : Option Addr) (xs : List Nat) (c : Nat) (w : World) (hx : xs.length ≤ c) (hc : c ≤ 9223372036854775807) (hA : Rd w w.heap.size A (fl xs)) (hb : validB side xs = false) :
    Calls Try.prog 27 #[.agg #[.int .i64 side, .slice A xs.length c]] w (grOut [] false w) := by
  have HF := Lib.hid fun W h => ValidChain_any side A xs c W hx hc h
  rw [hb] at HF
  clear hb
  go_enter Try.func27, Try.ntmps27
  go_wp2_with (go_at_call 20; refine (HF.out _ (hA.at_ (below_al (Below.refl _ _) _))).mono ?_; rintro e w1 ⟨rfl, hb1⟩)
  refine bodyPost_ret (v := .tuple #[.slice none 0 0, .bool false]) (by simp [results, Try.results27, go_sem]) rfl ?_
  exact grOut_bad (below_next (below_al (Below.refl _ _) _) hb1)
set_option maxRecDepth 100000 in
set_option maxHeartbeats 3200000 in
theorem GroupsOfChain_ok (n : Nat) (A : Option Addr) (xs : List Nat) (c : Nat) (w : World) (hx : xs.length ≤ c) (hc : c ≤ 9223372036854775807) (hA : Rd w w.heap.size A (fl xs)) (hv : validB n xs = true) :
    Calls Try.prog 27 #[.agg #[.int .i64 n, .slice A xs.length c]] w (grOut (groupsTo (seenB (adjC xs n) n) n).1 true w) := by
  obtain ⟨n', hn', hn1, hn2, hl, hp, hrw⟩ := validB_facts hv
  obtain rfl : n = n' := by omega
  obtain ⟨i0, hi0, hz0, hz1, hz2⟩ := info_parts info_bools
  obtain ⟨j0, hj0, hy0, hy1, hy2⟩ := info_parts info_i64
  have HF := Lib.hid fun W h => ValidChain_any n A xs c W hx hc h
  rw [hv] at HF
  have HS := Lib.hid fun i W hi h => reachedFrom_any n i A xs c W ⟨hn1, hn2⟩ hl hp hi h
  have HGL := Lib.hid fun i => groupsTo_len (seenB (adjC xs n) n) i
  have HGM := Lib.hid fun i => groupsTo_many (seenB (adjC xs n) n) i
  have HGN := Lib.hid fun i => groupsTo_nn (seenB (adjC xs n) n) i
  have HA := Lib.hid hA
  clear hx hc hA hv hn' hl hp hrw
  generalize seenB (adjC xs n) n = R at *
  go_enter Try.func27, Try.ntmps27
  go_wp2_with fail
  refine (HF.out _ (HA.out.at_ (below_al (Below.refl _ _) _))).mono ?_
  rintro e w1 ⟨rfl, hb1⟩
  have z0 : w1.cell? ⟨w.heap.size, 0, none⟩ = some (.int .i64 n) := keepC hb1 (by simp [go_sem])
  have z1 : w1.cell? ⟨w.heap.size, 1, none⟩ = some (.slice A xs.length c) := keepC hb1 (by simp [go_sem])
  have HB1 := Lib.hid (below_next (below_al (Below.refl _ _) _) hb1)
  have HZ : Hid (∀ W, Below w1.heap.size w1 W → W.cell? ⟨w.heap.size, 0, none⟩ = some (.int .i64 n) ∧ W.cell? ⟨w.heap.size, 1, none⟩ = some (.slice A xs.length c)) := Lib.hid fun W hW => ⟨keepC hW z0, keepC hW z1⟩
  have HRA : Hid (∀ W, Below w1.heap.size w1 W → Rd W W.heap.size A (fl xs)) := Lib.hid fun W hW => HA.out.at_ (below_next HB1.out hW)
  clear hb1 HF
  go_upto_region 4 with fail
  generalize hW2 : World.alloc (World.alloc w1 _) _ = w2
  have s2 : GS w2 w1.heap.size n R (.slice (some ⟨w1.heap.size, 0, none⟩) 0 0) [] (.slice (some ⟨w1.heap.size + 1, 0, none⟩) 0 0) [] ∧ Below w1.heap.size w1 w2 := by rw [← hW2]; exact ⟨GS.start _ _ _, below_al (below_al (Below.refl _ _) _) _⟩
  have S2 := Lib.hid s2
  obtain ⟨e0, e1⟩ := HZ.out _ s2.2
  clear hW2 s2
  go_wp2_with fail
  go_loopw [4, 18] (fun rv kv wr => ∃ (q : Nat) (A' : Option Addr) (c' : Nat) (gs : List Nat), q ≤ n ∧ kv = .int .i64 q ∧ rv = .slice A' q c' ∧ gs.length = q ∧ GS wr w1.heap.size n R (.slice A' q c') gs (.slice (some ⟨w1.heap.size + 1, 0, none⟩) 0 0) [] ∧ Below w1.heap.size w1 wr) (fun _ kv _ => n - (intOf kv).toNat)
  case atStart => exact ⟨0, _, _, [], Nat.zero_le _, rfl, rfl, rfl, S2.out.1, S2.out.2⟩
  case round =>
    obtain ⟨q, A', c', gs, hq, rfl, rfl, hgl, hgs, hbw⟩ := hrel
    rename World => wr
    have G := Lib.hid hgs
    have B := Lib.hid hbw
    have HGLq := Lib.hid hgl
    obtain ⟨e0, e1⟩ := HZ.out _ hbw
    clear hgs hbw S2
    by_cases hqn : q < n
    · have hs := HS.out q wr hqn (HRA.out wr B.out)
      have HSq := Lib.hid hs
      clear hs
      go_wp2_with fail
      refine HSq.out.mono ?_
      rintro e w3 ⟨g1, rfl, hg1, hr1, hb3⟩
      have g3 := G.out.keep hb3
      have hm3 := g3.m
      rw [hgl] at hm3
      have M3 := Lib.hid hm3
      have R1 := Lib.hid hr1
      have B3 := Lib.hid hb3
      have HZ3 : Hid (w1.heap.size ≤ w3.heap.size ∧ w1.heap.size ≤ wr.heap.size) := Lib.hid ⟨by have := B.out.size; have := hb3.size; omega, B.out.size⟩
      have hz3 := HZ3.out.1
      clear hm3 hr1 hb3 g3 e0 e1
      go_wp2_with (refine wpList_append_lies _ rfl _ _ _ rfl w1.heap.size 76 i0 _ 1 24 Try.underlying75 hi0 hz0 hz1 hz2 rfl (by omega) (.slice A' q c') q (rowsV n gs) (by rfl) (M3.out.alloc _) ⟨w3.heap.size, 0, none⟩ 1 1 [.slice (some ⟨g1, 0, none⟩) n n] (by rfl) (by rfl) (World.news_of_block (cs := #[.slice (some ⟨g1, 0, none⟩) n n]) (t := 76) (fr := (0, 0)) (heap_alloc_new w3 _)) (by simp [Value.oneCell']) (by omega) (by unfold maxLen; omega) (by omega) (by simp; omega) (w3.heap.size + 1) (by simp) ?_; intro g9 cap9 w9 hown9 hgrow hat hlt9; have G9 := Lib.hid (G.out.row' HGLq.out HZ3.out.2 B3.out hg1 R1.out (below_al (Below.refl _ _) _) hgrow hown9 (by rw [World.size_alloc]; exact hat)); have B9 := Lib.hid ((G.out.keep B3.out).far_below B.out B3.out (Nat.le_refl _) hgrow); clear hown9 hgrow hat)
      go_roundw
      case rel => exact ⟨q + 1, _, cap9, gs ++ [g1], by omega, by go_num, rfl, by rw [List.length_append, HGLq.out]; rfl, G9.out, B9.out⟩
      case measure => simp [intOf]; omega
    · obtain rfl : q = n := by omega
      obtain ⟨gV, cV, hV, -, -⟩ := G.out.m.form (by omega)
      injection hV with hA' hB' hC'
      subst hA'
      clear hB' hC'
      go_wp2_with fail
      go_loopw [5, 6, 30] (fun gv mv kv wq => ∃ (m : Nat) (U : Option Addr) (d : Nat), m ≤ q ∧ kv = .int .i64 m ∧ mv = .int .i64 ((groupsTo R m).2 : Nat) ∧ gv = .slice U m d ∧ GS wq w1.heap.size q R (.slice (some ⟨gV, 0, none⟩) q c') gs (.slice U m d) (il (groupsTo R m).1) ∧ Below w1.heap.size w1 wq) (fun _ _ kv _ => q - (intOf kv).toNat)
      case atStart => exact ⟨0, _, 0, Nat.zero_le _, rfl, rfl, rfl, G.out, B.out⟩
      case round =>
        obtain ⟨m, U, d, hm, rfl, rfl, rfl, hgs, hbw⟩ := hrel
        rename World => wq
        have GQ := Lib.hid hgs
        have BQ := Lib.hid hbw
        have hmn := HGM.out m
        have hgl2 := HGL.out m
        clear hgs hbw
        by_cases hmq : m < q
        · have HT0 : Hid (takeG R (groupsTo R m).1 m 0 = -1) := Lib.hid rfl
          have HTS : Hid (∀ k, k < m → takeG R (groupsTo R m).1 m (k + 1) = if (decide (takeG R (groupsTo R m).1 m k < 0) && both_ R m k) = true then (groupsTo R m).1.getD k 0 else takeG R (groupsTo R m).1 m k) := Lib.hid fun k hk => takeG_first fun q hq => by
            rw [List.getD_eq_getElem?_getD, List.getElem?_eq_getElem (by rw [hgl2]; omega)]
            exact (HGN.out m _ (List.getElem_mem _)).1
          have HGS : Hid (groupsTo R (m + 1) = if takeG R (groupsTo R m).1 m m < 0 then ((groupsTo R m).1 ++ [((groupsTo R m).2 : Int)], (groupsTo R m).2 + 1) else ((groupsTo R m).1 ++ [takeG R (groupsTo R m).1 m m], (groupsTo R m).2)) := Lib.hid rfl
          generalize groupsTo R m = GM at *
          obtain ⟨gl, many⟩ := GM
          dsimp only at *
          have HGL2 := Lib.hid hgl2
          clear hgl2
          go_wp2_with fail
          go_loopw [9, 34] (fun ov kv wk => ∃ k r : Nat, k ≤ m ∧ kv = .int .i64 k ∧ ov = .int .i64 (takeG R gl m k) ∧ wk = wq.drewN r) (fun _ kv _ => m - (intOf kv).toNat)
          case atStart => exact ⟨0, 0, Nat.zero_le _, rfl, by rw [HT0.out], rfl⟩
          case round =>
            obtain ⟨k, r, hk, rfl, rfl, rfl⟩ := hrel
            by_cases hkm : k < m
            · have HT := Lib.hid (HTS.out k hkm)
              have gq := GQ.out.keep (below_dn (Below.refl _ _) r)
              have hmg : m < gs.length := by rw [HGLq.out]; exact hmq
              have hkg : k < gs.length := by rw [HGLq.out]; omega
              obtain ⟨a1, a2⟩ := gq.cellAt hmg (show k < q by omega)
              obtain ⟨b1, b2⟩ := gq.cellAt hkg hmq
              obtain ⟨gU, cU, hU, -, -⟩ := gq.o.form (by rw [il_len, HGL2.out]; omega)
              injection hU with hA hB hC
              subst hA
              clear hB hC
              have n1 := gq.numAt (k := k) (by rw [HGL2.out]; exact hkm)
              clear gq
              unfold both_ at HT
              generalize gs[m] = ga at *
              generalize gs[k] = gb at *
              generalize gl.getD k 0 = gx at *
              generalize hT1 : takeG R gl m (k + 1) = T1 at *
              have HT1 := Lib.hid hT1
              clear hT1
              generalize takeG R gl m k = T at *
              generalize R m k = x1 at *
              generalize R k m = x2 at *
              by_cases hneg : T < 0
              · cases x1 <;> cases x2
                case true.true =>
                  have HE : Hid (T1 = gx) := Lib.hid (by rw [HT.out]; simp [hneg])
                  clear HT
                  go_wp2_with fail
                  exact ⟨⟨k + 1, r, by omega, by go_num, by rw [HT1.out, HE.out], rfl⟩, by simp [intOf]; omega⟩
                all_goals
                  have HE : Hid (T1 = T) := Lib.hid (by rw [HT.out]; simp)
                  clear HT
                  go_wp2_with fail
                  exact ⟨⟨k + 1, r, by omega, by go_num, by rw [HT1.out, HE.out], rfl⟩, by simp [intOf]; omega⟩
              · have HE : Hid (T1 = T) := Lib.hid (by rw [HT.out]; simp [hneg])
                clear HT
                go_wp2_with fail
                exact ⟨⟨k + 1, r, by omega, by go_num, by rw [HT1.out, HE.out], rfl⟩, by simp [intOf]; omega⟩
            · obtain rfl : k = m := by omega
              clear HTS HT0
              generalize takeG R gl k k = T at *
              have hbq := BQ.out.size
              have gq := GQ.out.keep (below_dn (Below.refl _ _) r)
              have hol := gq.o
              rw [il_len, HGL2.out] at hol
              have HO := Lib.hid hol
              have HGR := Lib.hid gq
              have HBR := Lib.hid (below_dn BQ.out r)
              have hbr := HBR.out.size
              have HLI : Hid ((il gl).length = k) := Lib.hid (by rw [il_len]; exact HGL2.out)
              clear gq hol
              generalize wq.drewN r = wr2 at *
              by_cases hneg : T < 0
              · rw [if_pos hneg] at HGS
                go_wp2_with (refine wpList_append_lies _ rfl _ _ _ rfl w1.heap.size 2 j0 _ 1 8 Try.underlying49 hj0 hy0 hy1 hy2 rfl (by omega) (.slice U k d) k (il gl) (by rfl) (HO.out.alloc _) ⟨wr2.heap.size, 0, none⟩ 1 1 [.int .i64 (many : Nat)] (by rfl) (by rfl) (World.news_of_block (cs := #[.int .i64 (many : Nat)]) (t := 2) (fr := (0, 0)) (heap_alloc_new wr2 _)) (by simp [Value.oneCell']) (by omega) (by unfold maxLen; omega) (by omega) (by simp; omega) (wr2.heap.size + 1) (by simp) ?_; intro g9 cap9 w9 hown9 hgrow hat hlt9; have G9 := Lib.hid (HGR.out.add' HLI.out (below_al (Below.refl _ _) _) hgrow hown9 (by rw [World.size_alloc]; exact hat)); have B9 := Lib.hid (HGR.out.add_below HBR.out (Nat.le_refl _) hgrow); clear hown9 hgrow hat)
                go_roundw
                case rel => exact ⟨k + 1, _, cap9, by omega, by go_num, by rw [HGS.out]; go_num, rfl, by rw [HGS.out]; simpa [il] using G9.out, B9.out⟩
                case measure => simp [intOf]; omega
              · rw [if_neg hneg] at HGS
                go_wp2_with (refine wpList_append_lies _ rfl _ _ _ rfl w1.heap.size 2 j0 _ 1 8 Try.underlying49 hj0 hy0 hy1 hy2 rfl (by omega) (.slice U k d) k (il gl) (by rfl) (HO.out.alloc _) ⟨wr2.heap.size, 0, none⟩ 1 1 [.int .i64 T] (by rfl) (by rfl) (World.news_of_block (cs := #[.int .i64 T]) (t := 2) (fr := (0, 0)) (heap_alloc_new wr2 _)) (by simp [Value.oneCell']) (by omega) (by unfold maxLen; omega) (by omega) (by simp; omega) (wr2.heap.size + 1) (by simp) ?_; intro g9 cap9 w9 hown9 hgrow hat hlt9; have G9 := Lib.hid (HGR.out.add' HLI.out (below_al (Below.refl _ _) _) hgrow hown9 (by rw [World.size_alloc]; exact hat)); have B9 := Lib.hid (HGR.out.add_below HBR.out (Nat.le_refl _) hgrow); clear hown9 hgrow hat)
                go_roundw
                case rel => exact ⟨k + 1, _, cap9, by omega, by go_num, by rw [HGS.out], rfl, by rw [HGS.out]; simpa [il] using G9.out, B9.out⟩
                case measure => simp [intOf]; omega
        · obtain rfl : m = q := by omega
          go_wp2_with fail
          refine bodyPost_ret (v := .tuple #[.slice U m d, .bool true]) (by simp [results, Try.results27, go_sem]) rfl ?_
          refine ⟨U, d, by rw [HGL.out], ?_, below_next HB1.out BQ.out⟩
          have := GQ.out.o
          rw [il_len, HGL.out] at this
          rw [HGL.out]
          exact own_base this HB1.out.size
end Go.Proofs.Ytlhepgdheopgaaa
