/-
  From a walk to the given statement: arguments opened, and read again behind the call because nothing that was there has changed.
-/
import Derived.Test.YtfkjnaaplhcheaaRows
import Derived.Test.YtfkjnaaplhcheaaMem
import Derived.WalkKit
import Derived.ProofKit
import Derived.OpenShut
import Derived.Below
import Derived.Deep.Slices
import Derived.Lib.SmallJoins
import Derived.WalkLawsBesides
namespace Go.Proofs.Ytfkjnaaplhcheaa
open Go.ChangeShapes Go.WideShapes Go.ChangeAt Go.RowKit Go.Joins

theorem own : ownKnob Try.prog.godebug = none := by kernel_rfl


section
variable {H : Type} {enc : TypeId × Value → H} {P : Program}
theorem post_of_below {f : Func} {s : ChangeSpec} {apart fresh handsOn again : Bool} {W W' : World} {args : Array Value} {v : Value} {ds gs : List (DataW H)} {before pa pv : List MemPlace}
    (hW : DataW.Whole enc P f.params.toList s.vars apart W args.toList ds gs before)
    (hres : ∀ (b : Nat) (sp : Nat → Bool) (hd : Bool), DataW.TrodAll enc P W' b sp hd f.resultTypes.toList (v.resultList f.resultTypes.size) (s.fn H (ds ++ gs)).results [])
    (hargs : ∀ sp : Nat → Bool, (∀ p ∈ before, sp p.block = true) → DataW.TrodAll enc P W' 0 sp true f.params.toList args.toList (s.fn H (ds ++ gs)).args pa)
    (hvars : ∀ sp : Nat → Bool, (∀ p ∈ before, sp p.block = true) → DataW.TrodVars enc P W' sp s.vars (s.fn H (ds ++ gs)).vars pv)
    (hps : before = pa ++ pv) (hb : Below W.heap.size W W')
    (hok : ∀ (j : Nat) (t : TypeId) (r : Value), f.resultTypes[j]? = some t → (v.resultList f.resultTypes.size)[j]? = some r → Value.okWide P W' .any 0 t r) :
    s.post enc P f apart fresh handsOn again W args v W' := by
  have hlt : ∀ p ∈ before, p.block < W.heap.size := fun p hp => hW.lt p hp
  have hold : ∀ p ∈ before, (fun b => decide (b < W.heap.size)) p.block = true := fun p hp => by simpa using hlt p hp
  refine ⟨ds, gs, before, [], pa, pv, hW, hres _ _ _, hargs _ hold, hvars _ hold, World.keptBut_mono (fun p hp => ⟨hp, ?_⟩) (hb.frame (· ∈ before)), fun _ => ?_⟩
  · rw [hps, List.mem_append] at hp
    exact Or.inr hp
  · obtain ⟨_, _, _, _, _, hz, hn⟩ := hW
    refine ⟨hok, _, _, ([] ++ pa) ++ pv, ⟨[] ++ pa, pv, trodAll_append (hargs _ (fun _ _ => rfl)) (hres _ _ _), hvars _ (fun _ _ => rfl), rfl, ?_, ?_⟩, ?_⟩
    · intro b off hp
      have hin : MemPlace.cell b off ∈ before := by rw [hps]; simpa using hp
      rw [hb.frozen (hlt _ hin)]
      exact hz b off hin
    · intro ha
      have := hn ha
      rw [hps] at this
      simpa using this
    · intro p hp _
      rw [hps]
      simpa using hp

/-- every argument reads as it did -/
theorem trodAll_below {W W' : World} (hl : laidOutB P = true) (hb : Below W.heap.size W W') {sp : Nat → Bool} :
    ∀ (ts : List TypeId) (vs : List Value) (ds : List (DataW H)) (ps : List MemPlace), (ts.all fun t => P.readableRec t && decide (t < P.types.size)) = true →
      DataW.TrodAll enc P W 0 (fun _ => true) true ts vs ds ps → (∀ p ∈ ps, p.block < W.heap.size) → (∀ p ∈ ps, sp p.block = true) → DataW.TrodAll enc P W' 0 sp true ts vs ds ps
  | [], vs, ds, ps, _, h, _, _ => by
    obtain ⟨rfl, rfl, rfl⟩ := trodAll_nil h
    exact trodAll_mk0
  | t :: ts, vs, ds, ps, hr, h, hlt, hsp => by
    obtain ⟨v, vs', d, ds', p, q, rfl, rfl, rfl, h0, h1⟩ := trodAll_cons h
    simp only [List.all_cons, Bool.and_eq_true, decide_eq_true_eq] at hr
    obtain ⟨ht, hr'⟩ := hr
    refine trodAll_cons_mk (WideElems.Trod_stays hl ht.1 ht.2 h0 (fun x hx => hb.same (hlt x (by simp [hx]))) (fun x hx => hsp x (by simp [hx]))) ?_
    exact trodAll_below hl hb ts vs' ds' q hr' h1 (fun x hx => hlt x (by simp [hx])) (fun x hx => hsp x (by simp [hx]))

/-- a slice whose elements are one cell each, read by 'g' -/
theorem open_row {W : World} {t e : TypeId} {fuel : Nat} {v : Value} {x : DataW H × List MemPlace} {α : Type} (mk : α → Value) (ok : α → Prop) (ht : P.underlying t = some (.slice e)) (hC : P.cellsOf e = 1)
    (hg : ∀ (n : Nat) (cs : List Value) (y : DataW H × List MemPlace), DataW.trod enc P W 0 (fun _ => true) true n e cs = some y → ∃ a, cs = [mk a] ∧ ok a)
    (h : DataW.trod enc P W 0 (fun _ => true) true fuel t [v] = some x) :
    ∃ (A : Option Addr) (xs : List α) (c : Nat), v = .slice A xs.length c ∧ xs.length ≤ c ∧ c ≤ maxLen ∧ Rd W W.heap.size A (xs.map mk) ∧ ∀ a ∈ xs, ok a := by
  rcases Deep.open_slice ht h with ⟨hc, _⟩ | ⟨a, len, cap, m, n, D, Pl, hcs, _, hl, hm, hmm, _, hi⟩
  · obtain rfl : v = .slice none 0 0 := by simpa using hc
    exact ⟨none, [], 0, rfl, Nat.le_refl _, Nat.zero_le _, Rd.nil, by simp⟩
  · obtain rfl : v = .slice (some a) len cap := by simpa using hcs
    rw [if_pos rfl] at hmm
    subst hmm
    have each : ∀ i, i < len → ∃ b, W.cell? (a.add i) = some (mk b) ∧ ok b := fun i hil => by
      obtain ⟨cs', hc', ht'⟩ := hi i (by omega)
      obtain ⟨b, rfl, hb⟩ := hg n cs' _ ht'
      obtain ⟨_, _, hat⟩ := World.cells?_some hc'
      have := hat 0 (by omega)
      rw [hC, Nat.mul_one, Deep.add_add, Nat.add_zero] at this
      exact ⟨b, this.trans rfl, hb⟩
    have pick : ∀ k, k ≤ len → ∃ xs : List α, xs.length = k ∧ ∀ i (hx : i < xs.length), W.cell? (a.add i) = some (mk xs[i]) ∧ ok xs[i] := by
      intro k
      induction k with
      | zero => exact fun _ => ⟨[], rfl, fun i hx => absurd hx (by simp)⟩
      | succ k ih =>
        intro hk
        obtain ⟨xs, hx1, hx2⟩ := ih (by omega)
        obtain ⟨b, hb1, hb2⟩ := each k (by omega)
        refine ⟨xs ++ [b], by simp [hx1], fun i hx => ?_⟩
        rcases Nat.lt_or_ge i xs.length with h1 | h1
        · rw [List.getElem_append_left h1]
          exact hx2 i h1
        · have hik : i = k := by simp at hx; omega
          subst hik
          rw [List.getElem_append_right h1]
          simpa using ⟨hb1, hb2⟩
    obtain ⟨xs, hx1, hx2⟩ := pick len (Nat.le_refl _)
    refine ⟨some a, xs, m, by rw [hx1], by omega, hm, fun h0 => ?_, fun b hb => ?_⟩
    · have h0' : 0 < xs.length := by simpa using h0
      have hc0 := (hx2 0 h0').1
      have hsp : (a.add 0).spot = none := World.cell?_spot hc0
      obtain ⟨blk, off, spot⟩ := a
      have hspot : spot = none := by simpa [Addr.add] using hsp
      subst hspot
      refine ⟨blk, off, rfl, ?_, fun k hk => ?_⟩
      · have := lt_of_cell hc0
        simpa [Addr.add] using this
      · have hk' : k < xs.length := by simpa using hk
        have := (hx2 k hk').1
        simp only [List.getElem_map]
        rw [← this]
        congr 1
        unfold Addr.add
        by_cases hk0 : k = 0
        · subst hk0; simp
        · simp [hk0]
    · obtain ⟨i, hi1, hi2⟩ := List.getElem_of_mem hb
      exact hi2 ▸ (hx2 i hi1).2

theorem trod_float {W : World} {t : TypeId} {k : FloatKind} {b0 : Nat} {sp : Nat → Bool} {hd : Bool} {fuel : Nat} {cs : List Value} {y : DataW H × List MemPlace} (ht : P.underlying t = some (.float k)) (h : DataW.trod enc P W b0 sp hd fuel t cs = some y) :
    ∃ b, cs = [.float k b] ∧ (Lit.float k b).wf = true := by
  cases fuel with
  | zero => simp [DataW.trod] at h
  | succ n =>
    unfold DataW.trod at h
    rw [ht] at h
    split at h <;> simp_all
end
end Go.Proofs.Ytfkjnaaplhcheaa

