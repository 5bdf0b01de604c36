/-
  A number is added to an entry of a map of our own, keyed by an array: the look-up comes before or behind the making of the entry.
-/
import Derived.Test.YtbpigeipjeegiaaTp
import Derived.Test.YtbpigeipjeegiaaFa
import Derived.WideKeyEntry
import Derived.WideKeyArr2
import Derived.DeepKeys4
namespace Go.Proofs.Ytbpigeipjeegiaa
open Go Go.RowKit Go.Maps Go.ChangeShapes Go.WideShapes Go.MapKept Go.ChangeMaps Go.WideElems Go.WideMaps

section
variable {P : Program} {w : World} {t k e : TypeId} {b : Nat} {es : Array MapEntry} {clock : Nat}
theorem entry_first {R : Value → Option (DataW Unit × List MemPlace)} (K : KeyLaw P k) (ht : P.underlying t = some (.map k e)) {z : Value} (hz : ∀ u : World, (zeroValue e).run P u = .ok z u) (hb : w.heap[b]? = some (.map es clock)) (F : Fit P k R es clock)
    {key : Value} {kl : Lit} (hkey : keyOf P k key = some kl) :
    ∃ (v0 : Value) (st : Nat) (W1 : World), (Instr.mapEntry t (.map (some b)) key).run P w = .ok (.tuple #[v0, goInt st]) W1 ∧ (Instr.mapUpdate t (.map (some b)) key v0).run P w = .ok () W1 ∧ (Instr.lookup t (.map (some b)) key false).run P w = .ok v0 w ∧ ((∃ e0, e0 ∈ es.toList ∧ v0 = e0.val) ∨ v0 = z) := by
  rcases K.find w hkey es.toList F.keys with ⟨h1, h2⟩ | ⟨j, e0, h1, h2, h3⟩
  · refine ⟨z, clock, setBlock w b (.map (es.push ⟨key, z, clock⟩) (clock + 1)), ?_, ?_, ?_, .inr rfl⟩
    · simp [Instr.mapEntry, run_underlying ht, MapKept.run_getObj_map hb, K.check w false hkey, h1, hz, MapKept.run_setObj_map _ hb, Result.andThen, setBlock]
    · simp [Instr.mapUpdate, run_underlying ht, MapKept.run_getObj_map hb, K.check w false hkey, h1, MapKept.run_setObj_map _ hb, Result.andThen, setBlock]
    · simp [Instr.lookup, run_underlying ht, MapKept.run_getObj_map hb, K.check w _ hkey, h1, hz, Result.andThen]
  · have hj : es[j]? = some e0 := by simpa using h2
    have hsame : es.modify j (fun e => { e with key := key }) = es := by
      apply Array.ext'
      rw [Array.toList_modify, modify_eq_set _ _ _ _ h2]
      have : ({ e0 with key := key } : MapEntry) = e0 := by rw [← h3]
      rw [this]
      exact set_self _ _ _ h2
    have hsame2 : es.modify j (fun e => { e with key := key, val := e0.val }) = es := by
      apply Array.ext'
      rw [Array.toList_modify, modify_eq_set _ _ _ _ h2]
      have : ({ e0 with key := key, val := e0.val } : MapEntry) = e0 := by rw [← h3]
      rw [this]
      exact set_self _ _ _ h2
    refine ⟨e0.val, e0.born, setBlock w b (.map es clock), ?_, ?_, ?_, .inl ⟨e0, List.mem_of_getElem? h2, rfl⟩⟩
    · simp [Instr.mapEntry, run_underlying ht, MapKept.run_getObj_map hb, K.check w false hkey, h1, hj, h3, K.stays w hkey, hsame, MapKept.run_setObj_map _ hb, Result.andThen, setBlock]
    · simp [Instr.mapUpdate, run_underlying ht, MapKept.run_getObj_map hb, K.check w false hkey, h1, hj, h3, K.stays w hkey, hsame2, MapKept.run_setObj_map _ hb, Result.andThen, setBlock]
    · simp [Instr.lookup, run_underlying ht, MapKept.run_getObj_map hb, K.check w _ hkey, h1, Result.andThen]
theorem setBlock_twice (w : World) (b : Nat) (x y : Obj) : setBlock (setBlock w b x) b y = setBlock w b y := by
  unfold setBlock
  congr 1
  simp
/-- what comes of the look-up, ahead of the making of the entry and behind it; what is stored -/
theorem entry_all {q : IntKind} {n : Nat} {D : DV} (K : KeyLaw P k) (ht : P.underlying t = some (.map k e)) (he : P.underlying e = some (.int q)) (hz : ∀ u : World, (zeroValue e).run P u = .ok (.int q 0) u) (h : w.ownsMap P k (plainElem P e) b n D) (hn : n + 1 < maxLen)
    {key : Value} {kl : Lit} (hkey : keyOf P k key = some kl) :
    ∃ (c : Int) (v0 : Value) (st : Nat) (W1 : World), (Instr.lookup t (.map (some b)) key false).run P w = .ok (.int q c) w ∧ D.atKey kl (.lit (.int q 0)) = .lit (.int q c) ∧ (Instr.mapEntry t (.map (some b)) key).run P w = .ok (.tuple #[v0, goInt st]) W1 ∧ (Instr.lookup t (.map (some b)) key false).run P W1 = .ok (.int q c) W1 ∧
      ∀ x : Int, (Lit.int q x).wf = true → ∃ W2, (Instr.entryStore t (.map (some b)) (goInt st) (.int q x)).run P W1 = .ok () W2 ∧ W2.ownsMap P k (plainElem P e) b (n + 1) (D.put kl (.lit (.int q x))) ∧ w.grownBy W2 (some b) := by
  have KK : Keyed P k := Keyed.of_law K
  obtain ⟨c, hl, hat, hwc⟩ := h.lookup_int KK ht he (hz w) hkey
  obtain ⟨es, clock, hb, F, hs, hD⟩ := id h
  obtain ⟨v0, st, W1, hm, hu, hlk, hor⟩ := entry_first K ht hz hb F hkey
  obtain ⟨v0', st', es1, clock1, hm', -, hst⟩ := entry_then_store K ht hz hb F hkey
  rw [hm'] at hm
  injection hm with e1 e2
  injection e1 with e1
  have e3 := congrArg Array.toList e1
  simp only [List.cons.injEq, and_true] at e3
  obtain ⟨rfl, e4⟩ := e3
  have e5 : st' = st := by
    unfold goInt at e4
    injection e4 with _ e4
    exact Int.ofNat.inj e4
  subst e5 e2
  have hlt : b < w.heap.size := (Array.getElem?_eq_some_iff.1 hb).1
  -- the world behind the entry's making is that behind a store of what was there
  have hv0 : ∃ c0 : Int, v0' = .int q c0 ∧ (Lit.int q c0).wf = true := by
    rcases hor with ⟨e0, he0, rfl⟩ | rfl
    · obtain ⟨y, hy⟩ := F.reads e0 he0
      obtain ⟨z1, hz1, -⟩ := rd_val hy
      obtain ⟨c0, hc0, -, hw0⟩ := plainElem_int_inv he hz1
      exact ⟨c0, hc0, hw0⟩
    · exact ⟨0, rfl, by cases q <;> decide⟩
  obtain ⟨c0, rfl, hw0⟩ := hv0
  obtain ⟨w', hrun, hown, hgr⟩ := h.update KK ht (by omega) hkey (plainElem_int he hw0)
  rw [hu] at hrun
  injection hrun with _ hrun
  subst hrun
  obtain ⟨c1, hl1, hat1, -⟩ := hown.lookup_int KK ht he (hz _) hkey
  have hD1 : IsMap D := ⟨_, hD⟩
  rw [hl] at hlk
  injection hlk with hlk
  injection hlk with _ hlk
  subst hlk
  rw [atKey_put_same hD1 (KK.key hkey)] at hat1
  injection hat1 with hat1
  injection hat1 with _ hat1
  subst hat1
  refine ⟨_, _, st', _, hl, hat, hm', ?_, fun x hx => ?_⟩
  · exact hl1
  · obtain ⟨es2, clock2, hs1, hs2⟩ := hst (setBlock w b (.map es1 clock1)) (.int q x) (heap_setBlock_same hb _)
    obtain ⟨w2, hr2, ho2, hg2⟩ := h.update KK ht (by omega) hkey (plainElem_int he hx)
    rw [hs2] at hr2
    injection hr2 with _ hr2
    rw [setBlock_twice, hr2] at hs1
    exact ⟨w2, hs1, ho2, hg2⟩
end
end Go.Proofs.Ytbpigeipjeegiaa
