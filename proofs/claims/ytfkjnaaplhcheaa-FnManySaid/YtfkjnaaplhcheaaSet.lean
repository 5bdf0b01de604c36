/-
  A region that draws its order and whose first operations leave the world alone but for draws, where a value may hang on what is drawn (the bits of a NaN): one walk of the text's order serves every order. Behind these operations the rest comes in one forced order.
-/
import Derived.StillTail
import Derived.Deep.Quiet
import Derived.Deep.QuietTactic
import Derived.BigQuiet
namespace Go.Proofs.Ytfkjnaaplhcheaa
open Go

section
variable {P : Program} {ops : Array Oper} {md : Region.Mode} {C : World → Prop}

/-- a plain operation's yield: a value, and a world of the class -/
def plainUpon (C : World → Prop) (K : Value → Prop) : Result Next → Prop
  | .ok (.value u) w' => C w' ∧ K u
  | .ok .skip w' => C w' ∧ K undef
  | _ => False
def setAt (P : Program) (o : Oper) (a : Act) (C : World → Prop) (K : Act → Prop) : Prop := ∀ w, C w → plainUpon C (fun v => K (a.put o.dst v)) ((execOp a.eval o).run P w)
def sOp (P : Program) (ops : Array Oper) (C : World → Prop) (i : Nat) (K : Act → Prop) (a : Act) : Prop :=
  match ops[i]? with
  | none => K a
  | some o => if Region.wanted o (yielded ops a.tmps) then setAt P o a C K else K (a.put o.dst undef)
def wpSet (P : Program) (ops : Array Oper) (C : World → Prop) (Q : Act → Prop) : List Oper → Act → Prop
  | [], a => Q a
  | o :: rest, a => if Region.wanted o (yielded ops a.tmps) then setAt P o a C (wpSet P ops C Q rest) else wpSet P ops C Q rest (a.put o.dst undef)
theorem wpSet_nil {Q : Act → Prop} {a : Act} (h : Q a) : wpSet P ops C Q [] a := h
theorem wpSet_step {Q : Act → Prop} {a : Act} {o : Oper} {rest : List Oper}
    (h : ∀ K : Act → Prop, (∀ a, wpSet P ops C Q rest a → K a) → if Region.wanted o (yielded ops a.tmps) then setAt P o a C K else K (a.put o.dst undef)) : wpSet P ops C Q (o :: rest) a :=
  h _ (fun _ h => h)

theorem plainUpon_mono {K K' : Value → Prop} (h : ∀ v, K v → K' v) : ∀ r, plainUpon C K r → plainUpon C K' r := by
  intro r hr
  cases r with
  | ok n w' =>
    cases n <;> simp only [plainUpon] at hr ⊢
    · exact ⟨hr.1, h _ hr.2⟩
    · exact ⟨hr.1, h _ hr.2⟩
  | halt x w' => simp only [plainUpon] at hr
theorem plainUpon_and {K K' : Value → Prop} : ∀ r, plainUpon C K r → plainUpon C K' r → plainUpon C (fun v => K v ∧ K' v) r := by
  intro r hr hr'
  cases r with
  | ok n w' =>
    cases n <;> simp only [plainUpon] at hr hr' ⊢
    · exact ⟨hr.1, hr.2, hr'.2⟩
    · exact ⟨hr.1, hr.2, hr'.2⟩
  | halt x w' => simp only [plainUpon] at hr
theorem plainUpon_some {K : Value → Prop} : ∀ r, plainUpon C K r → ∃ v, K v := by
  intro r hr
  cases r with
  | ok n w' =>
    cases n <;> simp only [plainUpon] at hr
    · exact ⟨_, hr.2⟩
    · exact ⟨_, hr.2⟩
  | halt x w' => simp only [plainUpon] at hr

theorem sOp_mono {i : Nat} {a : Act} {K K' : Act → Prop} (h : ∀ a, K a → K' a) (hh : sOp P ops C i K a) : sOp P ops C i K' a := by
  unfold sOp at *
  split
  · rename_i ho
    simp only [ho] at hh
    exact h _ hh
  · rename_i o ho
    simp only [ho] at hh
    split
    · rename_i hw
      simp only [hw, if_true] at hh
      exact fun w hC => plainUpon_mono (fun v hv => h _ hv) _ (hh w hC)
    · rename_i hw
      simp only [hw] at hh
      exact h _ hh
theorem sOp_some {i : Nat} {a : Act} {K : Act → Prop} {w : World} (hw : C w) (hh : sOp P ops C i K a) : ∃ a', K a' := by
  unfold sOp at hh
  split at hh
  · exact ⟨_, hh⟩
  · split at hh
    · obtain ⟨v, hv⟩ := plainUpon_some _ (hh w hw)
      exact ⟨_, hv⟩
    · exact ⟨_, hh⟩

def one (P : Program) (ops : Array Oper) (C : World → Prop) (o : Oper) (K : Act → Prop) (a : Act) : Prop :=
  if Region.wanted o (yielded ops a.tmps) then setAt P o a C K else K (a.put o.dst undef)
theorem sOp_one {i : Nat} {o : Oper} (h : ops[i]? = some o) (K : Act → Prop) (a : Act) : sOp P ops C i K a = one P ops C o K a := by
  unfold sOp one
  simp only [h]
theorem one_yes {o : Oper} {K : Act → Prop} {a : Act} (h : Region.wanted o (yielded ops a.tmps) = true) : one P ops C o K a = setAt P o a C K := by
  unfold one
  rw [if_pos h]
theorem one_no {o : Oper} {K : Act → Prop} {a : Act} (h : Region.wanted o (yielded ops a.tmps) = false) : one P ops C o K a = K (a.put o.dst undef) := by
  unfold one
  rw [if_neg (by rw [h]; exact Bool.false_ne_true)]
theorem setAt_mono {o : Oper} {a : Act} {K K' : Act → Prop} (h : ∀ v, K (a.put o.dst v) → K' (a.put o.dst v)) (hh : setAt P o a C K) : setAt P o a C K' :=
  fun w hw => plainUpon_mono (fun v hv => h v hv) _ (hh w hw)
theorem setAt_put {o : Oper} {a : Act} {d : Option Tmp} {u : Value} {K K' : Act → Prop} (he : execOp (a.put d u).eval o = execOp a.eval o) (h : ∀ v, K (a.put o.dst v) → K' ((a.put d u).put o.dst v)) (hh : setAt P o a C K) : setAt P o (a.put d u) C K' := by
  intro w hw
  rw [he]
  exact plainUpon_mono (fun v hv => h v hv) _ (hh w hw)

/-- two operations apart from one another may change places -/
theorem one_swap {oi oj : Oper} (hap : oi.apart ops oj = true)
    (hsi : ∀ cs b, oi.op ≠ .select cs b) (hsj : ∀ cs b, oj.op ≠ .select cs b) {K : Act → Prop} {a : Act}
    (h : one P ops C oi (fun a' => one P ops C oj K a') a) : one P ops C oj (fun a' => one P ops C oi K a') a := by
  obtain ⟨h1, h2, h3⟩ := Oper.apart_spec hap
  have wj := fun v => wanted_put oj a oi.dst v h1
  have wi := fun v => wanted_put oi a oj.dst v h3
  have ej := fun v => execOp_put oj hsj a oi.dst v h1
  have ei := fun v => execOp_put oi hsi a oj.dst v h3
  cases hwi : Region.wanted oi (yielded ops a.tmps) with
  | true =>
    rw [one_yes hwi] at h
    cases hwj : Region.wanted oj (yielded ops a.tmps) with
    | true =>
      rw [one_yes hwj]
      have hh : setAt P oi a C (fun a' => setAt P oj a' C K) := setAt_mono (fun v hv => by
        have hv' : one P ops C oj K (a.put oi.dst v) := hv
        rw [one_yes ((wj v).trans hwj)] at hv'
        exact hv') h
      intro w' hw'
      have hj' : ∀ w, C w → plainUpon C (fun v => plainUpon C (fun u => K ((a.put oi.dst v).put oj.dst u)) ((execOp a.eval oj).run P w')) ((execOp a.eval oi).run P w) := fun w hw => by
        refine plainUpon_mono (fun v hv => ?_) _ (hh w hw)
        have := hv w' hw'
        rwa [ej v] at this
      have hsome := hj' w' hw'
      obtain ⟨v0, hv0⟩ := plainUpon_some _ hsome
      have fin : ∀ u, (∀ w, C w → plainUpon C (fun v => K ((a.put oi.dst v).put oj.dst u)) ((execOp a.eval oi).run P w)) → one P ops C oi K (a.put oj.dst u) := fun u hu => by
        rw [one_yes ((wi u).trans hwi)]
        intro w hw
        rw [ei u]
        refine plainUpon_mono (fun v hv => ?_) _ (hu w hw)
        rw [← Act.put_comm a v u h2]
        exact hv
      generalize (execOp a.eval oj).run P w' = rj at *
      cases rj with
      | halt x wx => simp only [plainUpon] at hv0
      | ok nx wx =>
        cases nx <;> simp only [plainUpon] at hv0 hj' ⊢
        case value u => exact ⟨hv0.1, fin u fun w hw => plainUpon_mono (fun v hv => hv.2) _ (hj' w hw)⟩
        case skip => exact ⟨hv0.1, fin undef fun w hw => plainUpon_mono (fun v hv => hv.2) _ (hj' w hw)⟩
    | false =>
      rw [one_no hwj, one_yes ((wi undef).trans hwi)]
      refine setAt_put (ei undef) (fun v hv => ?_) h
      have hv' : one P ops C oj K (a.put oi.dst v) := hv
      rw [one_no ((wj v).trans hwj)] at hv'
      rw [← Act.put_comm a v undef h2]
      exact hv'
  | false =>
    rw [one_no hwi] at h
    cases hwj : Region.wanted oj (yielded ops a.tmps) with
    | true =>
      rw [one_yes ((wj undef).trans hwj)] at h
      rw [one_yes hwj]
      intro w hw
      have := h w hw
      rw [ej undef] at this
      refine plainUpon_mono (fun u hu => ?_) _ this
      show one P ops C oi K (a.put oj.dst u)
      rw [one_no ((wi u).trans hwi), ← Act.put_comm a undef u h2]
      exact hu
    | false =>
      rw [one_no ((wj undef).trans hwj)] at h
      rw [one_no hwj, one_no ((wi undef).trans hwi), ← Act.put_comm a undef undef h2]
      exact h
theorem sOp_swap {i j : Nat} {oi oj : Oper} (hi : ops[i]? = some oi) (hj : ops[j]? = some oj) (hap : oi.apart ops oj = true)
    (hsi : ∀ cs b, oi.op ≠ .select cs b) (hsj : ∀ cs b, oj.op ≠ .select cs b) {K : Act → Prop} {a : Act}
    (h : sOp P ops C i (fun a' => sOp P ops C j K a') a) : sOp P ops C j (fun a' => sOp P ops C i K a') a := by
  have e1 : (fun a' => sOp P ops C j K a') = fun a' => one P ops C oj K a' := funext fun a' => sOp_one hj K a'
  have e2 : (fun a' => sOp P ops C i K a') = fun a' => one P ops C oi K a' := funext fun a' => sOp_one hi K a'
  rw [e1, sOp_one hi] at h
  rw [e2, sOp_one hj]
  exact one_swap hap hsi hsj h

def wpAnyM (P : Program) (md : Region.Mode) (ops : Array Oper) (C : World → Prop) (n : Nat) (L : Array Bool → Act → Prop) : Nat → Array Bool → Act → Prop
  | 0, listed, a => L listed a
  | f + 1, listed, a =>
    Region.ready md ops listed ≠ [] ∧ ∀ i ∈ Region.ready md ops listed, i < n ∧ sOp P ops C i (wpAnyM P md ops C n L f (listed.setIfInBounds i true)) a

theorem wpOp_of_sOp {i : Nat} {a : Act} {K : Act → Prop} {K' : Act → World → Prop} {Q' : Exit → Act → World → Prop} {w : World} (hC : C w) (h : ∀ a w', C w' → K a → K' a w') (hh : sOp P ops C i K a) : wpOp P ops Q' i K' a w := by
  unfold sOp at hh
  unfold wpOp
  split
  · rename_i ho
    simp only [ho] at hh
    exact h _ _ hC hh
  · rename_i o ho
    simp only [ho] at hh
    split
    · rename_i hw
      simp only [hw, if_true] at hh
      refine .inl ?_
      have h3 := hh w hC
      unfold Oper.wp
      generalize (execOp a.eval o).run P w = r at *
      cases r with
      | ok n w' =>
        cases n <;> simp only [plainUpon] at h3 <;> simp only [Oper.upon]
        · exact h _ _ h3.1 h3.2
        · exact h _ _ h3.1 h3.2
      | halt x w' => simp only [plainUpon] at h3
    · rename_i hw
      simp only [hw] at hh
      exact h _ _ hC hh

theorem wpAny_of_headM {n g : Nat} {L : Array Bool → Act → Prop} {Q' : Exit → Act → World → Prop} (hL : ∀ listed a w, C w → L listed a → wpAny P md ops Q' g listed a w) :
    ∀ (f : Nat) (listed : Array Bool) (a : Act) (w : World), C w → wpAnyM P md ops C n L f listed a → wpAny P md ops Q' (f + g) listed a w
  | 0, listed, a, w, hw, h => by rw [Nat.zero_add]; exact hL _ _ _ hw h
  | f + 1, listed, a, w, hw, h => by
    rw [show f + 1 + g = (f + g) + 1 by omega]
    exact ⟨fun h0 => absurd h0 h.1, fun i hi => wpOp_of_sOp hw (fun a' w' hw' h' => wpAny_of_headM hL f _ a' w' hw' h') (h.2 i hi).2⟩

theorem wpAnyM_first {n i : Nat} {oi : Oper} {L : Array Bool → Act → Prop} {w0 : World} (hC0 : C w0) (hi : ops[i]? = some oi) (hsel : ∀ (j : Nat) (o : Oper) cs b, ops[j]? = some o → o.op ≠ .select cs b)
    (hs : Region.sinkB md ops n = true) (hc : Region.chainB md ops n = true) (hn : n < ops.size) (hin : i < n)
    (hdone : ∀ listed a, L listed a → ∀ j ∈ Region.ready md ops listed, n ≤ j) :
    ∀ (f : Nat) (listed : Array Bool) (a : Act), HeadInv md ops n listed →
      (∀ j oj, ops[j]? = some oj → j ≠ i → listed.getD j true = false → (∀ e ∈ oj.after, Region.binds md e = true → e.on ≠ i) → oi.apart ops oj = true) →
      i ∈ Region.ready md ops listed →
      sOp P ops C i (wpAnyM P md ops C n L f (listed.setIfInBounds i true)) a → wpAnyM P md ops C n L (f + 1) listed a := by
  intro f
  induction f with
  | zero =>
    intro listed a inv _ hr H
    have hun := (mem_ready.1 hr).1
    refine ⟨fun h => (by rw [h] at hr; cases hr), fun j hj => ?_⟩
    have hjn : j < n := by
      rcases Nat.lt_or_ge j n with h | h
      · exact h
      · exact absurd hj (tail_waits hs hc hn inv _ i rfl hin hun j h)
    refine ⟨hjn, ?_⟩
    by_cases hji : j = i
    · subst hji; exact H
    · obtain ⟨a', ha'⟩ := sOp_some hC0 H
      have := hdone _ _ ha' j (ready_mono hj hji)
      omega
  | succ f ih =>
    intro listed a inv hfree hr H
    have hun := (mem_ready.1 hr).1
    refine ⟨fun h => (by rw [h] at hr; cases hr), fun j hj => ?_⟩
    have hjn : j < n := by
      rcases Nat.lt_or_ge j n with h | h
      · exact h
      · exact absurd hj (tail_waits hs hc hn inv _ i rfl hin hun j h)
    refine ⟨hjn, ?_⟩
    by_cases hji : j = i
    · subst hji; exact H
    · have h1 : sOp P ops C i (fun a' => sOp P ops C j (wpAnyM P md ops C n L f ((listed.setIfInBounds i true).setIfInBounds j true)) a') a :=
        sOp_mono (fun a' h' => (h'.2 j (ready_mono hj hji)).2) H
      obtain ⟨hjun, oj, hoj, hall⟩ := mem_ready.1 hj
      have hnot : ∀ e ∈ oj.after, Region.binds md e = true → e.on ≠ i := fun e he hb heq => by
        have h1 := hall e he hb
        rw [heq, getD_both hun] at h1
        cases h1
      have h2 := sOp_swap hi hoj (hfree j oj hoj hji hjun hnot) (fun cs b => hsel i oi cs b hi) (fun cs b => hsel j oj cs b hoj) h1
      have hfree' : ∀ k ok, ops[k]? = some ok → k ≠ i → (listed.setIfInBounds j true).getD k true = false →
          (∀ e ∈ ok.after, Region.binds md e = true → e.on ≠ i) → oi.apart ops ok = true := fun k ok hk hki hun hno => by
        refine hfree k ok hk hki ?_ hno
        by_cases hjk : j = k
        · subst hjk; exact hjun
        · rw [getD_set_ne true hjk] at hun; exact hun
      refine sOp_mono (fun a' h3 => ih (listed.setIfInBounds j true) a' (inv.set hj hjn) hfree' (ready_mono hr (Ne.symm hji)) ?_) h2
      rw [Array.setIfInBounds_comm _ _ hji]
      exact h3

theorem wpAnyM_lex {n g : Nat} {Lq : Act → Prop} {w0 : World} (hC0 : C w0) (hsel : Region.noSelect ops = true) (hs : Region.sinkB md ops n = true) (hc : Region.chainB md ops n = true) (hn : n < ops.size) :
    ∀ (l : List Oper) (k : Nat) (listed : Array Bool) (a : Act), (∀ j, j < l.length → l[j]? = ops[k + j]?) → k + l.length = n → HeadInv md ops n listed →
    Region.lexHead md ops g l.length k listed = true → wpSet P ops C Lq l a →
    wpAnyM P md ops C n (fun listed' a' => Region.seqB md ops g n listed' = true ∧ Lq a') l.length listed a
  | [], k, listed, a, _, hk, _, hB, h => by
    have : k = n := by simpa using hk
    subst this
    exact ⟨by simpa [Region.lexHead] using hB, h⟩
  | o :: l, k, listed, a, hl, hk, inv, hB, h => by
    have h0 : ops[k]? = some o := by simpa using (hl 0 (by simp)).symm
    simp only [List.length_cons, Region.lexHead, Bool.and_eq_true] at hB
    obtain ⟨⟨hr, hf⟩, hB'⟩ := hB
    have hkn : k < n := by simp only [List.length_cons] at hk; omega
    have hr' : k ∈ Region.ready md ops listed := by simpa using hr
    have hst : sOp P ops C k (wpSet P ops C Lq l) a := by unfold sOp; simp only [h0]; exact h
    refine wpAnyM_first hC0 h0 (Region.noSelect_spec hsel) hs hc hn hkn (fun listed' a' hL => seqB_ready hL.1) l.length listed a inv (Region.free_spec h0 hf) hr' ?_
    exact sOp_mono (fun a' h' => wpAnyM_lex hC0 hsel hs hc hn l (k + 1) _ _ (fun j hj => by have := hl (j + 1) (by simp; omega); simpa [Nat.add_assoc, Nat.add_comm 1 j] using this) (by simp only [List.length_cons] at hk; omega) (inv.set hr' hkn) hB' h') hst

theorem wp_region_set_tail {id : Nat} {Q : Exit → Act → World → Prop} {a : Act} {w : World} {l : List Oper} (n : Nat) (hm : P.follows .mixedOrders = true) (hB : Region.lexTailB .any l.toArray n = true)
    (h : wpSet P l.toArray (fun w' => ∃ m, w' = w.drewN m) (fun a' => ∀ m, wpList P l.toArray Q (l.drop n) a' (w.drewN m)) (l.take n) a) : (Code.region id l.toArray true).wp P Q a w := by
  simp only [Region.lexTailB, Bool.and_eq_true, decide_eq_true_eq] at hB
  obtain ⟨⟨⟨⟨hsel, hn⟩, hs⟩, hc⟩, hlex⟩ := hB
  have hn' : n < l.length := by simpa using hn
  have htl : (l.take n).length = n := by simp; omega
  have hdl : (l.drop n).length = l.toArray.size - n := by simp
  have inv0 : HeadInv .any l.toArray n (Array.replicate l.toArray.size false) :=
    ⟨by simp, fun j oj _ hl => (by rw [getD_replicate_false] at hl; cases hl), fun t _ ht => getD_in (by simpa using ht) (getD_replicate_false _ _)⟩
  have hC0 : (fun w' => ∃ m, w' = w.drewN m) w.drew := ⟨1, rfl⟩
  have H := wpAnyM_lex (md := .any) (g := l.toArray.size - n) hC0 hsel hs hc hn (l.take n) 0 _ a (fun j hj => by
    have hj' : j < n := by rw [htl] at hj; exact hj
    simp [hj']) (by simpa using htl) inv0 (by rw [htl]; exact hlex) h
  refine wp_region_any hm ?_
  have := wpAny_of_headM (Q' := Q) (g := l.toArray.size - n) (fun listed a' w' hw' hL => by
    obtain ⟨m, rfl⟩ := hw'
    have := wpAny_of_seq (md := .any) (Q' := Q) (l.drop n) n listed a' (w.drewN m) (fun j => by simp [List.getElem?_drop]) (by rw [hdl]; exact hL.1) (hL.2 m)
    rwa [hdl] at this) _ _ _ _ hC0 H
  rw [htl, show n + (l.toArray.size - n) = l.toArray.size by omega] at this
  exact this

/-- one operation: a value of a set -/
theorem setAt_of {o : Oper} {a : Act} {K : Act → Prop} {w : World} (V : Value → Prop) (h : ∀ m, ∃ v m', (execOp a.eval o).run P (w.drewN m) = .ok (.value v) (w.drewN m') ∧ V v) (hk : ∀ v, V v → K (a.put o.dst v)) : setAt P o a (fun w' => ∃ m, w' = w.drewN m) K := by
  rintro _ ⟨m, rfl⟩
  obtain ⟨v, m', hr, hv⟩ := h m
  rw [hr]
  exact ⟨⟨m', rfl⟩, hk v hv⟩
theorem wpSet_of {Q : Act → Prop} {a : Act} {o : Oper} {rest : List Oper} {w : World} (hw : Region.wanted o (yielded ops a.tmps) = true) (V : Value → Prop) (h : ∀ m, ∃ v m', (execOp a.eval o).run P (w.drewN m) = .ok (.value v) (w.drewN m') ∧ V v)
    (hk : ∀ v, V v → wpSet P ops (fun w' => ∃ m, w' = w.drewN m) Q rest (a.put o.dst v)) : wpSet P ops (fun w' => ∃ m, w' = w.drewN m) Q (o :: rest) a := by
  unfold wpSet
  rw [if_pos hw]
  exact setAt_of V h hk

/-- operations that never enter a function -/
def plainOp (o : Oper) : Bool :=
  match o.op with
  | .move _ | .assign _ | .pick .. | .load .. | .binOp .. | .unOp .. | .convert .. | .field .. | .fieldAddr .. | .indexAddr .. | .index .. | .extract .. => true
  | _ => false
theorem value_never {s : Sem Value} {w w' : World} {f : FuncId} {args : Array Value} (h : (do pure (Next.value (← s)) : Sem Next).run P w = .ok (.enter f args) w') : False := by
  rw [Sem.run_bind] at h
  cases hs : s.run P w with
  | ok v w1 => rw [hs] at h; simp at h
  | halt x w1 => rw [hs] at h; simp at h
theorem plain_never {ρ : Operand → Value} {o : Oper} (h : plainOp o = true) {w w' : World} {f : FuncId} {args : Array Value} (hr : (execOp ρ o).run P w = .ok (.enter f args) w') : False := by
  unfold plainOp at h
  unfold execOp at hr
  cases ho : o.op <;> rw [ho] at h hr <;> first | (cases h; done) | (exact value_never hr) | (simp at hr; done) | skip
  all_goals
    rename_i c x y
    rw [Sem.run_bind] at hr
    cases hs : (asBool (ρ c)).run P w with
    | ok v w1 => rw [hs] at hr; simp at hr
    | halt x w1 => rw [hs] at hr; simp at hr
theorem setAt_of_quiet {o : Oper} {a : Act} {K : Act → Prop} (hp : plainOp o = true) (h : o.quiet P a C K) : setAt P o a C K := by
  obtain ⟨v, h1, h2⟩ := h
  intro w hw
  have h3 := h1 w hw
  unfold Oper.quietAt at h3
  cases hr : (execOp a.eval o).run P w with
  | halt x w' => rw [hr] at h3; simp only [Oper.quietUpon] at h3
  | ok n w' =>
    rw [hr] at h3
    cases n <;> simp only [Oper.quietUpon] at h3
    case value u =>
      obtain ⟨rfl, rfl⟩ := h3
      exact ⟨hw, h2⟩
    case skip =>
      obtain ⟨rfl, rfl⟩ := h3
      exact ⟨hw, h2⟩
    case enter f args => exact (plain_never hp hr).elim
theorem wpSet_quiet {Q : Act → Prop} {a : Act} {o : Oper} {rest : List Oper} (hw : Region.wanted o (yielded ops a.tmps) = true) (hp : plainOp o = true)
    (h : ∀ K : Act → Prop, (∀ a, wpSet P ops C Q rest a → K a) → o.quiet P a C K) : wpSet P ops C Q (o :: rest) a := by
  unfold wpSet
  rw [if_pos hw]
  exact setAt_of_quiet hp (h _ fun _ h => h)
theorem run_convert_op {ρ : Operand → Value} {o : Oper} {s d : TypeId} {x : Operand} {u v : Value} {w w' : World} (ho : o.op = .convert s d x) (hx : ρ x = u) (h : (convert s d u).run P w = .ok v w') : (execOp ρ o).run P w = .ok (.value v) w' := by
  unfold execOp
  rw [ho]
  show (do pure (Next.value (← convert s d (ρ x))) : Sem Next).run P w = _
  rw [Sem.run_bind, hx, h]
  rfl
theorem run_binOp_op {ρ : Operand → Value} {o : Oper} {b : BinOp} {s t : TypeId} {x y : Operand} {k : FloatKind} {u v : Nat} {r : Value} {w w' : World} (ho : o.op = .binOp b s x y t) (hb : b = .add ∨ b = .sub ∨ b = .mul ∨ b = .quo) (hx : ρ x = .float k u) (hy : ρ y = .float k v)
    (h : (binOp b s (.float k u) (.float k v)).run P w = .ok r w') : (execOp ρ o).run P w = .ok (.value r) w' := by
  unfold execOp
  rw [ho]
  show (do pure (Next.value (← (do eqGuard b s x y (ρ x) (ρ y); binOp b s (ρ x) (ρ y)))) : Sem Next).run P w = _
  rw [Sem.run_bind, Sem.run_bind, hx, hy]
  have hg : (eqGuard b s x y (.float k u) (.float k v)).run P w = .ok () w := by
    rcases hb with rfl | rfl | rfl | rfl <;> rfl
  rw [hg]
  show ((binOp b s (.float k u) (.float k v)).run P w).andThen _ = _
  rw [h]
  rfl
end
end Go.Proofs.Ytfkjnaaplhcheaa
