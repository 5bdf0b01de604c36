/-
  How a program's head word tells its make: over any program.
-/
import GoSem.ClaimJoined
import Derived.KernelRfl
import Derived.JoinedOf
namespace Go.Proofs.Ytfkjnaaplhcheaa
open Go

def sp : Char := Char.ofNat 32
theorem words_append (l r : List Char) : wordsSigns (l ++ sp :: r) = wordsSigns l ++ wordsSigns r := by
  have hsp : ∀ x : List Char, wordsSigns (sp :: x) = [] :: wordsSigns x := fun x => rfl
  have hne : ∀ l : List Char, ∃ w ws, wordsSigns l = w :: ws := by
    intro l
    induction l with
    | nil => exact ⟨[], [], rfl⟩
    | cons c l ih =>
      obtain ⟨w, ws, h⟩ := ih
      by_cases hc : c = sp
      · subst hc
        exact ⟨[], _, hsp l⟩
      · refine ⟨c :: w, ws, ?_⟩
        rw [wordsSigns.eq_3 c l (fun h' => hc h'), h]
  induction l with
  | nil => exact hsp r
  | cons c l ih =>
    by_cases hc : c = sp
    · subst hc
      rw [List.cons_append, hsp, hsp, ih]
      rfl
    · obtain ⟨w, ws, h⟩ := hne l
      rw [List.cons_append, wordsSigns.eq_3 c _ (fun h' => hc h'), wordsSigns.eq_3 c l (fun h' => hc h'), ih, h]
      rfl

section
variable {P : Program} {W : List (List Char)} {C : List Char}
theorem gen_make (hW : behindMainWord (wordsSigns P.initOrder.toList) = C :: W) (h1 : (C == "gc".toList) = false) (h2 : (C == "spec".toList) = false) (h3 : (C == "cut".toList) = true) : P.make = some .cut := by
  unfold Program.make
  rw [hW]
  simp only [h1, h2, h3, Bool.false_or, Bool.true_or, if_true, Bool.false_eq_true, if_false]
theorem gen_headLifts (hW : behindMainWord (wordsSigns P.initOrder.toList) = C :: W) (hs : stripLifts liftWords (C :: W) = ([], C :: W)) : P.headLifts = [] := by
  unfold Program.headLifts
  rw [hW, hs]
  simp only
  split <;> rfl
theorem gen_lifts (hW : behindMainWord (wordsSigns P.initOrder.toList) = C :: W) (hs : stripLifts liftWords (C :: W) = ([], C :: W)) (h1 : (some C == some "carried".toList) = false) : P.liftsFinal = false := by
  unfold Program.liftsFinal
  rw [hW, gen_headLifts hW hs]
  simp only [List.head?_cons, h1, Bool.false_and, Bool.false_or]
  rfl
theorem gen_enter (hW : behindMainWord (wordsSigns P.initOrder.toList) = C :: W) (hs : stripLifts liftWords (C :: W) = ([], C :: W)) (h1 : (some C == some "cut".toList) = true)
    (l1 : P.laysLater = false) (l2 : P.bearsReflect = false) (l3 : P.doorFits [] = true) : P.mayEnter = true := by
  unfold Program.mayEnter
  rw [hW]
  simp only [hs, List.head?_cons, h1, l1, l2, l3, Bool.not_false, Bool.or_true, Bool.true_and, Bool.and_true, Bool.or_eq_true]
  exact .inr (.inr rfl)
theorem gen_facts (f : FuncId) (fn : Func) (s : ChangeSpec) (c : OpenClaim) (hv : s.plain.varTypes P = []) (hvs : s.vars = [])
    (p1 : laidOutB P = true) (p2 : mapsRowed P = true) (p3 : P.stops = []) (p4 : P.stopKnobs = []) (p5 : P.stopsHeard = true) (p6 : P.mayEnter = true) (p7 : P.liftsFinal = false) (p8 : P.make = some .cut)
    (a1 : c.wf (OpenSpec.ofChange s) = true) (a2 : fn.params.all (P.readableRec ·) = true) (a3 : namedTie P c.named [] = true) (a4 : c.stops = []) (a5 : c.knobs = [])
    (b1 : c.inPlace = P.inPlace f) (b2 : c.unfollowed = P.unfollowed f) (b3 : c.recurses = P.recurses f) (b4 : c.named = P.varsNamed f)
    (m1 : (c.maps == fn.params.toList.any (P.mapsRec ·)) = true) (m2 : (c.ifaces == fn.params.toList.any (P.ifacesRec ·)) = true) (m3 : (c.mapsOut == P.mapsAmong fn.resultTypes.toList) = true)
    (m4 : (c.loops == fn.params.toList.any (P.loopsFrom ·)) = true) (m5 : (c.wideKeys == (fn.params.toList ++ fn.resultTypes.toList).any (P.wideKeysFrom ·)) = true)
    (m6 : (fn.resultTypes.all (fun t => P.readableRec t && decide (t < P.types.size))) = true) (m7 : (c.ifacesOut == fn.resultTypes.toList.any (P.ifacesRec ·)) = true) (m8 : (c.loopsOut == fn.resultTypes.toList.any (P.loopsFrom ·)) = true)
    (n1 : c.plainKeys = P.plainKeys) (n2 : c.shortTexts.isNone = true) (n3 : c.lifted = false) (n4 : c.make = .cut) (n5 : c.domain.isEmpty = true) (n6 : c.kinds = []) (n7 : (c.pinned == c.pinnedBy) = true)
    (n8 : (c.veiled == (fn.params.toList ++ fn.resultTypes.toList).any (P.veiledRec ·)) = true) (n9 : c.veiledFits P fn.params.toList (fn.params.toList ++ fn.resultTypes.toList) = true) :
    joinedFacts P f fn s c = true := by
  unfold joinedFacts
  rw [hv, hvs, List.append_nil, a1, p1, p2, a2, a3, a4, p3, a5, p4, ← b1, ← b2, ← b3, ← b4, m1, m2, m3, m4, m5, m6, m7, m8, ← n1, n2, p5, p6, n3, p7, p8, n4, n5, n6, n7, n8, n9]
  simp
end
end Go.Proofs.Ytfkjnaaplhcheaa

