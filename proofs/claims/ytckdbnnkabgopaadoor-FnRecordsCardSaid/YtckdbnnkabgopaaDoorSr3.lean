/-
  Rows of records compared: impl.SameRecords (slices.EqualFunc with its function), spec.SameRecords.
-/
import Derived.Test.YtckdbnnkabgopaaDoorSr2
import Derived.Deep.QuietTactic
import Derived.Deep.RegionHeld3
namespace Go.Proofs.YtckdbnnkabgopaaDoor
open Go Go.RowKit Go.Joins

theorem quiet_add {P : Program} {f : FuncId} {args : Array Value} {w : World} {a n : Nat} {v : Value}
    (h : Calls P f args (w.drewN (a + n)) (Quiet v (w.drewN (a + n)))) : Calls P f args (w.drewN (a + n)) fun e w'' => e = .returned v ∧ ∃ m, w'' = w.drewN (a + m) :=
  h.mono fun _ _ ⟨he, m, hm⟩ => ⟨he, n + m, by rw [hm, World.drewN_drewN, Nat.add_assoc]⟩
theorem quiet_one {P : Program} {f : FuncId} {args : Array Value} {w : World} {n : Nat} {v : Value}
    (h : Calls P f args (w.drewN n) (Quiet v (w.drewN n))) : Calls P f args (w.drewN n) fun e w'' => e = .returned v ∧ ∃ m, w'' = w.drewN m :=
  h.mono fun _ _ ⟨he, m, hm⟩ => ⟨he, n + m, by rw [hm, World.drewN_drewN]⟩
theorem str_ne {s t : ByteArray} (h : s ≠ t) : (s.toList == t.toList) = false := by
  rw [Lib.toList_data, Lib.toList_data]
  exact beq_eq_false_iff_ne.2 fun e => h (WideShapes.bytes_inj (by rw [e]))
theorem str_ne' {s t : ByteArray} (h : s ≠ t) : (s.toList != t.toList) = true := by unfold bne; rw [str_ne h]; rfl
def rcEq (x y : Rc) : Bool := decide (x.nm = y.nm) && sdB x.k x.a x.b y.k y.a y.b && sameI x.ds y.ds
def sameR (xs ys : List Rc) : Bool := decide (xs.length = ys.length) && (xs.zip ys).all fun p => rcEq p.1 p.2
def uptoR (xs ys : List Rc) (k : Nat) : Prop := ∀ j (_ : j < k) (h1 : j < xs.length) (h2 : j < ys.length), rcEq xs[j] ys[j] = true
theorem sameR_len {xs ys : List Rc} (h : xs.length ≠ ys.length) : sameR xs ys = false := by
  unfold sameR
  rw [decide_eq_false h, Bool.false_and]
theorem sameR_no {xs ys : List Rc} {k : Nat} (h1 : k < xs.length) (h2 : k < ys.length) (h : rcEq xs[k] ys[k] = false) : sameR xs ys = false := by
  cases hs : sameR xs ys with
  | false => rfl
  | true =>
    unfold sameR at hs
    rw [Bool.and_eq_true] at hs
    have hz : k < (xs.zip ys).length := by rw [List.length_zip]; omega
    have := List.all_eq_true.1 hs.2 _ (List.getElem_mem hz)
    rw [List.getElem_zip] at this
    rw [h] at this
    cases this
theorem sameR_yes {xs ys : List Rc} (hl : xs.length = ys.length) (h : uptoR xs ys xs.length) : sameR xs ys = true := by
  unfold sameR
  rw [decide_eq_true hl, Bool.true_and, List.all_eq_true]
  intro p hp
  obtain ⟨k, hk, rfl⟩ := List.mem_iff_getElem.1 hp
  rw [List.getElem_zip]
  rw [List.length_zip] at hk
  exact h k (by omega) (by omega) (by omega)
theorem uptoR_succ {xs ys : List Rc} {k : Nat} (h1 : k < xs.length) (h2 : k < ys.length) (h : uptoR xs ys k) (he : rcEq xs[k] ys[k] = true) : uptoR xs ys (k + 1) := fun j hj hx hy => by
  by_cases e : j = k
  · subst e; exact he
  · exact h j (by omega) hx hy
set_option maxRecDepth 100000 in
set_option maxHeartbeats 3200000 in
theorem SameRecords1_any (nm : ByteArray) (k a b : Int) (ds : List Int) (nm2 : ByteArray) (k2 a2 b2 : Int) (ds2 : List Int) (A B : Option Addr) (c d : Nat) (w : World) (hx : ds.length ≤ 9223372036854775807) (hy : ds2.length ≤ 9223372036854775807) (hA : Rd w w.heap.size A (il ds)) (hB : Rd w w.heap.size B (il ds2)) :
    Calls Tryd.prog 25 #[rcV nm k a b A ds.length c, rcV nm2 k2 a2 b2 B ds2.length d] w (fun e w' => e = .returned (.bool (decide (nm = nm2) && sdB k a b k2 a2 b2 && sameI ds ds2)) ∧ Below w.heap.size w w') := by
  have hse := seed_eql k a b k2 a2 b2
  have HO := Lib.hid fun w hA hB => Equal_any A B ds ds2 c d w hx hy hA hB
  unfold Quiet at HO
  unfold rcV
  have HA := Lib.hid hA
  have HB := Lib.hid hB
  clear hA hB
  generalize sdB k a b k2 a2 b2 = s1 at *
  generalize sameI ds ds2 = s2 at *
  by_cases hn : nm = nm2
  · subst hn
    rw [decide_eq_true rfl]
    cases s1 <;> cases s2
    all_goals
      go_enter Tryd.func25, Tryd.ntmps25
      go_wp2_with (go_at_call 26; refine (HO.out _ (HA.out.at_ (below_al (below_al (Below.refl _ _) _) _)) (HB.out.at_ (below_al (below_al (Below.refl _ _) _) _))).mono ?_; rintro e w1 ⟨rfl, m, rfl⟩)
      go_ret
      exact ⟨rfl, by first | exact below_al (below_al (Below.refl _ _) _) _ | exact below_drewN (below_al (below_al (Below.refl _ _) _) _) _⟩
  · rw [decide_eq_false hn]
    have he : (nm.toList == nm2.toList) = false := str_ne hn
    cases s1 <;> cases s2
    all_goals
      go_enter Tryd.func25, Tryd.ntmps25
      go_wp2_with fail
      go_ret
      exact ⟨rfl, below_al (below_al (Below.refl _ _) _) _⟩
end Go.Proofs.YtckdbnnkabgopaaDoor

