/-
  Rows of records compared: impl.SameRecords (slices.EqualFunc with its function), spec.SameRecords.
-/
import Derived.Test.YtielmnkhcljmeaaSr2
import Derived.Deep.QuietTactic
import Derived.Deep.RegionHeld3
namespace Go.Proofs.Ytielmnkhcljmeaa
open Go Go.RowKit Go.Joins

theorem quiet_add {P : Program} {f : FuncId} {args : Array Value} {w : World} {a n : Nat} {v : Value}
    (h : Calls P f args (w.drewN (a + n)) (Quiet v (w.drewN (a + n)))) : Calls P f args (w.drewN (a + n)) fun e w'' => e = .returned v ∧ ∃ m, w'' = w.drewN (a + m) :=
  h.mono fun _ _ ⟨he, m, hm⟩ => ⟨he, n + m, by rw [hm, World.drewN_drewN, Nat.add_assoc]⟩
theorem quiet_one {P : Program} {f : FuncId} {args : Array Value} {w : World} {n : Nat} {v : Value}
    (h : Calls P f args (w.drewN n) (Quiet v (w.drewN n))) : Calls P f args (w.drewN n) fun e w'' => e = .returned v ∧ ∃ m, w'' = w.drewN m :=
  h.mono fun _ _ ⟨he, m, hm⟩ => ⟨he, n + m, by rw [hm, World.drewN_drewN]⟩
theorem str_ne {s t : ByteArray} (h : s ≠ t) : (s.toList == t.toList) = false := by
  rw [Lib.toList_data, Lib.toList_data]
  exact beq_eq_false_iff_ne.2 fun e => h (WideShapes.bytes_inj (by rw [e]))
theorem str_ne' {s t : ByteArray} (h : s ≠ t) : (s.toList != t.toList) = true := by unfold bne; rw [str_ne h]; rfl
def rcEq (x y : Rc) : Bool := decide (x.nm = y.nm) && sdB x.k x.a x.b y.k y.a y.b && sameI x.ds y.ds
def sameR (xs ys : List Rc) : Bool := decide (xs.length = ys.length) && (xs.zip ys).all fun p => rcEq p.1 p.2
def uptoR (xs ys : List Rc) (k : Nat) : Prop := ∀ j (_ : j < k) (h1 : j < xs.length) (h2 : j < ys.length), rcEq xs[j] ys[j] = true
theorem sameR_len {xs ys : List Rc} (h : xs.length ≠ ys.length) : sameR xs ys = false := by
  unfold sameR
  rw [decide_eq_false h, Bool.false_and]
theorem sameR_no {xs ys : List Rc} {k : Nat} (h1 : k < xs.length) (h2 : k < ys.length) (h : rcEq xs[k] ys[k] = false) : sameR xs ys = false := by
  cases hs : sameR xs ys with
  | false => rfl
  | true =>
    unfold sameR at hs
    rw [Bool.and_eq_true] at hs
    have hz : k < (xs.zip ys).length := by rw [List.length_zip]; omega
    have := List.all_eq_true.1 hs.2 _ (List.getElem_mem hz)
    rw [List.getElem_zip] at this
    rw [h] at this
    cases this
theorem sameR_yes {xs ys : List Rc} (hl : xs.length = ys.length) (h : uptoR xs ys xs.length) : sameR xs ys = true := by
  unfold sameR
  rw [decide_eq_true hl, Bool.true_and, List.all_eq_true]
  intro p hp
  obtain ⟨k, hk, rfl⟩ := List.mem_iff_getElem.1 hp
  rw [List.getElem_zip]
  rw [List.length_zip] at hk
  exact h k (by omega) (by omega) (by omega)
theorem uptoR_succ {xs ys : List Rc} {k : Nat} (h1 : k < xs.length) (h2 : k < ys.length) (h : uptoR xs ys k) (he : rcEq xs[k] ys[k] = true) : uptoR xs ys (k + 1) := fun j hj hx hy => by
  by_cases e : j = k
  · subst e; exact he
  · exact h j (by omega) hx hy
set_option maxRecDepth 100000 in
set_option maxHeartbeats 3200000 in
theorem SameRecords1_any (nm : ByteArray) (k a b : Int) (ds : List Int) (nm2 : ByteArray) (k2 a2 b2 : Int) (ds2 : List Int) (A B : Option Addr) (c d : Nat) (w : World) (hx : ds.length ≤ 9223372036854775807) (hy : ds2.length ≤ 9223372036854775807) (hA : Rd w w.heap.size A (il ds)) (hB : Rd w w.heap.size B (il ds2)) :
    Calls Try.prog 13 #[rcV nm k a b A ds.length c, rcV nm2 k2 a2 b2 B ds2.length d] w (fun e w' => e = .returned (.bool (decide (nm = nm2) && sdB k a b k2 a2 b2 && sameI ds ds2)) ∧ Below w.heap.size w w') := by
  have hse := seed_eql k a b k2 a2 b2
  have HO := Lib.hid fun w hA hB => Equal_any A B ds ds2 c d w hx hy hA hB
  unfold Quiet at HO
  unfold rcV
  have HA := Lib.hid hA
  have HB := Lib.hid hB
  clear hA hB
  generalize sdB k a b k2 a2 b2 = s1 at *
  generalize sameI ds ds2 = s2 at *
  by_cases hn : nm = nm2
  · subst hn
    rw [decide_eq_true rfl]
    cases s1 <;> cases s2
    all_goals
      go_enter Try.func13, Try.ntmps13
      go_wp2_with (go_at_call 14; refine (HO.out _ (HA.out.at_ (below_al (below_al (Below.refl _ _) _) _)) (HB.out.at_ (below_al (below_al (Below.refl _ _) _) _))).mono ?_; rintro e w1 ⟨rfl, m, rfl⟩)
      go_ret
      exact ⟨rfl, by first | exact below_al (below_al (Below.refl _ _) _) _ | exact below_drewN (below_al (below_al (Below.refl _ _) _) _) _⟩
  · rw [decide_eq_false hn]
    have he : (nm.toList == nm2.toList) = false := str_ne hn
    cases s1 <;> cases s2
    all_goals
      go_enter Try.func13, Try.ntmps13
      go_wp2_with fail
      go_ret
      exact ⟨rfl, below_al (below_al (Below.refl _ _) _) _⟩
set_option maxRecDepth 100000 in
set_option maxHeartbeats 6400000 in
theorem specSameRecords_any (A B : Option Addr) (xs ys : List Rc) (c d : Nat) (w : World) (hx : xs.length ≤ 9223372036854775807) (_hy : ys.length ≤ 9223372036854775807) (hk : ∀ i (h : i < xs.length), xs[i].ok) (hk2 : ∀ i (h : i < ys.length), ys[i].ok) (hA : RRow w w.heap.size A xs) (hB : RRow w w.heap.size B ys) :
    Calls Try.prog 5 #[.slice A xs.length c, .slice B ys.length d] w (fun e w' => e = .returned (.bool (sameR xs ys)) ∧ Below w.heap.size w w') := by
  have HNL : Hid (xs.length ≠ ys.length → sameR xs ys = false) := Lib.hid sameR_len
  have HNO : Hid (∀ k (h1 : k < xs.length) (h2 : k < ys.length), rcEq xs[k] ys[k] = false → sameR xs ys = false) := Lib.hid fun k h1 h2 h => sameR_no h1 h2 h
  have HY : Hid (xs.length = ys.length → uptoR xs ys xs.length → sameR xs ys = true) := Lib.hid sameR_yes
  have HT : Hid (∀ k (h1 : k < xs.length) (h2 : k < ys.length), uptoR xs ys k → rcEq xs[k] ys[k] = true → uptoR xs ys (k + 1)) := Lib.hid fun k h1 h2 h he => uptoR_succ h1 h2 h he
  have HO : Hid (∀ k (h1 : k < xs.length) (h2 : k < ys.length) A' B' c' d' W, Rd W W.heap.size A' (il xs[k].ds) → Rd W W.heap.size B' (il ys[k].ds) → Calls Try.prog 10 #[.slice A' xs[k].ds.length c', .slice B' ys[k].ds.length d'] W (Quiet (.bool (sameI xs[k].ds ys[k].ds)) W)) := Lib.hid fun k h1 h2 A' B' c' d' W ha hb => l00Same_any A' B' _ _ c' d' W (hk k h1).2.2.2 (hk2 k h2).2.2.2 ha hb
  have HA := Lib.hid hA
  have HB := Lib.hid hB
  clear hA hB hk hk2
  generalize sameR xs ys = R at *
  by_cases hl : xs.length = ys.length
  · have HL := Lib.hid hl
    rw [← hl]
    clear hl _hy
    go_enter Try.func5, Try.ntmps5
    go_wp2_with fail
    go_loopw [5, 13] (fun _ i wr => ∃ k m : Nat, k ≤ xs.length ∧ i = .int .i64 k ∧ uptoR xs ys k ∧ wr = w.drewN m) (fun _ i _ => xs.length - (intOf i).toNat)
    case atStart => exact ⟨0, 0, Nat.zero_le _, rfl, (fun j hj => by omega), rfl⟩
    case round =>
      obtain ⟨k, m, hk, rfl, hall, rfl⟩ := hrel
      have HALL := Lib.hid hall
      clear hall
      by_cases hlt : k < xs.length
      · have hlt' : k < ys.length := by have := HL.out; omega
        obtain ⟨p, off, rfl, hp, hrow⟩ := HA.out (by omega)
        obtain ⟨A', c', ho, hd⟩ := hrow k hlt
        obtain ⟨q, off2, rfl, hq, hrow2⟩ := HB.out (by omega)
        obtain ⟨B', d', ho2, hd2⟩ := hrow2 k hlt'
        have HNOk := Lib.hid (HNO.out k hlt hlt')
        have HTk := Lib.hid (HT.out k hlt hlt' HALL.out)
        have HOk := Lib.hid (HO.out k hlt hlt' A' B' c' d')
        have HD := Lib.hid hd
        have HD2 := Lib.hid hd2
        clear hrow hrow2 HNO HT HO HALL hd hd2 hp hq
        unfold rcEq at HNOk HTk
        have hk1 : (k : Int) < (xs.length : Int) := by omega
        generalize xs[k] = x at *
        generalize ys[k] = y at *
        obtain ⟨nm, kk, a, b, ds⟩ := x
        obtain ⟨nm2, kk2, a2, b2, ds2⟩ := y
        dsimp only at *
        have hse := seed_neq kk a b kk2 a2 b2
        obtain ⟨c0, c1, c2, c3, c4⟩ := ho
        obtain ⟨e0, e1, e2, e3, e4⟩ := ho2
        generalize sdB kk a b kk2 a2 b2 = s1 at *
        generalize sameI ds ds2 = s2 at *
        by_cases hn : nm = nm2
        · subst hn
          rw [decide_eq_true rfl] at HNOk HTk
          cases s1
          · have HF := Lib.hid (HNOk.out rfl)
            go_wp2_with fail
            go_quiet (fail)
            go_wp2_with fail
            go_ret
            rw [HF.out]
            exact ⟨rfl, by repeat (first | exact Below.refl _ _ | refine below_drewN ?_ _)⟩
          · cases s2
            · have HF := Lib.hid (HNOk.out rfl)
              go_wp2_with fail
              go_quiet ((go_at_call 10; first | exact quiet_one (HOk.out _ ((HD.out).drewN _) ((HD2.out).drewN _)) | exact quiet_add (HOk.out _ ((HD.out).drewN _) ((HD2.out).drewN _))))
              go_wp2_with fail
              go_ret
              rw [HF.out]
              exact ⟨rfl, by repeat (first | exact Below.refl _ _ | refine below_drewN ?_ _)⟩
            · have HF := Lib.hid (HTk.out rfl)
              go_wp2_with fail
              go_quiet ((go_at_call 10; first | exact quiet_one (HOk.out _ ((HD.out).drewN _) ((HD2.out).drewN _)) | exact quiet_add (HOk.out _ ((HD.out).drewN _) ((HD2.out).drewN _))))
              go_wp2_with fail
              go_roundw
              case rel => exact ⟨k + 1, _, by omega, by go_num, HF.out, rfl⟩
              case measure => simp [intOf]; omega
        · have he : (nm.toList != nm2.toList) = true := str_ne' hn
          have he2 : (nm.toList == nm2.toList) = false := str_ne hn
          rw [decide_eq_false hn] at HNOk
          have HF := Lib.hid (HNOk.out rfl)
          go_wp2_with fail
          go_quiet (fail)
          go_wp2_with fail
          go_ret
          rw [HF.out]
          exact ⟨rfl, by repeat (first | exact Below.refl _ _ | refine below_drewN ?_ _)⟩
      · obtain rfl : k = xs.length := by omega
        have HR := Lib.hid (HY.out HL.out HALL.out)
        go_wp2_with fail
        go_ret
        rw [HR.out]
        exact ⟨rfl, below_drewN (Below.refl _ _) m⟩
  · have hne : (((xs.length : Nat) : Int) != ((ys.length : Nat) : Int)) = true := by rw [bne_iff_ne]; omega
    have HR := Lib.hid (HNL.out hl)
    clear hl
    go_enter Try.func5, Try.ntmps5
    go_wp2_with fail
    go_ret
    rw [HR.out]
    exact ⟨rfl, Below.refl _ _⟩
end Go.Proofs.Ytielmnkhcljmeaa
