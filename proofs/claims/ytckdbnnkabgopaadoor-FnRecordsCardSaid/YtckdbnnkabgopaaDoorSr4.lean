/-
  Rows of records compared: impl.SameRecords (slices.EqualFunc with its function).
-/
import Derived.Test.YtckdbnnkabgopaaDoorSr3
namespace Go.Proofs.YtckdbnnkabgopaaDoor
open Go Go.RowKit Go.Joins

set_option maxRecDepth 100000 in
set_option maxHeartbeats 6400000 in
theorem EqualFunc_rec (A B : Option Addr) (xs ys : List Rc) (c d : Nat) (w : World) (hx : xs.length ≤ 9223372036854775807) (_hy : ys.length ≤ 9223372036854775807) (hk : ∀ i (h : i < xs.length), xs[i].ok) (hk2 : ∀ i (h : i < ys.length), ys[i].ok) (hA : RRow w w.heap.size A xs) (hB : RRow w w.heap.size B ys) :
    Calls Tryd.prog 24 #[.slice A xs.length c, .slice B ys.length d, .func (.func 25) #[] #[]] w (fun e w' => e = .returned (.bool (sameR xs ys)) ∧ Below w.heap.size w w') := by
  have HNL : Hid (xs.length ≠ ys.length → sameR xs ys = false) := Lib.hid sameR_len
  have HNO : Hid (∀ k (h1 : k < xs.length) (h2 : k < ys.length), rcEq xs[k] ys[k] = false → sameR xs ys = false) := Lib.hid fun k h1 h2 h => sameR_no h1 h2 h
  have HY : Hid (xs.length = ys.length → uptoR xs ys xs.length → sameR xs ys = true) := Lib.hid sameR_yes
  have HT : Hid (∀ k (h1 : k < xs.length) (h2 : k < ys.length), uptoR xs ys k → rcEq xs[k] ys[k] = true → uptoR xs ys (k + 1)) := Lib.hid fun k h1 h2 h he => uptoR_succ h1 h2 h he
  have HO : Hid (∀ k (h1 : k < xs.length) (h2 : k < ys.length) A' B' c' d' W, Rd W W.heap.size A' (il xs[k].ds) → Rd W W.heap.size B' (il ys[k].ds) → Calls Tryd.prog 25 #[rcV xs[k].nm xs[k].k xs[k].a xs[k].b A' xs[k].ds.length c', rcV ys[k].nm ys[k].k ys[k].a ys[k].b B' ys[k].ds.length d'] W (fun e w' => e = .returned (.bool (rcEq xs[k] ys[k])) ∧ Below W.heap.size W w')) := Lib.hid fun k h1 h2 A' B' c' d' W ha hb => SameRecords1_any _ _ _ _ _ _ _ _ _ _ A' B' c' d' W (hk k h1).2.2.2 (hk2 k h2).2.2.2 ha hb
  have HA := Lib.hid hA
  have HB := Lib.hid hB
  unfold rcV at HO
  clear hA hB hk hk2
  generalize sameR xs ys = R at *
  by_cases hl : xs.length = ys.length
  · have HL := Lib.hid hl
    rw [← hl]
    clear hl _hy
    go_enter Tryd.func24, Tryd.ntmps24
    go_wp2_with fail
    go_loopw [7, 8, 9, 17] (fun _ _ _ i wr => ∃ k : Nat, k ≤ xs.length ∧ i = .int .i64 k ∧ uptoR xs ys k ∧ Below w.heap.size w wr) (fun _ _ _ i _ => xs.length - (intOf i).toNat)
    case atStart => exact ⟨0, Nat.zero_le _, rfl, (fun j hj => by omega), Below.refl _ _⟩
    case round =>
      obtain ⟨k, hk, rfl, hall, hbw⟩ := hrel
      rename World => wr
      have HALL := Lib.hid hall
      have HBW := Lib.hid hbw
      clear hall hbw
      by_cases hlt : k < xs.length
      · have hlt' : k < ys.length := by have := HL.out; omega
        obtain ⟨p, off, rfl, hp, hrow⟩ := HA.out (by omega)
        obtain ⟨A', c', ho, hd⟩ := hrow k hlt
        obtain ⟨q, off2, rfl, hq, hrow2⟩ := HB.out (by omega)
        obtain ⟨B', d', ho2, hd2⟩ := hrow2 k hlt'
        have HNOk := Lib.hid (HNO.out k hlt hlt')
        have HTk := Lib.hid (HT.out k hlt hlt' HALL.out)
        have HOk := Lib.hid (HO.out k hlt hlt' A' B' c' d')
        have HD := Lib.hid hd
        have HD2 := Lib.hid hd2
        have lp : p < wr.heap.size := Nat.lt_of_lt_of_le hp HBW.out.size
        have lq : q < wr.heap.size := Nat.lt_of_lt_of_le hq HBW.out.size
        have ho := ho.keep HBW.out
        have ho2 := ho2.keep HBW.out
        clear hrow hrow2 HNO HT HO HALL hd hd2 hp hq
        have hk1 : (k : Int) < (xs.length : Int) := by omega
        generalize rcEq xs[k] ys[k] = E at *
        generalize xs[k] = x at *
        generalize ys[k] = y at *
        obtain ⟨nm, kk, a, b, ds⟩ := x
        obtain ⟨nm2, kk2, a2, b2, ds2⟩ := y
        dsimp only at *
        obtain ⟨c0, c1, c2, c3, c4⟩ := ho
        obtain ⟨e0, e1, e2, e3, e4⟩ := ho2
        go_upto_region 7 with fail
        generalize hW5 : World.alloc (World.alloc wr _) _ = w5
        have b5 : Below wr.heap.size wr w5 := by rw [← hW5]; exact below_al (below_al (Below.refl _ _) _) _
        have K5 : RcAt w5 wr.heap.size nm kk a b A' ds.length c' := by rw [← hW5]; simp [RcAt, go_sem]
        have K6 : RcAt w5 (wr.heap.size + 1) nm2 kk2 a2 b2 B' ds2.length d' := by rw [← hW5]; simp [RcAt, go_sem]
        have B5 := Lib.hid (below_next HBW.out b5)
        clear hW5 b5 c0 c1 c2 c3 c4 e0 e1 e2 e3 e4
        obtain ⟨c0, c1, c2, c3, c4⟩ := K5
        obtain ⟨e0, e1, e2, e3, e4⟩ := K6
        cases E
        · have HF := Lib.hid (HNOk.out rfl)
          go_wp2_with fail
          refine (HOk.out _ (HD.out.at_ B5.out) (HD2.out.at_ B5.out)).mono ?_
          rintro e w6 ⟨rfl, hb6⟩
          have B6 := Lib.hid (below_next B5.out hb6)
          clear hb6
          go_wp2_with fail
          go_ret
          rw [HF.out]
          exact ⟨rfl, B6.out⟩
        · have HF := Lib.hid (HTk.out rfl)
          go_wp2_with fail
          refine (HOk.out _ (HD.out.at_ B5.out) (HD2.out.at_ B5.out)).mono ?_
          rintro e w6 ⟨rfl, hb6⟩
          have B6 := Lib.hid (below_next B5.out hb6)
          clear hb6
          go_wp2_with fail
          go_roundw
          case rel => exact ⟨k + 1, by omega, by go_num, HF.out, B6.out⟩
          case measure => simp [intOf]; omega
      · obtain rfl : k = xs.length := by omega
        have HR := Lib.hid (HY.out HL.out HALL.out)
        go_wp2_with fail
        go_ret
        rw [HR.out]
        exact ⟨rfl, HBW.out⟩
  · have hne : (((xs.length : Nat) : Int) != ((ys.length : Nat) : Int)) = true := by rw [bne_iff_ne]; omega
    have HR := Lib.hid (HNL.out hl)
    clear hl
    go_enter Tryd.func24, Tryd.ntmps24
    go_wp2_with fail
    go_ret
    rw [HR.out]
    exact ⟨rfl, Below.refl _ _⟩
theorem SameRecords_any (A B : Option Addr) (xs ys : List Rc) (c d : Nat) (w : World) (hx : xs.length ≤ 9223372036854775807) (hy : ys.length ≤ 9223372036854775807) (hk : ∀ i (h : i < xs.length), xs[i].ok) (hk2 : ∀ i (h : i < ys.length), ys[i].ok) (hA : RRow w w.heap.size A xs) (hB : RRow w w.heap.size B ys) :
    Calls Tryd.prog 9 #[.slice A xs.length c, .slice B ys.length d] w (fun e w' => e = .returned (.bool (sameR xs ys)) ∧ Below w.heap.size w w') := by
  have HE := Lib.hid (EqualFunc_rec A B xs ys c d w hx hy hk hk2 hA hB)
  clear hk hk2 hA hB
  go_enter Tryd.func9, Tryd.ntmps9
  go_wp2_with (go_at_call 24; refine HE.out.mono ?_; rintro e w1 ⟨rfl, hb1⟩)
  go_ret
  exact ⟨rfl, hb1⟩
end Go.Proofs.YtckdbnnkabgopaaDoor

