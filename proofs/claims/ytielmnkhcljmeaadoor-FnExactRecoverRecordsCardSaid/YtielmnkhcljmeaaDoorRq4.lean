/-
  Rows of records: the laws' helpers (size, copy, compare); an argument opened.
-/
import Derived.Test.YtielmnkhcljmeaaDoorRq3
import Derived.Test.YtielmnkhcljmeaaDoorTr
import Derived.Laws.MakeOwn
import Derived.Deep.RegionHeld3
namespace Go.Proofs.YtielmnkhcljmeaaDoor
open Go Go.RowKit Go.ChangeShapes Go.WideShapes Go.ChangeAt Go.Joins

theorem recLess_yes {left : Int} {s : ByteArray} {n : Nat} (h0 : 0 ≤ left) (h : ¬ recLess left s n < 0) : 0 ≤ recLess left s n ∧ recLess left s n ≤ left ∧ (s.size : Int) ≤ left ∧ (n : Int) ≤ left := by
  unfold recLess lessL at *
  by_cases h1 : left - (s.size : Int) < 0
  · rw [if_pos h1, if_pos (by decide)] at h
    omega
  · rw [if_neg h1, if_neg h1] at h ⊢
    split at h
    · omega
    · rename_i h2
      rw [if_neg h2]
      omega
def SzOut (xs : List Rc) (w : World) (e : Ending) (w' : World) : Prop := ∃ r : Int, e = .returned (.int .i64 r) ∧ (r < 0 ∨ (xs.length ≤ 1048576 ∧ ∀ i (h : i < xs.length), xs[i].nm.size ≤ 1048576 ∧ xs[i].ds.length ≤ 1048576)) ∧ Below w.heap.size w w'
def upto (xs : List Rc) (i : Nat) : Prop := ∀ j (_ : j < i) (h : j < xs.length), xs[j].nm.size ≤ 1048576 ∧ xs[j].ds.length ≤ 1048576
set_option maxRecDepth 100000 in
set_option maxHeartbeats 3200000 in
theorem szRecordS_any (A : Option Addr) (xs : List Rc) (c : Nat) (w : World) (hx : xs.length ≤ 9223372036854775807) (hk : ∀ i (h : i < xs.length), xs[i].ok) (hr : RRow w w.heap.size A xs) :
    Calls Tryd.prog 15 #[.slice A xs.length c, .int .i64 1048576] w (SzOut xs w) := by
  have HR := Lib.hid hr
  have HSZ : Hid (∀ i (h : i < xs.length) A' c' (left : Int) W, 0 ≤ left → left ≤ 1048576 → Calls Tryd.prog 8 #[rcV xs[i].nm xs[i].k xs[i].a xs[i].b A' xs[i].ds.length c', .int .i64 left] W (fun e w' => e = .returned (.int .i64 (recLess left xs[i].nm xs[i].ds.length)) ∧ Below W.heap.size W w')) := Lib.hid fun i h A' c' left W h0 h1 => szRecord_any _ _ _ _ A' _ c' left W (hk i h).1 (hk i h).2.2.2 h0 h1
  have HUP : Hid (∀ i (h : i < xs.length), upto xs i → xs[i].nm.size ≤ 1048576 ∧ xs[i].ds.length ≤ 1048576 → upto xs (i + 1)) := Lib.hid fun i h hu hb j hj hjx => by
    by_cases e : j = i
    · subst e; exact hb
    · exact hu j (by omega) hjx
  have HEND : Hid (upto xs xs.length → ∀ i (h : i < xs.length), xs[i].nm.size ≤ 1048576 ∧ xs[i].ds.length ≤ 1048576) := Lib.hid fun hu i h => hu i h h
  unfold SzOut
  unfold rcV at HSZ
  clear hr hk
  by_cases hbig : (1048576 : Int) - (xs.length : Int) < 0
  · go_enter Tryd.func15, Tryd.ntmps15
    go_wp2_with fail
    go_ret
    exact ⟨-1, rfl, .inl (by decide), Below.refl _ _⟩
  · have hl : xs.length ≤ 1048576 := by omega
    go_enter Tryd.func15, Tryd.ntmps15
    go_wp2_with fail
    go_loopw [1, 5] (fun lv iv wr => ∃ (i : Nat) (left : Int), i ≤ xs.length ∧ iv = .int .i64 i ∧ lv = .int .i64 left ∧ 0 ≤ left ∧ left ≤ 1048576 ∧ upto xs i ∧ Below w.heap.size w wr) (fun _ iv _ => xs.length - (intOf iv).toNat)
    case atStart => exact ⟨0, _, Nat.zero_le _, rfl, rfl, by omega, by omega, (fun j hj => by omega), Below.refl _ _⟩
    case round =>
      obtain ⟨i, left, hi, rfl, rfl, l0, l1, hu, hbw⟩ := hrel
      rename World => wr
      have HB := Lib.hid hbw
      have HU := Lib.hid hu
      clear hbw hu hbig
      by_cases hlt : i < xs.length
      · obtain ⟨p, off, rfl, hp, hrow⟩ := HR.out (by omega)
        obtain ⟨A', c', ho, hd⟩ := hrow i hlt
        have hoo := ho.keep HB.out
        have HSZi := Lib.hid (HSZ.out i hlt A' c' left wr l0 l1)
        have HUPi := Lib.hid (HUP.out i hlt HU.out)
        have HY := Lib.hid fun (h : ¬ recLess left xs[i].nm xs[i].ds.length < 0) => recLess_yes (s := xs[i].nm) (n := xs[i].ds.length) l0 h
        clear hrow ho hd HSZ HUP hp
        generalize hr : recLess left xs[i].nm xs[i].ds.length = r at *
        clear hr
        generalize xs[i] = rr at *
        obtain ⟨nm, k, a, b, ds⟩ := rr
        dsimp only at *
        obtain ⟨c0, c1, c2, c3, c4⟩ := hoo
        by_cases hneg : r < 0
        · go_wp2_with (go_at_call 8; refine HSZi.out.mono ?_; rintro e w1 ⟨rfl, hb1⟩; have B1 := Lib.hid (below_next HB.out hb1); clear hb1)
          go_ret
          exact ⟨-1, rfl, .inl (by decide), B1.out⟩
        · obtain ⟨y0, y1, y2, y3⟩ := HY.out hneg
          have HX := Lib.hid (HUPi.out ⟨by omega, by omega⟩)
          clear y2 y3
          go_wp2_with (go_at_call 8; refine HSZi.out.mono ?_; rintro e w1 ⟨rfl, hb1⟩; have B1 := Lib.hid (below_next HB.out hb1); clear hb1)
          go_roundw
          case rel => exact ⟨i + 1, r, by omega, by go_num, rfl, y0, by omega, HX.out, B1.out⟩
          case measure => simp [intOf]; omega
      · obtain rfl : i = xs.length := by omega
        have HX := Lib.hid (HEND.out HU.out)
        go_wp2_with fail
        go_ret
        exact ⟨left, rfl, .inr ⟨hl, HX.out⟩, HB.out⟩
theorem eqRecordS_yes (A B : Option Addr) (xs : List Rc) (c d : Nat) (w : World) (hx : xs.length ≤ 9223372036854775807) (hk : ∀ i (h : i < xs.length), xs[i].ok) (hA : RRow w w.heap.size A xs) (hB : RRow w w.heap.size B xs) :
    Calls Tryd.prog 19 #[.slice A xs.length c, .slice B xs.length d] w (fun e w' => e = .returned (.bool true) ∧ Below w.heap.size w w') := by
  have HA := Lib.hid hA
  have HB := Lib.hid hB
  have HE : Hid (∀ i (h : i < xs.length) A' B' c' d' W, Rd W W.heap.size A' (il xs[i].ds) → Rd W W.heap.size B' (il xs[i].ds) → Calls Tryd.prog 12 #[rcV xs[i].nm xs[i].k xs[i].a xs[i].b A' xs[i].ds.length c', rcV xs[i].nm xs[i].k xs[i].a xs[i].b B' xs[i].ds.length d'] W (fun e w' => e = .returned (.bool true) ∧ Below W.heap.size W w')) := Lib.hid fun i h A' B' c' d' W h1 h2 => eqRecord_yes _ _ _ _ A' B' _ c' d' W (hk i h).2.2.2 h1 h2
  unfold rcV at HE
  clear hA hB hk
  go_enter Tryd.func19, Tryd.ntmps19
  go_wp2_with fail
  go_loopw [5] (fun iv wr => ∃ i : Nat, i ≤ xs.length ∧ iv = .int .i64 i ∧ Below w.heap.size w wr) (fun iv _ => xs.length - (intOf iv).toNat)
  case atStart => exact ⟨0, Nat.zero_le _, rfl, Below.refl _ _⟩
  case round =>
    obtain ⟨i, hi, rfl, hbw⟩ := hrel
    rename World => wr
    have HBW := Lib.hid hbw
    clear hbw
    by_cases hlt : i < xs.length
    · obtain ⟨p, off, rfl, hp, hrow⟩ := HA.out (by omega)
      obtain ⟨A', c', ho, hd⟩ := hrow i hlt
      obtain ⟨q, off2, rfl, hq, hrow2⟩ := HB.out (by omega)
      obtain ⟨B', d', ho2, hd2⟩ := hrow2 i hlt
      have HO1 := Lib.hid (ho.keep HBW.out)
      have HO2 := Lib.hid (ho2.keep HBW.out)
      have HEi := Lib.hid (HE.out i hlt A' B' c' d' wr.drew (hd.at_ (below_dr HBW.out)) (hd2.at_ (below_dr HBW.out)))
      clear hrow ho hd hrow2 ho2 hd2 HE hp hq
      generalize xs[i] = rr at *
      obtain ⟨nm, k, a, b, ds⟩ := rr
      dsimp only at *
      obtain ⟨c0, c1, c2, c3, c4⟩ := HO1.out
      obtain ⟨e0, e1, e2, e3, e4⟩ := HO2.out
      have hi1 : (i : Int) < (xs.length : Int) := by omega
      have HM : Hid (∀ W, Below wr.heap.size wr W → W.cell? ⟨p, off + i * 5, none⟩ = some (.string nm) ∧ W.cell? ⟨p, off + i * 5 + 1, none⟩ = some (.int .i64 k) ∧ W.cell? ⟨p, off + i * 5 + 2, none⟩ = some (.int .u64 a) ∧ W.cell? ⟨p, off + i * 5 + 3, none⟩ = some (.int .u64 b) ∧ W.cell? ⟨p, off + i * 5 + 4, none⟩ = some (.slice A' ds.length c') ∧ W.cell? ⟨q, off2 + i * 5, none⟩ = some (.string nm) ∧ W.cell? ⟨q, off2 + i * 5 + 1, none⟩ = some (.int .i64 k) ∧ W.cell? ⟨q, off2 + i * 5 + 2, none⟩ = some (.int .u64 a) ∧ W.cell? ⟨q, off2 + i * 5 + 3, none⟩ = some (.int .u64 b) ∧ W.cell? ⟨q, off2 + i * 5 + 4, none⟩ = some (.slice B' ds.length d')) := Lib.hid fun W hW => by
        obtain ⟨a0, a1, a2, a3, a4⟩ := HO1.out.keep hW
        obtain ⟨b0, b1, b2, b3, b4⟩ := HO2.out.keep hW
        exact ⟨a0, a1, a2, a3, a4, b0, b1, b2, b3, b4⟩
      go_wp2_with fail
      go_region_held3 (fun W => W.cell? ⟨p, off + i * 5, none⟩ = some (.string nm) ∧ W.cell? ⟨p, off + i * 5 + 1, none⟩ = some (.int .i64 k) ∧ W.cell? ⟨p, off + i * 5 + 2, none⟩ = some (.int .u64 a) ∧ W.cell? ⟨p, off + i * 5 + 3, none⟩ = some (.int .u64 b) ∧ W.cell? ⟨p, off + i * 5 + 4, none⟩ = some (.slice A' ds.length c') ∧ W.cell? ⟨q, off2 + i * 5, none⟩ = some (.string nm) ∧ W.cell? ⟨q, off2 + i * 5 + 1, none⟩ = some (.int .i64 k) ∧ W.cell? ⟨q, off2 + i * 5 + 2, none⟩ = some (.int .u64 a) ∧ W.cell? ⟨q, off2 + i * 5 + 3, none⟩ = some (.int .u64 b) ∧ W.cell? ⟨q, off2 + i * 5 + 4, none⟩ = some (.slice B' ds.length d'))
        (first | exact HM.out _ (below_dr (Below.refl _ _)) | exact HM.out _ bk9)
        (first
          | (go_at_call 12; refine HEi.out.mono ?_; rintro e w9 ⟨rfl, hb9⟩; have bk9 : Below wr.heap.size wr w9 := below_next (below_dr (Below.refl _ _)) hb9; clear hb9))
      have B9 := Lib.hid (below_next HBW.out bk9)
      clear bk9
      go_wp2_with fail
      go_roundw
      case rel => exact ⟨i + 1, by omega, by go_num, B9.out⟩
      case measure => simp [intOf]; omega
    · obtain rfl : i = xs.length := by omega
      go_wp2_with fail
      go_ret
      exact ⟨rfl, HBW.out⟩
end Go.Proofs.YtielmnkhcljmeaaDoor
