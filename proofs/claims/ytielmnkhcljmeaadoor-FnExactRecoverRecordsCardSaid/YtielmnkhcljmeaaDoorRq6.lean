/-
  Rows of records: toRecordS; an argument opened.
-/
import Derived.Test.YtielmnkhcljmeaaDoorRq5
namespace Go.Proofs.YtielmnkhcljmeaaDoor
open Go Go.RowKit Go.ChangeShapes Go.WideShapes Go.ChangeAt Go.Joins

def ToOut (xs : List Rc) (w : World) (e : Ending) (w' : World) : Prop := ∃ g, e = .returned (.slice (some ⟨g, 0, none⟩) xs.length xs.length) ∧ RRow w' w'.heap.size (some ⟨g, 0, none⟩) xs ∧ Below w.heap.size w w'
set_option maxRecDepth 100000 in
set_option maxHeartbeats 3200000 in
theorem toRecordS_any (A : Option Addr) (xs : List Rc) (c : Nat) (w : World) (hx : xs.length ≤ 1048576) (hb : ∀ i (h : i < xs.length), xs[i].nm.size ≤ 1048576 ∧ xs[i].ds.length ≤ 1048576) (hr : RRow w w.heap.size A xs) :
    Calls Tryd.prog 17 #[.slice A xs.length c] w (ToOut xs w) := by
  have HR := Lib.hid hr
  have hmk := make_recs xs.length hx
  have HT : Hid (∀ i (h : i < xs.length) A' c' W, Rd W W.heap.size A' (il xs[i].ds) → Calls Tryd.prog 10 #[rcV xs[i].nm xs[i].k xs[i].a xs[i].b A' xs[i].ds.length c'] W (fun e w' => ∃ A2, e = .returned (rcV xs[i].nm xs[i].k xs[i].a xs[i].b A2 xs[i].ds.length xs[i].ds.length) ∧ w'.ownsRow W.heap.size 2 1 (.slice A2 xs[i].ds.length xs[i].ds.length) xs[i].ds.length (il xs[i].ds) ∧ Below W.heap.size W w')) := Lib.hid fun i h A' c' W hd => toRecord_any _ _ _ _ A' _ c' W (hb i h).2 hd
  have HST := Lib.hid (TR.start w xs.length xs)
  unfold ToOut
  unfold rcV at HT
  clear hr hb
  go_enter Tryd.func17, Tryd.ntmps17
  go_wp2_with fail
  go_loopw [4] (fun iv wr => ∃ i : Nat, i ≤ xs.length ∧ iv = .int .i64 i ∧ TR w w.heap.size xs.length i xs wr) (fun iv _ => xs.length - (intOf iv).toNat)
  case atStart => exact ⟨0, Nat.zero_le _, rfl, HST.out⟩
  case round =>
    obtain ⟨i, hi, rfl, htr⟩ := hrel
    rename World => wr
    have HTR := Lib.hid htr
    clear htr hmk HST
    by_cases hlt : i < xs.length
    · have HBW := Lib.hid HTR.out.1
      obtain ⟨p, off, rfl, hp, hrow⟩ := HR.out (by omega)
      obtain ⟨A', c', ho, hd⟩ := hrow i hlt
      have hoo := ho.keep HBW.out
      have HTi := Lib.hid (HT.out i hlt A' c' wr (hd.at_ HBW.out))
      have HG := Lib.hid HTR.out.2.2.1
      have HPUT : Hid (∀ A2 W, TR w w.heap.size xs.length i xs W → W.ownsRow (w.heap.size + 1) 2 1 (.slice A2 xs[i].ds.length xs[i].ds.length) xs[i].ds.length (il xs[i].ds) → TR w w.heap.size xs.length (i + 1) xs (put5 W w.heap.size (i * 5) (.string xs[i].nm) (.int .i64 xs[i].k) (.int .u64 xs[i].a) (.int .u64 xs[i].b) (.slice A2 xs[i].ds.length xs[i].ds.length))) := Lib.hid fun A2 W h1 h2 => h1.put hlt hlt h2
      clear hrow ho hd HT hp
      generalize xs[i] = rr at *
      obtain ⟨nm, k, a, b, ds⟩ := rr
      dsimp only at *
      obtain ⟨c0, c1, c2, c3, c4⟩ := hoo
      go_wp2_with fail
      refine HTi.out.mono ?_
      rintro e w1 ⟨A2, rfl, ho1, hb1⟩
      have TR1 := Lib.hid (HTR.out.keep hb1)
      have HX := Lib.hid (HPUT.out A2 w1 TR1.out (own_base ho1 (by have := HG.out; omega)))
      obtain ⟨⟨e0, d0⟩, f0⟩ := TR1.out.2.2.2.1 (i * 5) (by omega)
      obtain ⟨⟨e1, d1⟩, f1⟩ := TR1.out.2.2.2.1 (i * 5 + 1) (by omega)
      obtain ⟨⟨e2, d2⟩, f2⟩ := TR1.out.2.2.2.1 (i * 5 + 2) (by omega)
      obtain ⟨⟨e3, d3⟩, f3⟩ := TR1.out.2.2.2.1 (i * 5 + 3) (by omega)
      obtain ⟨⟨e4, d4⟩, f4⟩ := TR1.out.2.2.2.1 (i * 5 + 4) (by omega)
      unfold put5 at HX
      clear ho1 hb1 c0 c1 c2 c3 c4 HPUT
      go_wp2_with fail
      go_roundw
      case rel => exact ⟨i + 1, by omega, by go_num, HX.out⟩
      case measure => simp [intOf]; omega
    · obtain rfl : i = xs.length := by omega
      go_wp2_with fail
      go_ret
      exact ⟨_, rfl, HTR.out.row, HTR.out.1⟩
set_option maxRecDepth 100000 in
theorem open_cells {H : Type} {enc : TypeId × Value → H} {W : World} {n : Nat} {cs : List Value} {y : DataW H × List MemPlace} (hf : DataW.trod enc Tryd.prog W 0 (fun _ => true) true n 27 cs = some y) :
    ∃ (r : Rc) (A : Option Addr) (c : Nat), cs = [.string r.nm, .int .i64 r.k, .int .u64 r.a, .int .u64 r.b, .slice A r.ds.length c] ∧ r.ok ∧ Rd W W.heap.size A (il r.ds) := by
  obtain ⟨ys, n, _, _, hsz, hlen, hg⟩ := DataW.trod_struct Tryd.underlying27 hf
  rw [show Tryd.prog.cellsOf 27 = 5 by kernel_rfl] at hsz
  match cs, hsz with
  | [c0, c1, c2, c3, c4], _ =>
    have h0 : DataW.trod enc Tryd.prog W 0 (fun _ => true) true n 9 ((([c0, c1, c2, c3, c4] : List Value).drop 0).take (Tryd.prog.cellsOf 9)) = ys[0]? := hg 0 _ rfl
    have h1 : DataW.trod enc Tryd.prog W 0 (fun _ => true) true n 24 ((([c0, c1, c2, c3, c4] : List Value).drop 1).take (Tryd.prog.cellsOf 24)) = ys[1]? := hg 1 _ rfl
    have h2 : DataW.trod enc Tryd.prog W 0 (fun _ => true) true n 25 ((([c0, c1, c2, c3, c4] : List Value).drop 4).take (Tryd.prog.cellsOf 25)) = ys[2]? := hg 2 _ rfl
    rw [show Tryd.prog.cellsOf 9 = 1 by kernel_rfl] at h0
    rw [show Tryd.prog.cellsOf 24 = 3 by kernel_rfl] at h1
    rw [show Tryd.prog.cellsOf 25 = 1 by kernel_rfl] at h2
    match ys, hlen with
    | [y0, y1, y2], _ =>
      have e0 : DataW.trod enc Tryd.prog W 0 (fun _ => true) true n 9 [c0] = some y0 := h0
      have e1 : DataW.trod enc Tryd.prog W 0 (fun _ => true) true n 24 [c1, c2, c3] = some y1 := h1
      have e2 : DataW.trod enc Tryd.prog W 0 (fun _ => true) true n 25 [c4] = some y2 := h2
      obtain ⟨s, es, _, hs⟩ := DataW.trod_string Tryd.underlying9 e0
      obtain rfl : c0 = .string s := by simpa using es
      obtain ⟨zs, m, _, _, _, hzl, hz⟩ := DataW.trod_struct Tryd.underlying24 e1
      have g0 : DataW.trod enc Tryd.prog W 0 (fun _ => true) true m 2 ((([c1, c2, c3] : List Value).drop 0).take (Tryd.prog.cellsOf 2)) = zs[0]? := hz 0 _ rfl
      have g1 : DataW.trod enc Tryd.prog W 0 (fun _ => true) true m 22 ((([c1, c2, c3] : List Value).drop 1).take (Tryd.prog.cellsOf 22)) = zs[1]? := hz 1 _ rfl
      have g2 : DataW.trod enc Tryd.prog W 0 (fun _ => true) true m 22 ((([c1, c2, c3] : List Value).drop 2).take (Tryd.prog.cellsOf 22)) = zs[2]? := hz 2 _ rfl
      rw [show Tryd.prog.cellsOf 2 = 1 by kernel_rfl] at g0
      rw [show Tryd.prog.cellsOf 22 = 1 by kernel_rfl] at g1 g2
      match zs, hzl with
      | [z0, z1, z2], _ =>
        have k0 : DataW.trod enc Tryd.prog W 0 (fun _ => true) true m 2 [c1] = some z0 := g0
        have k1 : DataW.trod enc Tryd.prog W 0 (fun _ => true) true m 22 [c2] = some z1 := g1
        have k2 : DataW.trod enc Tryd.prog W 0 (fun _ => true) true m 22 [c3] = some z2 := g2
        obtain ⟨k, ek, _, hk⟩ := DataW.trod_int Tryd.underlying2 k0
        obtain ⟨a, ea, _, ha⟩ := DataW.trod_int Tryd.underlying22 k1
        obtain ⟨b, eb, _, hb⟩ := DataW.trod_int Tryd.underlying22 k2
        obtain rfl : c1 = .int .i64 k := by simpa using ek
        obtain rfl : c2 = .int .u64 a := by simpa using ea
        obtain rfl : c3 = .int .u64 b := by simpa using eb
        obtain ⟨A, xs, c, rfl, hc, hm, hr, hok⟩ := open_row (Value.int .i64) (fun n => (Lit.int .i64 n).wf = true) Tryd.underlying25 (show Tryd.prog.cellsOf 2 = 1 by kernel_rfl)
          (fun n cs y hy => by obtain ⟨z, hz, _, hw⟩ := DataW.trod_int Tryd.underlying2 hy; exact ⟨z, hz, hw⟩) e2
        exact ⟨⟨s, k, a, b, xs⟩, A, c, rfl, ⟨(show s.size ≤ 9223372036854775807 by unfold maxLen at hs; omega), u64_bd ha, u64_bd hb, (show xs.length ≤ 9223372036854775807 by unfold maxLen at hm; omega)⟩, hr⟩
theorem open_recs {H : Type} {enc : TypeId × Value → H} {W : World} {v : Value} {d : DataW H} {ps : List MemPlace} (h : DataW.Trod enc Tryd.prog W 0 (fun _ => true) true 38 v d ps)
    (hv : ∃ a len cap, v = .slice a len cap) : ∃ (A : Option Addr) (xs : List Rc) (c : Nat), v = .slice A xs.length c ∧ xs.length ≤ 9223372036854775807 ∧ (∀ i (h : i < xs.length), xs[i].ok) ∧ RRow W W.heap.size A xs := by
  obtain ⟨fuel, hf0⟩ := h
  obtain ⟨a0, len0, cap0, rfl⟩ := hv
  have hf : DataW.trod enc Tryd.prog W 0 (fun _ => true) true fuel 38 [.slice a0 len0 cap0] = some (d, ps) := by simpa [Value.cells] using hf0
  rcases Deep.open_slice Tryd.underlying38 hf with ⟨hc, _⟩ | ⟨a, len, cap, m, n, D, Pl, hcs, _, hl, hm, hmm, _, hi⟩
  · have hc' : (Value.slice a0 len0 cap0) = .slice none 0 0 := by simpa using hc
    rw [hc']
    exact ⟨none, [], 0, rfl, Nat.zero_le _, (fun i h => absurd h (by simp)), (fun h => absurd h (by simp))⟩
  · have hcs' : (Value.slice a0 len0 cap0) = .slice (some a) len cap := by simpa using hcs
    rw [hcs']
    rw [if_pos rfl] at hmm
    subst hmm
    have h5 : Tryd.prog.cellsOf 27 = 5 := by kernel_rfl
    have each : ∀ i, i < len → ∃ (r : Rc) (A' : Option Addr) (c' : Nat), r.ok ∧ Rd W W.heap.size A' (il r.ds) ∧ W.cell? (a.add (i * 5)) = some (.string r.nm) ∧ W.cell? (a.add (i * 5 + 1)) = some (.int .i64 r.k) ∧ W.cell? (a.add (i * 5 + 2)) = some (.int .u64 r.a) ∧ W.cell? (a.add (i * 5 + 3)) = some (.int .u64 r.b) ∧ W.cell? (a.add (i * 5 + 4)) = some (.slice A' r.ds.length c') := fun i hil => by
      obtain ⟨cs', hc', ht'⟩ := hi i (by omega)
      obtain ⟨r, A', c', rfl, hok, hrd⟩ := open_cells ht'
      obtain ⟨_, _, hat⟩ := World.cells?_some hc'
      rw [h5] at hat
      have g0 := hat 0 (by omega)
      have g1 := hat 1 (by omega)
      have g2 := hat 2 (by omega)
      have g3 := hat 3 (by omega)
      have g4 := hat 4 (by omega)
      rw [Deep.add_add] at g0 g1 g2 g3 g4
      rw [Nat.add_zero] at g0
      exact ⟨r, A', c', hok, hrd, g0.trans rfl, g1.trans rfl, g2.trans rfl, g3.trans rfl, g4.trans rfl⟩
    have pick : ∀ k, k ≤ len → ∃ xs : List Rc, xs.length = k ∧ ∀ i (hx : i < xs.length), xs[i].ok ∧ ∃ A' c', Rd W W.heap.size A' (il xs[i].ds) ∧ W.cell? (a.add (i * 5)) = some (.string xs[i].nm) ∧ W.cell? (a.add (i * 5 + 1)) = some (.int .i64 xs[i].k) ∧ W.cell? (a.add (i * 5 + 2)) = some (.int .u64 xs[i].a) ∧ W.cell? (a.add (i * 5 + 3)) = some (.int .u64 xs[i].b) ∧ W.cell? (a.add (i * 5 + 4)) = some (.slice A' xs[i].ds.length c') := by
      intro k
      induction k with
      | zero => exact fun _ => ⟨[], rfl, fun i hx => absurd hx (by simp)⟩
      | succ k ih =>
        intro hk
        obtain ⟨xs, hx1, hx2⟩ := ih (by omega)
        obtain ⟨r, A', c', hok, hrest⟩ := each k (by omega)
        refine ⟨xs ++ [r], by simp [hx1], fun i hx => ?_⟩
        rcases Nat.lt_or_ge i xs.length with h1 | h1
        · rw [List.getElem_append_left h1]
          exact hx2 i h1
        · have hik : i = k := by simp at hx; omega
          subst hik
          have e : (xs ++ [r])[i] = r := by
            rw [List.getElem_append_right h1]
            simp
          rw [e]
          exact ⟨hok, A', c', hrest⟩
    obtain ⟨xs, hx1, hx2⟩ := pick len (Nat.le_refl _)
    refine ⟨some a, xs, m, by rw [hx1], by unfold maxLen at hm; omega, fun i h => (hx2 i h).1, fun h0 => ?_⟩
    obtain ⟨_, A0, c0, _, hc0, _⟩ := hx2 0 h0
    have hsp : (a.add (0 * 5)).spot = none := World.cell?_spot hc0
    obtain ⟨blk, off, spot⟩ := a
    have hspot : spot = none := by simpa [Addr.add] using hsp
    subst hspot
    have hadd : ∀ k, (⟨blk, off, none⟩ : Addr).add k = ⟨blk, off + k, none⟩ := fun k => by unfold Addr.add; split <;> simp_all
    refine ⟨blk, off, rfl, ?_, fun i hi => ?_⟩
    · have := lt_of_cell hc0
      rw [hadd] at this
      exact this
    · obtain ⟨_, A', c', hrd, b0, b1, b2, b3, b4⟩ := hx2 i hi
      rw [hadd] at b0 b1 b2 b3 b4
      exact ⟨A', c', ⟨b0, by rw [Nat.add_assoc]; exact b1, by rw [Nat.add_assoc]; exact b2, by rw [Nat.add_assoc]; exact b3, by rw [Nat.add_assoc]; exact b4⟩, hrd⟩
end Go.Proofs.YtielmnkhcljmeaaDoor
