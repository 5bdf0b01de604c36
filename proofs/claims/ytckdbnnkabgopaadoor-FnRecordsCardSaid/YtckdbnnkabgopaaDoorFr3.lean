/-
  FnRecords: the walk of the law.
-/
import Derived.Test.YtckdbnnkabgopaaDoorFr2
import Derived.Deep.RegionHeld3
namespace Go.Proofs.YtckdbnnkabgopaaDoor
open Go Go.RowKit Go.Joins

/-- where the records end -/
def ends (X : List Rc) (i : Nat) : Nat := (stL (X.take i)).length
def endsC (X : List Rc) (i : Nat) : List Value := (List.range (i + 1)).map fun j => Value.int .i64 (ends X j : Nat)
theorem endsC_len (X : List Rc) (i : Nat) : (endsC X i).length = i + 1 := by simp [endsC]
theorem endsC_succ (X : List Rc) (i : Nat) : endsC X (i + 1) = endsC X i ++ [.int .i64 (ends X (i + 1) : Nat)] := by
  unfold endsC
  rw [List.range_succ, List.map_append]
  rfl
theorem endsC_get (X : List Rc) (i j : Nat) (h : j ≤ i) : (endsC X i)[j]? = some (.int .i64 (ends X j : Nat)) := by
  unfold endsC
  rw [List.getElem?_map, List.getElem?_range (by omega)]
  rfl
theorem ends_succ (X : List Rc) (i : Nat) (h : i < X.length) : ends X (i + 1) = ends X i + X[i].bytes.length := by
  unfold ends
  rw [stL_succ h, List.length_append]
theorem ends_le (X : List Rc) (hX : ∀ r ∈ X, r.fine) (i : Nat) : ends X i ≤ 1000 * i := by
  induction i with
  | zero => simp [ends, stL]
  | succ i ih =>
    by_cases h : i < X.length
    · rw [ends_succ X i h]
      have := bytes_le (hX _ (List.getElem_mem h))
      omega
    · have e : ends X (i + 1) = ends X i := by
        unfold ends
        rw [List.take_of_length_le (by omega), List.take_of_length_le (by omega)]
      omega
theorem own_cap {w : World} {base : Nat} {e : TypeId} {size n c : Nat} {A : Option Addr} {xs : List Value} (h : w.ownsRow base e size (.slice A n c) n xs) : n ≤ c := by
  rcases h.2 with ⟨hv, h0⟩ | ⟨g, cap, cur, hv, _, _, hn, _⟩
  · injection hv with _ h1 h2
    omega
  · injection hv with _ h1 h2
    omega
theorem rcvs_ok : ∀ (n : Nat) (l : List UInt8), l.length ≤ 1048576 → ∀ r ∈ rcvs n l, r.ok
  | 0, _, _, r, h => absurd h (by simp [rcvs])
  | n + 1, l, hl, r, h => by
    unfold rcvs at h
    split at h
    · rename_i hf
      rw [List.mem_cons] at h
      rcases h with rfl | h
      · unfold frR
        rw [if_pos hf]
        have h1 := long_facts (fr_long hf).1
        refine ⟨?_, aL_range l, bL_range l, ?_⟩
        · have := nmS_size (l := l) (by omega)
          show (nmS l).size ≤ _
          omega
        · show (dsL l (manyL l)).length ≤ _
          rw [dsL_len]
          have := manyL_lt l
          omega
      · exact rcvs_ok n _ (by rw [List.length_drop]; omega) r h
    · exact absurd h (by simp)
theorem alloc_thawed (w : World) (cs : Array Value) (e : TypeId) (a b o : Nat) (h : o < a) : (w.alloc (.cells cs e (a, b))).drew.frozen? ⟨w.heap.size, o, none⟩ = false := by
  show (w.alloc (.cells cs e (a, b))).frozen? _ = false
  unfold World.frozen?
  rw [heap_alloc_new]
  simp
  omega
theorem bytesRow_size {s : ByteArray} {c : Nat} (h : s.size ≤ c) : (bytesRow s c).size = c := by
  have hs : s.data.size = s.size := rfl
  unfold bytesRow
  simp
  try omega
/-- bytes of a list lie in block g -/
def BL (l : List UInt8) (g : Nat) (W : World) : Prop := g < W.heap.size ∧ ∀ i (h : i < l.length), W.cell? ⟨g, i, none⟩ = some (.int .u8 (l[i].toNat : Nat))
theorem BL.keep {l : List UInt8} {g : Nat} {W W' : World} (h : BL l g W) (hb : Below W.heap.size W W') : BL l g W' := ⟨Nat.lt_of_lt_of_le h.1 hb.size, fun i hi => keepC hb (h.2 i hi)⟩
theorem BL.set {s : ByteArray} {l : List UInt8} {g cut : Nat} {W : World} (h : BY s g W) (hl : s.data.toList = l) (hc : cut < l.length) (z : UInt8) : BL (l.set cut z) g (W.setCell ⟨g, cut, none⟩ (.int .u8 (z.toNat : Nat))).drew := by
  have hsl : s.size = l.length := by rw [Lib.size_eq, hl]
  refine ⟨by show g < (W.setCell _ _).heap.size; simp only [World.setCell, Array.size_modify]; exact h.1, fun i hi => ?_⟩
  rw [List.length_set] at hi
  show (W.setCell ⟨g, cut, none⟩ (.int .u8 (z.toNat : Nat))).cell? _ = _
  by_cases e : i = cut
  · subst e
    rw [World.cell?_setCell_same _ _ _ (h.2 i (by omega)), List.getElem_set_self]
  · rw [World.cell?_setCell_other _ _ _ _ (by simp; try omega), h.2 i (by omega), List.getElem_set_ne (fun e2 => e e2.symm)]
    subst hl
    try rfl
theorem BL.conv {l : List UInt8} {g : Nat} {W : World} (h : BL l g W) (o c : Nat) (ho : o ≤ l.length) : (convert 22 9 (.slice (some ⟨g, 0, none⟩) o c)).run Tryd.prog W = .ok (.string ⟨(l.take o).toArray⟩) W := by
  have hlen : (l.take o).length = o := by rw [List.length_take]; omega
  have h1 := run_convert_bytes_back (P := Tryd.prog) W 22 9 5 ⟨g, 0, none⟩ c (l.take o) Tryd.underlying22 Tryd.underlying5 Tryd.underlying9 (fun j hj => by
    have hadd : (⟨g, 0, none⟩ : Addr).add j = ⟨g, j, none⟩ := by unfold Addr.add; split <;> simp_all
    rw [hadd, h.2 j (by omega), List.getElem_take])
  rw [hlen] at h1
  exact h1
theorem info_int : (Tryd.prog.info? 3).map (fun i => (i.zero, i.size, i.bytes)) = some (some (.int .i64 0), 1, 8) := by kernel_rfl
set_option maxRecDepth 100000 in
set_option maxHeartbeats 1600000 in
theorem walk (A0 : Option Addr) (n0 c0 : Nat) (A1 : Option Addr) (n1 c1 : Nat) (w : World) (hr0 : BR w A0 n0) (hx0 : n0 ≤ 9223372036854775807) (hr1 : BR w A1 n1) (hx1 : n1 ≤ 9223372036854775807) :
    Calls Tryd.prog 3 #[.slice A0 n0 c0, .slice A1 n1 c1] w (fun e w' => e = .returned (.bool true) ∧ Below w.heap.size w w') := by
  have HL := Lib.hid (b10Long_any A0 A1 n0 n1 c0 c1 w hx0 hx1)
  unfold SameOut at HL
  by_cases hbig : 1048576 < n0 ∨ 1048576 < n1
  · have e : (decide (1048576 < n0) || decide (1048576 < n1)) = true := by
      rcases hbig with h | h <;> simp [h]
    rw [e] at HL
    go_enter Tryd.func3, Tryd.ntmps3
    go_wp2_with fail
    refine HL.out.mono ?_
    rintro e w1 ⟨rfl, rfl⟩
    go_wp2_with fail
    go_ret
    exact ⟨rfl, Below.refl _ _⟩
  have e : (decide (1048576 < n0) || decide (1048576 < n1)) = false := by
    simp; omega
  rw [e] at HL
  have HB := Lib.hid (B10Records_any A0 n0 c0 w (by omega) hr0)
  have HR1 := Lib.hid hr1
  unfold B10Out at HB
  obtain ⟨j0, hj0, hy0, hy1, hy2⟩ := info_parts info_int
  clear e hr0 hr1
  go_enter Tryd.func3, Tryd.ntmps3
  go_wp2_with fail
  refine HL.out.mono ?_
  rintro e w1 ⟨rfl, rfl⟩
  go_wp2_with fail
  refine HB.out.mono ?_
  rintro e w1 ⟨A, c, ts, rfl, h4, hfine, hor, hb1⟩
  have hX : ∀ r ∈ ts.map (·.1), r.fine := fun r hr => by
    obtain ⟨t, ht, rfl⟩ := List.mem_map.1 hr
    exact (hfine t ht).1
  obtain ⟨X, hXe⟩ : ∃ X, X = ts.map (·.1) := ⟨_, rfl⟩
  have hlen : ts.length = X.length := by rw [hXe, List.length_map]
  have hrow := hor.row
  have hcap := own_cap hor.1
  rw [hlen] at hcap
  rw [← hXe] at hX hrow
  rw [hlen] at h4 ⊢
  have HX := Lib.hid hX
  have ROW := Lib.hid hrow
  have B1 := Lib.hid hb1
  have R1 := Lib.hid (HR1.out.at_ hb1)
  have HE := Lib.hid (ends_le X hX)
  clear hX hrow hb1 hXe hlen hor hfine ts HB HL HR1
  go_wp2_with fail
  generalize hW2 : World.alloc w1 _ = w2
  have o2 : w2.ownsRow w1.heap.size 3 1 (.slice (some ⟨w1.heap.size, 0, none⟩) 1 1) 1 (endsC X 0) := by rw [← hW2]; exact World.ownsRow_lit w1 #[.int .i64 0] 1 (Nat.le_refl _) (by unfold maxLen; omega) rfl
  have b2 : Below w1.heap.size w1 w2 := by rw [← hW2]; exact below_al (Below.refl _ _) _
  have O2 := Lib.hid o2
  have B2 := Lib.hid b2
  clear o2 b2 hW2
  go_loopw [6, 7, 8, 9, 10, 11, 36] (fun ev _ _ _ _ _ iv wr => ∃ (i : Nat) (E : Option Addr) (ce : Nat), iv = .int .i64 i ∧ i ≤ X.length ∧ ev = .slice E (i + 1) ce ∧ wr.ownsRow w1.heap.size 3 1 (.slice E (i + 1) ce) (i + 1) (endsC X i) ∧ Below w1.heap.size w1 wr) (fun _ _ _ _ _ _ iv _ => X.length - (intOf iv).toNat)
  case atStart => exact ⟨0, _, 1, rfl, Nat.zero_le _, rfl, O2.out, B2.out⟩
  case round =>
    obtain ⟨i, E, ce, rfl, hi, rfl, hor, hbw⟩ := hrel
    rename World => wr
    have HOR := Lib.hid hor
    have HBW := Lib.hid hbw
    clear hor hbw O2 B2
    by_cases hlt : i < X.length
    · have hlt' : (i : Int) < (X.length : Int) := by omega
      have hfn := HX.out _ (List.getElem_mem hlt)
      obtain ⟨p, off, rfl, hpc⟩ := ROW.out.piece hlt
      have HPC := Lib.hid (hpc.at_ HBW.out)
      have hes := ends_succ X i hlt
      have hel := HE.out i
      have hby := bytes_le hfn
      have HST : Hid (∀ A' c' W, Rd W W.heap.size A' (il X[i].ds) → Calls Tryd.prog 6 #[.agg #[.string X[i].nm, .int .i64 X[i].k, .int .u64 X[i].a, .int .u64 X[i].b, .slice A' X[i].ds.length c']] W (fun e w' => e = .returned (.tuple #[.string ⟨X[i].bytes.toArray⟩, .bool true]) ∧ Below W.heap.size W w')) := Lib.hid fun A' c' W h => by
        obtain ⟨⟨q1, q2, q3, q4⟩, _⟩ := fine_ok hfn
        have := StoreRecord_any X[i].nm X[i].k X[i].a X[i].b A' X[i].ds c' W q1 q2 q3 q4 h
        unfold StoreOut at this
        rw [fine_store hfn, show recB X[i].nm.data.toList X[i].k X[i].a X[i].b X[i].ds = true from hfn.1] at this
        exact this
      have HLD : Hid (∀ W, Calls Tryd.prog 7 #[.string ⟨X[i].bytes.toArray⟩] W (fun e w' => ∃ A c, e = .returned (.tuple #[.agg #[.string X[i].nm, .int .i64 X[i].k, .int .u64 X[i].a, .int .u64 X[i].b, .slice A X[i].ds.length c], .bool true]) ∧ Rd w' w'.heap.size A (il X[i].ds) ∧ Below W.heap.size W w')) := Lib.hid fun W => by
        have := LoadRecord_any ⟨X[i].bytes.toArray⟩ W (by rw [Lib.size_eq]; show X[i].bytes.length ≤ _; omega)
        unfold LdOut at this
        obtain ⟨f1, f2⟩ := fine_load hfn
        rw [show (⟨X[i].bytes.toArray⟩ : ByteArray).data.toList = X[i].bytes from rfl, f1, f2] at this
        refine this.mono ?_
        rintro e w' ⟨A, c, he, ho, hb⟩
        exact ⟨A, c, he, Rd.of_own ho, hb⟩
      have HVD : Hid (∀ A' c' W, Rd W W.heap.size A' (il X[i].ds) → Calls Tryd.prog 8 #[.agg #[.string X[i].nm, .int .i64 X[i].k, .int .u64 X[i].a, .int .u64 X[i].b, .slice A' X[i].ds.length c']] W (BoolOut true W)) := Lib.hid fun A' c' W h => by
        obtain ⟨⟨q1, q2, q3, q4⟩, _⟩ := fine_ok hfn
        have := ValidRecord_any X[i].nm X[i].k X[i].a X[i].b A' X[i].ds c' W q1 q3 q4 h
        rw [show recB X[i].nm.data.toList X[i].k X[i].a X[i].b X[i].ds = true from hfn.1] at this
        exact this
      have HSM : Hid (∀ B1 B2 d1 d2 W, RRow W W.heap.size B1 [X[i]] → RRow W W.heap.size B2 [X[i]] → Calls Tryd.prog 9 #[.slice B1 1 d1, .slice B2 1 d2] W (BoolOut true W)) := Lib.hid fun B1 B2 d1 d2 W h1 h2 => by
        have hk : ∀ j (h : j < [X[i]].length), [X[i]][j].ok := fun j hj => by
          obtain rfl : j = 0 := by simpa using hj
          exact (fine_ok hfn).1
        have := SameRecords_any B1 B2 [X[i]] [X[i]] d1 d2 W (by simp) (by simp) hk hk h1 h2
        rw [sameR_refl] at this
        exact this
      have HES := Lib.hid hes
      have hbl : (⟨X[i].bytes.toArray⟩ : ByteArray).size = X[i].bytes.length := by rw [Lib.size_eq]
      obtain ⟨A', c', hrc, hrd⟩ := (show ∃ A' c', RcO wr p (off + i * 5) X[i].nm X[i].k X[i].a X[i].b A' X[i].ds.length c' ∧ Rd wr wr.heap.size A' (il X[i].ds) by
        obtain ⟨p2, off2, e2, _, h2⟩ := HPC.out (by simp)
        injection e2 with e2
        injection e2 with e2 e3 _
        subst e2 e3
        exact h2 0 (by simp))
      have HRC := Lib.hid hrc
      have HRD := Lib.hid hrd
      clear hpc hfn hes hrd HX
      generalize X[i] = r at *
      generalize hS : (⟨r.bytes.toArray⟩ : ByteArray) = S at *
      generalize r.bytes.length = bl at *
      obtain ⟨nm, k, a, b, ds⟩ := r
      dsimp only at *
      clear hS
      obtain ⟨x0, x1, x2, x3, x4⟩ := hrc
      go_wp2_with fail
      refine (HST.out _ _ _ HRD.out).mono ?_
      rintro e w3 ⟨rfl, hb3⟩
      have B3 := Lib.hid hb3
      clear hb3
      go_wp2_with fail
      refine (HLD.out _).mono ?_
      rintro e w4 ⟨A4, c4, rfl, hd4, hb4⟩
      have B4 := Lib.hid (below_next B3.out hb4)
      have D4 := Lib.hid hd4
      clear hb4 hd4 B3 HST HLD x0 x1 x2 x3 x4
      go_upto_region 10 with fail
      generalize hW5 : World.alloc w4 _ = w5
      have y5 : RcO w5 w4.heap.size 0 nm k a b A4 ds.length c4 := by rw [← hW5]; simp [RcO, go_sem]
      have b5 : Below w4.heap.size w4 w5 := by rw [← hW5]; exact below_al (Below.refl _ _) _
      have D5 := Lib.hid (D4.out.at_ b5)
      have B5 := Lib.hid (below_next B4.out b5)
      have Y5 := Lib.hid y5
      have RC5 := Lib.hid (HRC.out.keep B5.out)
      have RD5 := Lib.hid (HRD.out.at_ B5.out)
      have PC5 := Lib.hid (HPC.out.at_ B5.out)
      have hz5 : w4.heap.size < w5.heap.size := by rw [← hW5]; simp
      clear hW5 b5 D4 B4
      have HC : Hid (∀ W, Below w5.heap.size w5 W → RcO W p (off + i * 5) nm k a b A' ds.length c' ∧ RcO W w4.heap.size 0 nm k a b A4 ds.length c4) := Lib.hid fun W hW => ⟨RC5.out.keep hW, Y5.out.keep hW⟩
      have HC' : Hid (∀ W, Below w5.heap.size w5 W → W.cell? ⟨p, off + i * 5, none⟩ = some (.string nm) ∧ W.cell? ⟨p, off + i * 5 + 1, none⟩ = some (.int .i64 k) ∧ W.cell? ⟨p, off + i * 5 + 2, none⟩ = some (.int .u64 a) ∧ W.cell? ⟨p, off + i * 5 + 3, none⟩ = some (.int .u64 b) ∧ W.cell? ⟨p, off + i * 5 + 4, none⟩ = some (.slice A' ds.length c') ∧ W.cell? ⟨w4.heap.size, 0, none⟩ = some (.string nm) ∧ W.cell? ⟨w4.heap.size, 1, none⟩ = some (.int .i64 k) ∧ W.cell? ⟨w4.heap.size, 2, none⟩ = some (.int .u64 a) ∧ W.cell? ⟨w4.heap.size, 3, none⟩ = some (.int .u64 b) ∧ W.cell? ⟨w4.heap.size, 4, none⟩ = some (.slice A4 ds.length c4)) := Lib.hid fun W hW => by
        obtain ⟨⟨q0, q1, q2, q3, q4⟩, r0, r1, r2, r3, r4⟩ := HC.out W hW
        exact ⟨q0, q1, q2, q3, q4, r0, r1, r2, r3, r4⟩
      unfold BoolOut at HVD HSM
      clear y5 HC
      have RDD : Hid (Rd w5.drew w5.drew.heap.size A' (il ds)) := Lib.hid RD5.out
      have HNEW : Hid (∀ W, Below w5.heap.size w5 W → RRow (W.alloc (.cells #[.string nm, .int .i64 k, .int .u64 a, .int .u64 b, .slice A4 ds.length c4] 34)) (W.alloc (.cells #[.string nm, .int .i64 k, .int .u64 a, .int .u64 b, .slice A4 ds.length c4] 34)).heap.size (some ⟨W.heap.size, 0, none⟩) [⟨nm, k, a, b, ds⟩]) := Lib.hid fun W hW => RRow.new (r := ⟨nm, k, a, b, ds⟩) (A := A4) (c := c4) (by simp) (by simp [RcO, go_sem]) ((D5.out.at_ hW).at_ (below_al (Below.refl _ _) _))
      have HPCW : Hid (∀ W, Below w5.heap.size w5 W → RRow (W.alloc (.cells #[.string nm, .int .i64 k, .int .u64 a, .int .u64 b, .slice A4 ds.length c4] 34)) (W.alloc (.cells #[.string nm, .int .i64 k, .int .u64 a, .int .u64 b, .slice A4 ds.length c4] 34)).heap.size (some ⟨p, off + i * 5, none⟩) [⟨nm, k, a, b, ds⟩]) := Lib.hid fun W hW => (PC5.out.at_ hW).at_ (below_al (Below.refl _ _) _)
      have hp5 : p < w5.heap.size := lt_of_cell (a := ⟨p, off + i * 5, none⟩) (HC'.out w5 (Below.refl _ _)).1
      obtain ⟨x0, x1, x2, x3, x4, y0, y1, y2, y3, y4⟩ := HC'.out w5 (Below.refl _ _)
      have g0 : (0 : Int) ≤ (i : Int) := by omega
      have hci : ¬ c = i := by omega
      have g1 : (i : Int) ≤ (i : Int) + 1 := by omega
      have g2 : (i : Int) + 1 ≤ (c : Int) := by omega
      have g3 : IntKind.i64.wrap ((i : Int) + 1) = (i : Int) + 1 := wi (by omega)
      go_region_held3 (fun W => W.cell? ⟨p, off + i * 5, none⟩ = some (.string nm) ∧ W.cell? ⟨p, off + i * 5 + 1, none⟩ = some (.int .i64 k) ∧ W.cell? ⟨p, off + i * 5 + 2, none⟩ = some (.int .u64 a) ∧ W.cell? ⟨p, off + i * 5 + 3, none⟩ = some (.int .u64 b) ∧ W.cell? ⟨p, off + i * 5 + 4, none⟩ = some (.slice A' ds.length c') ∧ W.cell? ⟨w4.heap.size, 0, none⟩ = some (.string nm) ∧ W.cell? ⟨w4.heap.size, 1, none⟩ = some (.int .i64 k) ∧ W.cell? ⟨w4.heap.size, 2, none⟩ = some (.int .u64 a) ∧ W.cell? ⟨w4.heap.size, 3, none⟩ = some (.int .u64 b) ∧ W.cell? ⟨w4.heap.size, 4, none⟩ = some (.slice A4 ds.length c4))
        (exact HC'.out _ (by repeat (first | assumption | exact Below.refl _ _ | refine below_al ?_ _ | refine below_dr ?_)))
        (first
          | (go_at_call 9; refine (HSM.out _ _ _ _ _ (HNEW.out _ bk9) (HPCW.out _ bk9)).mono ?_; rintro e w10 ⟨rfl, hb10⟩; have bk10 : Below w5.heap.size w5 w10 := below_next (below_al bk9 _) hb10; clear hb10)
          | (go_at_call 8; refine (HVD.out _ _ _ RDD.out).mono ?_; rintro e w9 ⟨rfl, hb9⟩; have bk9 : Below w5.heap.size w5 w9 := below_next (below_dr (Below.refl _ _)) hb9; clear hb9))
      have BK := Lib.hid (below_next B5.out bk10)
      obtain ⟨gE, capE, hEv, hEb, hEl⟩ := HOR.out.form (by omega)
      injection hEv with hE1 hE2 hE3
      subst hE1
      have OWN := Lib.hid (own_below HOR.out BK.out)
      have hcE : w10.cell? ⟨gE, i, none⟩ = some (.int .i64 (ends X i : Nat)) := by
        have h1 := OWN.out.cells (g := gE) rfl i _ (endsC_get X i i (Nat.le_refl _))
        have hadd : (⟨gE, 0, none⟩ : Addr).add i = ⟨gE, i, none⟩ := by unfold Addr.add; split <;> simp_all
        rw [hadd] at h1
        exact h1
      have HSC : Hid (endsC X (i + 1) = endsC X i ++ [.int .i64 ((ends X i : Int) + (bl : Int))]) := Lib.hid (by rw [endsC_succ, HES.out]; congr 2)
      have HBN := Lib.hid (HBW.out.trans (BK.out.mono HBW.out.size))
      have ZZ : Hid (w1.heap.size ≤ w10.heap.size) := Lib.hid HBN.out.size
      clear hE2 hE3 hEb hEl bk9 bk10 x0 x1 x2 x3 x4 y0 y1 y2 y3 y4 HSM HVD HNEW HPCW RDD HC' D5 B5 Y5 RC5 RD5 PC5 HRC HRD HPC BK
      generalize ends X i = en at *
      go_wp2_with (refine wpList_append_lies _ rfl _ _ _ rfl w1.heap.size 3 j0 _ 1 8 Tryd.underlying26 hj0 hy0 hy1 hy2 rfl (by omega) (.slice (some ⟨gE, 0, none⟩) (i + 1) ce) (i + 1) (endsC X i) (by rfl) (OWN.out.alloc _) ⟨w10.heap.size, 0, none⟩ 1 1 [.int .i64 ((en : Int) + (bl : Int))] (by rfl) (by rfl) (World.news_of_block (cs := #[.int .i64 ((en : Int) + (bl : Int))]) (t := 3) (fr := (0, 0)) (heap_alloc_new w10 _)) (by simp [Value.oneCell']) (by omega) (by unfold maxLen; omega) (by omega) (by have := ZZ.out; simp; omega) (w10.heap.size + 1) (by simp) ?_; intro g9 cap9 w11 hown9 hgrow hat hlt9; have HO9 := Lib.hid hown9; have HB9 := Lib.hid ((HBN.out.alloc ZZ.out (.cells #[.int .i64 ((en : Int) + (bl : Int))] 3)).grown hgrow (by have := ZZ.out; simp; omega) (fun q hq => (OWN.out.lt q hq).1)); clear hown9 hgrow hat)
      go_roundw
      case rel => exact ⟨i + 1, some ⟨g9, 0, none⟩, cap9, by go_num, by omega, rfl, by rw [HSC.out]; exact HO9.out, HB9.out⟩
      case measure => simp [intOf]; omega
    · obtain rfl : i = X.length := by omega
      obtain ⟨gE, capE, hEv, hEb, hEl⟩ := HOR.out.form (by omega)
      injection hEv with hE1 hE2 hE3
      subst hE1
      have ROWr := Lib.hid (ROW.out.at_ HBW.out)
      have HEC : Hid (∀ W, Below wr.heap.size wr W → ∀ j, j ≤ X.length → W.cell? ⟨gE, j, none⟩ = some (.int .i64 (ends X j : Nat))) := Lib.hid fun W hW j hj => by
        have h1 := (own_below HOR.out hW).cells (g := gE) rfl j _ (endsC_get X X.length j hj)
        have hadd : (⟨gE, 0, none⟩ : Addr).add j = ⟨gE, j, none⟩ := by unfold Addr.add; split <;> simp_all
        rw [hadd] at h1
        exact h1
      have R1r := Lib.hid (R1.out.at_ HBW.out)
      have BWW := Lib.hid (below_next B1.out HBW.out)
      have hL : (stL X).length = ends X X.length := by unfold ends; rw [List.take_length]
      have hLe := HE.out X.length
      have hok : ∀ j (h : j < X.length), X[j].ok := fun j h => (fine_ok (HX.out _ (List.getElem_mem h))).1
      have hstB : stB X = true := by
        unfold stB
        rw [decide_eq_true (by omega : X.length ≤ 8), Bool.true_and, List.all_eq_true]
        exact fun r hr => (HX.out r hr).1
      have hstS : stS X = ⟨(stL X).toArray⟩ := by unfold stS; rw [if_pos hstB]
      have HSTS : Hid (∀ W, RRow W W.heap.size A X → Calls Tryd.prog 10 #[.slice A X.length c] W (fun e w' => e = .returned (.tuple #[.string ⟨(stL X).toArray⟩, .bool true]) ∧ Below W.heap.size W w')) := Lib.hid fun W h => by
        have := StoreRecords_any A X c W (by omega) hok h
        unfold StsOut at this
        rw [hstB, hstS] at this
        exact this
      have hrc := rcvs_st X (8 - X.length) [] HX.out
      rw [show X.length + (8 - X.length) = 8 by omega, List.append_nil, (rcvs_no (8 - X.length) (by rfl)).1, (rcvs_no (8 - X.length) (by rfl)).2, List.append_nil, Nat.add_zero] at hrc
      have HRV1 : Hid (∀ W, Calls Tryd.prog 11 #[.string ⟨(stL X).toArray⟩] W (fun e w' => ∃ A c, e = .returned (.tuple #[.slice A X.length c, .int .i64 (ends X X.length : Nat), .bool true]) ∧ RRow w' w'.heap.size A X ∧ Below W.heap.size W w')) := Lib.hid fun W => by
        refine (RecoverRecords_any ⟨(stL X).toArray⟩ W (by rw [Lib.size_eq]; show (stL X).length ≤ _; omega)).mono ?_
        rintro e w' ⟨A2, c2, ts, hm, he, ho, hb⟩
        rw [show (⟨(stL X).toArray⟩ : ByteArray).data.toList = stL X from rfl, hrc.1] at hm
        rw [show (⟨(stL X).toArray⟩ : ByteArray).data.toList = stL X from rfl, hrc.2, hL] at he
        have hr := ho.row
        rw [hm] at hr
        rw [show ts.length = X.length by rw [← hm, List.length_map]] at he
        exact ⟨A2, c2, he, hr, hb⟩
      have HSAME : Hid (∀ B1 B2 d1 d2 W, RRow W W.heap.size B1 X → RRow W W.heap.size B2 X → Calls Tryd.prog 9 #[.slice B1 X.length d1, .slice B2 X.length d2] W (BoolOut true W)) := Lib.hid fun B1 B2 d1 d2 W h1 h2 => by
        have := SameRecords_any B1 B2 X X d1 d2 W (by omega) (by omega) hok hok h1 h2
        rw [sameR_refl] at this
        exact this
      have HCUT : Hid (∀ q cut, q < X.length → ends X q ≤ cut → cut < ends X (q + 1) → ∀ W, Calls Tryd.prog 11 #[.string ((⟨(stL X).toArray⟩ : ByteArray).extract 0 cut)] W (fun e w' => ∃ A c, e = .returned (.tuple #[.slice A q c, .int .i64 (ends X q : Nat), .bool true]) ∧ Below W.heap.size W w')) := Lib.hid fun q cut hq h1 h2 W => by
        refine (RecoverRecords_any ((⟨(stL X).toArray⟩ : ByteArray).extract 0 cut) W (by rw [ByteArray.size_extract, Lib.size_eq]; show min cut (stL X).length - 0 ≤ _; omega)).mono ?_
        rintro e w' ⟨A2, c2, ts, hm, he, ho, hb⟩
        have hx : ((⟨(stL X).toArray⟩ : ByteArray).extract 0 cut).data.toList = (stL X).take cut := by
          rw [ext_bytes, Nat.sub_zero]
          rfl
        obtain ⟨k1, k2⟩ := cut_law X HX.out (by omega) q cut hq h1 h2
        rw [hx, k1] at hm
        rw [hx, k2] at he
        rw [show ts.length = q by rw [← List.length_map (f := (·.1)), hm, List.length_take]; omega] at he
        exact ⟨A2, c2, he, hb⟩
      have HBENT : Hid (∀ l' : List UInt8, l'.length ≤ 1048576 → ∀ W, Calls Tryd.prog 11 #[.string ⟨l'.toArray⟩] W (fun e w' => ∃ A c, e = .returned (.tuple #[.slice A (rcvs 8 l').length c, .int .i64 (plc 8 l' : Nat), .bool true]) ∧ RRow w' w'.heap.size A (rcvs 8 l') ∧ Below W.heap.size W w')) := Lib.hid fun l' hl W => by
        refine (RecoverRecords_any ⟨l'.toArray⟩ W (by rw [Lib.size_eq]; exact hl)).mono ?_
        rintro e w' ⟨A2, c2, ts, hm, he, ho, hb⟩
        have hr := ho.row
        rw [hm] at hr
        rw [show (⟨l'.toArray⟩ : ByteArray).data.toList = l' from rfl] at hm he hr
        rw [show ts.length = (rcvs 8 l').length by rw [← hm, List.length_map]] at he
        exact ⟨A2, c2, he, hr, hb⟩
      have HSTB : Hid (∀ l' : List UInt8, l'.length ≤ 1048576 → ∀ A c W, RRow W W.heap.size A (rcvs 8 l') → Calls Tryd.prog 10 #[.slice A (rcvs 8 l').length c] W (fun e w' => e = .returned (.tuple #[.string ⟨(l'.take (plc 8 l')).toArray⟩, .bool true]) ∧ Below W.heap.size W w')) := Lib.hid fun l' hl A c W h => by
        obtain ⟨k1, k2, k3⟩ := rcvs_store 8 l'
        have h8 := rcvs_len 8 l'
        have := StoreRecords_any A (rcvs 8 l') c W (by omega) (fun j hj => rcvs_ok 8 l' hl _ (List.getElem_mem hj)) h
        unfold StsOut at this
        have hB : stB (rcvs 8 l') = true := by
          unfold stB
          rw [decide_eq_true h8, Bool.true_and, List.all_eq_true]
          exact k1
        have hS : stS (rcvs 8 l') = ⟨(l'.take (plc 8 l')).toArray⟩ := by unfold stS; rw [if_pos hB, k2]
        rw [hB, hS] at this
        exact this
      have HBL : Hid (∀ (q cut : Nat) (l' : List UInt8), q ≤ X.length → ends X q ≤ cut → l'.take cut = (stL X).take cut → q ≤ (rcvs 8 l').length) := Lib.hid fun q cut l' hq h1 hl => bent_law X HX.out (by omega) q cut hq h1 l' hl
      have HTS : Hid ((⟨(stL X).toArray⟩ : ByteArray).size = (stL X).length) := Lib.hid (Lib.size_eq _)
      have HMON : Hid (∀ q, q ≤ X.length → ends X q ≤ ends X X.length) := Lib.hid fun q hq => by
        unfold ends
        rw [List.take_length]
        conv => rhs; rw [← List.take_append_drop q X, stL_app, List.length_append]
        omega
      have HPL : Hid (∀ l' : List UInt8, plc 8 l' ≤ l'.length) := Lib.hid fun l' => (rcvs_store 8 l').2.2
      have hE0 : ends X 0 = 0 := rfl
      have HE0 := Lib.hid hE0
      clear hE2 hE3 hEb hEl hok hstB hstS hrc hE0
      generalize hT : (⟨(stL X).toArray⟩ : ByteArray) = T at *
      generalize hEN : (ends X) = en at *
      have hen : ∀ i, ends X i = en i := fun i => by rw [hEN]
      go_wp2_with fail
      refine (HSTS.out _ ROWr.out).mono ?_
      rintro e w3 ⟨rfl, hb3⟩
      have B3 := Lib.hid hb3
      clear hb3 HSTS HE HX
      go_wp2_with fail
      refine (HRV1.out _).mono ?_
      rintro e w4 ⟨A4, c4, rfl, hr4, hb4⟩
      have B4 := Lib.hid (below_next B3.out hb4)
      have R4 := Lib.hid hr4
      have ROW4 := Lib.hid (ROWr.out.at_ B4.out)
      have hlE := HEC.out w4 B4.out X.length (Nat.le_refl _)
      have hts := HTS.out
      rw [hL] at hts
      have HLL := Lib.hid hL
      clear hb4 hr4 B3 HRV1
      unfold BoolOut at HSAME
      by_cases h0 : en X.length = 0
      · rw [h0] at hlE hts ⊢
        go_wp2_with (first
          | (go_at_call 9; refine (HSAME.out _ _ _ _ _ R4.out ROW4.out).mono ?_; rintro e w5 ⟨rfl, hb5⟩; have B5 := Lib.hid (below_next B4.out hb5); clear hb5))
        go_ret
        exact ⟨rfl, below_next BWW.out B5.out⟩
      have h0' : ¬ ((en X.length : Nat) : Int) = 0 := by omega
      have HAT : Hid (∀ (i N : Nat) (W : World), 1 < N ∧ N ≤ 1000 → i ≤ 1000 → BR W A1 n1 → Calls Tryd.prog 12 #[.slice A1 n1 c1, .int .i64 i, .int .i64 N] W (fun e w' => ∃ v : Nat, v < N ∧ e = .returned (.int .i64 v) ∧ W = w')) := Lib.hid fun i N W hN hi h => b10At_any A1 n1 c1 i N W hx1 hN hi h
      go_wp2_with (first
        | (go_at_call 9; refine (HSAME.out _ _ _ _ _ R4.out ROW4.out).mono ?_; rintro e w5 ⟨rfl, hb5⟩; have B5 := Lib.hid (below_next B4.out hb5); clear hb5))
      have R15 := Lib.hid (R1r.out.at_ B5.out)
      clear HSAME ROW4 R4 hlE B4
      refine (HAT.out 0 256 _ (by omega) (by omega) R15.out).mono ?_
      rintro e w6 ⟨v0, hv0, rfl, rfl⟩
      go_wp2_with fail
      refine (HAT.out 1 256 _ (by omega) (by omega) R15.out).mono ?_
      rintro e w6 ⟨v1, hv1, rfl, rfl⟩
      go_wp2_with fail
      have hcc : (256 * (v0 : Int) + (v1 : Int)) % ((en X.length : Nat) : Int) = (((256 * v0 + v1) % en X.length : Nat) : Int) := by
        rw [Int.natCast_emod, Int.natCast_add, Int.natCast_mul]
        rfl
      have hcl : (256 * v0 + v1) % en X.length < en X.length := Nat.mod_lt _ (by omega)
      rw [hcc]
      generalize (256 * v0 + v1) % en X.length = cut at *
      clear hcc hv0 hv1
      go_loop [18] (fun kv => ∃ q : Nat, kv = .int .i64 q ∧ q ≤ X.length ∧ en q ≤ cut) (fun kv => X.length - (intOf kv).toNat)
      case atStart => exact ⟨0, rfl, Nat.zero_le _, by rw [HE0.out]; omega⟩
      case round =>
        obtain ⟨q, rfl, hq, hqc⟩ := hrel
        have hqX : q < X.length := by
          rcases Nat.lt_or_ge q X.length with h | h
          · exact h
          · obtain rfl : q = X.length := by omega
            omega
        have hq' : (q : Int) < (X.length : Int) := by omega
        have hcq := HEC.out w5 B5.out (q + 1) (by omega)
        have hcq0 := HEC.out w5 B5.out q (by omega)
        by_cases hnx : en (q + 1) ≤ cut
        · have HNX := Lib.hid hnx
          have hnx' : ((en (q + 1) : Nat) : Int) ≤ (cut : Int) := by omega
          clear hnx
          go_wp2_with fail
          go_round
          case rel => exact ⟨q + 1, by go_num, by omega, HNX.out⟩
          case measure => simp [intOf]; omega
        · have hnx' : ¬ ((en (q + 1) : Nat) : Int) ≤ (cut : Int) := by omega
          have HCQ := Lib.hid (HCUT.out q cut hqX hqc (by omega))
          have hct : (cut : Int) ≤ (T.size : Int) := by rw [hts]; omega
          go_wp2_with fail
          refine (HCQ.out _).mono ?_
          rintro e w6 ⟨A6, c6, rfl, hb6⟩
          have B6 := Lib.hid (below_next B5.out hb6)
          have hcq6 := HEC.out w6 B6.out q (by omega)
          have kb := fun (W : World) => run_bytes_of_string (P := Tryd.prog) W 9 22 5 T Tryd.underlying9 Tryd.underlying22 Tryd.underlying5
          clear HCQ HCUT hcq hcq0
          go_upto_region 28 with fail
          have hcge := grownCap_ge w6 (en X.length) 0 5
          generalize hcap2 : grownCap _ _ _ _ = cp at *
          generalize hW7 : World.drew _ = w7
          have Y7 : BY T w6.heap.size w7 := by rw [← hW7]; exact BY.new
          have b7 : Below w6.heap.size w6 w7 := by rw [← hW7]; exact below_dr (below_al (Below.refl _ _) _)
          have hbs : cut < (bytesRow T cp).size := by rw [bytesRow_size (by omega)]; omega
          have f7 : w7.frozen? ⟨w6.heap.size, cut, none⟩ = false := by rw [← hW7]; exact alloc_thawed w6 _ _ _ _ _ hbs
          have hcs : cut < T.size := by omega
          have c7 := Y7.2 cut hcs
          have Y7h := Lib.hid Y7
          have b7h := Lib.hid b7
          have B7 := Lib.hid (below_next B6.out b7)
          have R17 : Hid (BR w7.drew A1 n1) := Lib.hid ((R15.out.at_ hb6).at_ (below_dr b7))
          clear hcap2 hW7 b7 kb Y7
          go_region_law (first
            | (go_simp; go_at_call 12; refine (HAT.out 2 255 _ (by omega) (by omega) R17.out).mono ?_; rintro e w9 ⟨v2, hv2, rfl, rfl⟩))
          all_goals
            generalize hx : ((T[cut].toNat : Nat) : Int) + IntKind.u8.wrap _ = x
            rw [show IntKind.u8.wrap x = ((Go.Proofs.YtckdbnnkabgopaaDoor.u8 x).toNat : Int) by rw [u8_nat, IntKind.wrap_u8]]
            generalize Go.Proofs.YtckdbnnkabgopaaDoor.u8 x = z
            have hTd : T.data.toList = stL X := by rw [← hT]
            have hL := HLL.out
            have hc9 : cut < (stL X).length := by rw [hL]; exact hcl
            have Z := BL.set Y7h.out hTd hc9 z
            have hl1 : ((stL X).set cut z).length = en X.length := by rw [List.length_set]; exact hL
            have htk : ((stL X).set cut z).take cut = (stL X).take cut := List.take_set_of_le (Nat.le_refl _)
            have HBL2 := HBL.out q cut _ (by omega) hqc htk
            have HBT2 := Lib.hid fun W => HBENT.out ((stL X).set cut z) (by omega) W
            have HSB2 := Lib.hid fun A c W h => HSTB.out ((stL X).set cut z) (by omega) A c W h
            have HPL2 := HPL.out ((stL X).set cut z)
            rw [hl1] at HPL2
            have B8 : Hid (Below w6.heap.size w6 (w7.setCell ⟨w6.heap.size, cut, none⟩ (.int .u8 (z.toNat : Nat))).drew) := Lib.hid (below_dr (below_set b7h.out _ _ (Nat.le_refl _)))
            clear htk hx
            generalize (stL X).set cut z = l2 at *
            generalize World.drew (World.setCell _ _ _) = w8 at *
            have k1 := Z.conv (en X.length) cp (by omega)
            rw [List.take_of_length_le (by omega)] at k1
            have ZH := Lib.hid Z
            have h8 : (rcvs 8 l2).length ≤ 8 := rcvs_len 8 l2
            generalize plc 8 l2 = o at *
            generalize rcvs 8 l2 = Y at *
            clear Z
            have HY1 := Lib.hid hl1
            unfold BoolOut at *
            go_wp2_with fail
            refine (HBT2.out _).mono ?_
            rintro e w9 ⟨A9, c9, rfl, hr9, hb9⟩
            have B9 := Lib.hid (below_next B8.out hb9)
            have R9 := Lib.hid hr9
            have Z9 := ZH.out.keep hb9
            have Z9h := Lib.hid Z9
            clear hr9 hb9 Z9
            go_wp2_with fail
            refine (HSB2.out _ _ _ R9.out).mono ?_
            rintro e w10 ⟨rfl, hb10⟩
            have B10 := Lib.hid (below_next B9.out hb10)
            have k2 := (Z9h.out.keep hb10).conv o cp (by omega)
            have p0 : (0 : Int) ≤ (o : Int) := by omega
            have p1 : (o : Int) ≤ ((en X.length : Nat) : Int) := by omega
            have p2 : (o : Int) ≤ (cp : Int) := by omega
            have p3 : (q : Int) ≤ (Y.length : Int) := by omega
            go_wp2_with fail
            go_ret
            exact ⟨rfl, below_next (below_next BWW.out B6.out) B10.out⟩
end Go.Proofs.YtckdbnnkabgopaaDoor
