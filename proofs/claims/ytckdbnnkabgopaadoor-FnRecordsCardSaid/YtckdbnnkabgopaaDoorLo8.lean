/-
  impl.firstRecord, impl.LoadRecord: what they return.
-/
import Derived.Test.YtckdbnnkabgopaaDoorLo7
namespace Go.Proofs.YtckdbnnkabgopaaDoor
open Go Go.RowKit

def frB (l : List UInt8) : Bool := decide (longL l ≠ 0) && okL l
def frR (l : List UInt8) : Rc := if frB l then Rc.of l else Rc.zero
def frN (l : List UInt8) : Nat := if frB l then longL l else 0
def FrOut (s : ByteArray) (w : World) (e : Ending) (w' : World) : Prop :=
  ∃ A c, e = .returned (.tuple #[(frR s.data.toList).val A c, .int .i64 (frN s.data.toList : Nat), .bool (frB s.data.toList)]) ∧ w'.ownsRow w.heap.size 2 1 (.slice A (frR s.data.toList).ds.length c) (frR s.data.toList).ds.length (il (frR s.data.toList).ds) ∧ Below w.heap.size w w'
theorem FrOut.none {s : ByteArray} {w w' : World} (h : frB s.data.toList = false) (hb : Below w.heap.size w w') : FrOut s w (.returned (.tuple #[.agg #[.string ⟨#[]⟩, .int .i64 0, .int .u64 0, .int .u64 0, .slice none 0 0], .int .i64 0, .bool false])) w' := by
  have hz : frR s.data.toList = Rc.zero := by unfold frR; rw [h]; rfl
  have hn : frN s.data.toList = 0 := by unfold frN; rw [h]; rfl
  unfold FrOut
  rw [hz, h, hn]
  exact ⟨_, 0, rfl, own_nil _ _, hb⟩
set_option maxRecDepth 100000 in
set_option maxHeartbeats 3200000 in
theorem firstRecord_bad (s : ByteArray) (w : World) (hs : s.size ≤ 1048576) (at_ b4 : Nat) (hb4 : 5 + b4 = at_) (hb : b4 < 256) (hIX : ∀ (h : 4 < s.size), s[4].toNat = b4) (hlt : s.size < at_ + 19) (Q : Ending → World → Prop)
    (hNO : ∀ W', Below w.heap.size w W' → Q (.returned (.tuple #[.agg #[.string ⟨#[]⟩, .int .i64 0, .int .u64 0, .int .u64 0, .slice none 0 0], .int .i64 0, .bool false])) W') :
    Calls Tryd.prog 18 #[.string s] w Q := by
  have HN := Lib.hid hNO
  have kb := fun (W : World) => run_bytes_of_string (P := Tryd.prog) W 9 22 5 s Tryd.underlying9 Tryd.underlying22 Tryd.underlying5
  have HB4 := Lib.hid hb4
  have HLT := Lib.hid hlt
  have HIX := Lib.hid hIX
  clear hNO hb4 hlt hIX
  by_cases h5 : s.size < 5
  · have h5' : (s.size : Int) < 5 := by omega
    go_enter Tryd.func18, Tryd.ntmps18
    go_upto_region 2 with fail
    generalize hcap : grownCap _ _ _ _ = cap at *
    generalize hW1 : World.drew _ = w1
    have b1 : Below w.heap.size w w1 := by rw [← hW1]; exact below_dr (below_al (below_al (Below.refl _ _) _) _)
    have k1 : B5 w1 w.heap.size (.string ⟨#[]⟩) (.int .i64 0) (.int .u64 0) (.int .u64 0) (.slice none 0 0) := by rw [← hW1]; simp [B5, go_sem]
    clear hW1 hcap
    have B1 := Lib.hid b1
    clear b1
    obtain ⟨⟨e0, e1, e2, e3, e4⟩, ef⟩ := k1
    go_wp2_with fail
    refine bodyPost_ret (v := .tuple #[.agg #[.string ⟨#[]⟩, .int .i64 0, .int .u64 0, .int .u64 0, .slice none 0 0], .int .i64 0, .bool false]) (by simp [results, Tryd.results18, go_sem, e0, e1, e2, e3, e4]) rfl (HN.out _ ?_)
    repeat (first | (with_reducible exact B1.out) | (with_reducible refine below_set ?_ _ _ (by simp; try omega)))
  · have h5' : ¬ (s.size : Int) < 5 := by omega
    have s4 : 4 < s.size := by omega
    have x4 : ((s[4]'s4).toNat : Int) = (b4 : Int) := by rw [HIX.out s4]
    have h24 : (s.size : Int) < 24 + (b4 : Int) := by have := HB4.out; have := HLT.out; omega
    go_enter Tryd.func18, Tryd.ntmps18
    go_upto_region 2 with fail
    generalize hcap : grownCap _ _ _ _ = cap at *
    generalize hW1 : World.drew _ = w1
    have b1 : Below w.heap.size w w1 := by rw [← hW1]; exact below_dr (below_al (below_al (Below.refl _ _) _) _)
    have Y1 : BY s (w.heap.size + 1) w1 := by
      rw [← hW1]
      have h := BY.new (s := s) (w := w.alloc (.cells #[.string ⟨#[]⟩, .int .i64 0, .int .u64 0, .int .u64 0, .slice none 0 0] 34)) (e := 5) (c := cap) (fr := ((bytesRow s cap).size, (bytesRow s cap).size + 1))
      rw [World.size_alloc] at h
      exact h
    have k1 : B5 w1 w.heap.size (.string ⟨#[]⟩) (.int .i64 0) (.int .u64 0) (.int .u64 0) (.slice none 0 0) := by rw [← hW1]; simp [B5, go_sem]
    clear hW1 hcap
    have B1 := Lib.hid b1
    have c4 := Y1.2 4 s4
    rw [x4] at c4
    clear b1 Y1
    obtain ⟨⟨e0, e1, e2, e3, e4⟩, ef⟩ := k1
    go_wp2_with fail
    refine bodyPost_ret (v := .tuple #[.agg #[.string ⟨#[]⟩, .int .i64 0, .int .u64 0, .int .u64 0, .slice none 0 0], .int .i64 0, .bool false]) (by simp [results, Tryd.results18, go_sem, e0, e1, e2, e3, e4]) rfl (HN.out _ ?_)
    repeat (first | (with_reducible exact B1.out) | (with_reducible refine below_set ?_ _ _ (by simp; try omega)))
theorem long_zero {l : List UInt8} (h : l.length < atL l + 19) : longL l = 0 := by
  unfold longL
  repeat' split
  all_goals first | rfl | (exfalso; omega)
theorem long_short {l : List UInt8} (h : l.length < endL l + 2) : longL l = 0 := by
  unfold longL
  repeat' split
  all_goals first | rfl | (exfalso; omega)
theorem long_is {l : List UInt8} (h : atL l + 19 ≤ l.length) (he : endL l + 2 ≤ l.length) : longL l = endL l + 2 := by
  unfold longL
  rw [if_neg (by unfold atL at h; omega), if_neg (by omega), if_neg (by omega)]
theorem frB_zero {l : List UInt8} (h : longL l = 0) : frB l = false := by unfold frB; rw [h]; rfl
theorem firstRecord_any (s : ByteArray) (w : World) (hs : s.size ≤ 1048576) : Calls Tryd.prog 18 #[.string s] w (FrOut s w) := by
  have hl : s.data.toList.length = s.size := (Lib.size_eq s).symm
  have hEND : endL s.data.toList = atL s.data.toList + 19 + 2 * manyL s.data.toList := rfl
  by_cases h19 : s.size < atL s.data.toList + 19
  · exact firstRecord_bad s w hs (atL s.data.toList) (byN s.data.toList 4) rfl (byN_lt _ _) (fun h => by_idx h) h19 _ (fun W' hb => FrOut.none (frB_zero (long_zero (by omega))) hb)
  · have hmany := manyL_lt s.data.toList
    have hdl := dsL_len s.data.toList (manyL s.data.toList)
    have hll : s.data.toList.length ≤ 9223372036854775 := by omega
    have hnum : ∀ (g c : Nat) (W : World) (at_ many : Nat), 1 ≤ many ∧ many ≤ 8 → at_ + many ≤ s.size → BY s g W → Calls Tryd.prog 31 #[.slice (some ⟨g, 0, none⟩) s.size c, .int .i64 at_, .int .i64 many] W (SameOut (.int .u64 (rdB ((s.data.toList.drop at_).take many) : Nat)) W) := fun g c W at_ many hm ha hb => by
      have := numberAt_any (some ⟨g, 0, none⟩) s.data.toList c at_ many W hll hm (by omega) hb.rd
      rw [hl] at this
      exact this
    have hnm : (nmS s.data.toList).size ≤ 255 := nmS_size (by omega)
    refine firstRecord_walk s w hs (atL s.data.toList) (manyL s.data.toList) (by omega) ⟨by unfold atL; omega, atL_lt _⟩ hmany (nmS s.data.toList) ⟨(storeL (nmL s.data.toList) (kL s.data.toList) (aL s.data.toList) (bL s.data.toList) (dsL s.data.toList (manyL s.data.toList))).toArray⟩ (s.extract 0 (endL s.data.toList + 2)) (kL s.data.toList) (aL s.data.toList) (bL s.data.toList) (dsL s.data.toList)
      (fun i => byN s.data.toList (atL s.data.toList + 19 + 2 * i) + 256 * byN s.data.toList (atL s.data.toList + 19 + 2 * i + 1)) (byN s.data.toList)
      (recB (nmL s.data.toList) (kL s.data.toList) (aL s.data.toList) (bL s.data.toList) (dsL s.data.toList (manyL s.data.toList))) (FrOut s w) (kL_range _) (by unfold atL; omega) rfl (fun i h => by_idx h) (byN_lt _) (fun i => rfl)
      (fun i => by have := byN_lt s.data.toList (atL s.data.toList + 19 + 2 * i); have := byN_lt s.data.toList (atL s.data.toList + 19 + 2 * i + 1); omega) rfl
      (fun g c W hb => hnum g c W _ 8 (by omega) (by omega) hb) (fun g c W hb => hnum g c W _ 8 (by omega) (by omega) hb) ?_ ?_ (nm_ext s (by omega)) (fun _ => by rw [hEND]; congr 1; omega) ?_ ?_ ?_ ?_
    · intro g c W hb
      have := hnum g c W (atL s.data.toList + 17) 2 (by omega) (by omega) hb
      rw [rdB_two (by omega)] at this
      exact this
    · intro h i hi g c W hb
      have := hnum g c W (atL s.data.toList + 19 + 2 * i) 2 (by omega) (by omega) hb
      rw [rdB_two (by omega)] at this
      exact this
    · intro A c w h
      have := ValidRecord_any (nmS s.data.toList) (kL s.data.toList) (aL s.data.toList) (bL s.data.toList) A (dsL s.data.toList (manyL s.data.toList)) c w (by omega) (bL_range _) (by omega) h
      unfold rcV at this
      rw [hdl] at this
      exact this
    · intro hr A c w h
      obtain ⟨h1, h2, h3, h4⟩ := recB_facts (nm := nmS s.data.toList) hr
      have := storeRecord_any (nmS s.data.toList) (kL s.data.toList) (aL s.data.toList) (bL s.data.toList) A (dsL s.data.toList (manyL s.data.toList)) c w h1 h2 (aL_range _) (bL_range _) h3 (num_all h4) h
      unfold rcV at this
      rw [hdl] at this
      exact this
    · intro h W' hb
      refine FrOut.none ?_ hb
      by_cases hbig : s.size < endL s.data.toList + 2
      · exact frB_zero (long_short (by omega))
      · have hlg := long_is (l := s.data.toList) (by omega) (by omega)
        unfold frB okL
        rcases h with h | h | h
        · omega
        · rw [h, Bool.false_and, Bool.and_false]
        · rw [show decide (storeL (nmL s.data.toList) (kL s.data.toList) (aL s.data.toList) (bL s.data.toList) (dsL s.data.toList (manyL s.data.toList)) = s.data.toList.take (longL s.data.toList)) = false from decide_eq_false (fun e => h (by rw [e, hlg]; exact (str_of (by rw [ext_bytes]; rfl)).symm)), Bool.and_false, Bool.and_false]
    · intro hbig hr ht A c W' ho hb
      have hlg := long_is (l := s.data.toList) (by omega) (by omega)
      have hB : frB s.data.toList = true := by
        unfold frB okL
        rw [hr, show decide (storeL (nmL s.data.toList) (kL s.data.toList) (aL s.data.toList) (bL s.data.toList) (dsL s.data.toList (manyL s.data.toList)) = s.data.toList.take (longL s.data.toList)) = true from decide_eq_true (by rw [hlg]; have := congrArg (fun b => b.data.toList) ht; rw [ext_bytes] at this; exact this), decide_eq_true (show longL s.data.toList ≠ 0 by omega)]
        rfl
      have hR : frR s.data.toList = Rc.of s.data.toList := by unfold frR; rw [hB]; rfl
      have hN : frN s.data.toList = atL s.data.toList + 21 + 2 * manyL s.data.toList := by unfold frN; rw [hB]; simp only [if_true]; omega
      unfold FrOut
      rw [hR, hB, hN]
      refine ⟨A, c, ?_, ?_, hb⟩
      · show _ = Ending.returned (.tuple #[rcV (nmS s.data.toList) (kL s.data.toList) (aL s.data.toList) (bL s.data.toList) A (dsL s.data.toList (manyL s.data.toList)).length c, .int .i64 _, .bool true])
        rw [hdl]
        rfl
      · show W'.ownsRow _ _ _ (.slice A (dsL s.data.toList (manyL s.data.toList)).length c) (dsL s.data.toList (manyL s.data.toList)).length _
        rw [hdl]
        exact ho
end Go.Proofs.YtckdbnnkabgopaaDoor

