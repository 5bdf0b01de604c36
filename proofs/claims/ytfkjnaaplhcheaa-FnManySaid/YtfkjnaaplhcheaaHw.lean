/-
  impl.StepMany.
-/
import Derived.Test.YtfkjnaaplhcheaaHv
import Derived.Test.YtfkjnaaplhcheaaHu
import Derived.Test.YtfkjnaaplhcheaaQr
import Derived.Deep.DeepCutAuto
import Derived.BigQuiet
import Derived.Sort.QuietIn
namespace Go.Proofs.Ytfkjnaaplhcheaa
open Go Go.RowKit Go.Sort Ieee Go.Shelf
attribute [local go_sem] run_store_float Oper.semAt_some

set_option maxHeartbeats 800000 in
theorem StepMany_bad (A : Option Addr) (xs : List Nat) (c : Nat) (w : World) (hx : xs.length ≤ 9223372036854775807) (h : Rd w w.heap.size A (fl xs)) (hb : sharesB xs = false) : Calls Try.prog 26 #[.slice A xs.length c] w (smOut [] false w) := by
  have HS := Lib.hid fun w h => areShares_any A xs c w hx h
  rw [hb] at HS
  have HR : Hid (Rd (w.alloc (.cells #[.slice A xs.length c] 46)) (w.alloc (.cells #[.slice A xs.length c] 46)).heap.size A (fl xs)) := Lib.hid (h.at_ (below_al (Below.refl _ _) _))
  clear h hb
  go_enter Try.func26, Try.ntmps26
  go_wp2_with (go_at_call 64; refine (HS.out _ HR.out).mono ?_; rintro e w1 ⟨rfl, m, rfl⟩)
  go_ret2
  exact smOut_none (below_drewN (below_al (Below.refl _ _) _) _)
/-- the row and the least number behind the steps that have come -/
def stS (xs : List Nat) (d : Array Nat) (n : Nat) : List Nat → (Nat → Nat) × Nat := List.foldl (fun s j => (fun p => if p = backD d n (j % n) then capF (if j % n = 0 ∨ FloatKind.f32.format.order (stepX xs d (j % n)) s.2 ≠ some .gt then stepX xs d (j % n) else s.2) else s.1 p, if j % n = 0 ∨ FloatKind.f32.format.order (stepX xs d (j % n)) s.2 ≠ some .gt then stepX xs d (j % n) else s.2)) (fun _ => 0, 0)
theorem stS_snoc (xs : List Nat) (d : Array Nat) (n : Nat) (pre : List Nat) (j : Nat) : stS xs d n (pre ++ [j]) = (fun p => if p = backD d n (j % n) then capF (if j % n = 0 ∨ FloatKind.f32.format.order (stepX xs d (j % n)) (stS xs d n pre).2 ≠ some .gt then stepX xs d (j % n) else (stS xs d n pre).2) else (stS xs d n pre).1 p, if j % n = 0 ∨ FloatKind.f32.format.order (stepX xs d (j % n)) (stS xs d n pre).2 ≠ some .gt then stepX xs d (j % n) else (stS xs d n pre).2) := by
  unfold stS
  rw [List.foldl_append]
  rfl
theorem stS_range (xs : List Nat) (d : Array Nat) : ∀ k, k ≤ xs.length → stS xs d xs.length (List.range k) = (outF (leastG xs d) (backD d xs.length) k, leastI (stepX xs d) k)
  | 0, _ => rfl
  | k + 1, hk => by
    rw [List.range_succ, stS_snoc, stS_range xs d k (by omega), Nat.mod_eq_of_lt (by omega)]
    rfl
theorem stS_word (xs : List Nat) (d : Array Nat) (hn : 1 ≤ xs.length) (hw : ∀ k, k < xs.length → wordN (stepX xs d k)) : ∀ (m : Nat) (pre : List Nat), pre.length = m → wordN (stS xs d xs.length pre).2
  | 0, pre, h => by
    obtain rfl := List.length_eq_zero_iff.1 h
    exact ⟨show isNan single 0 = false by decide +kernel, show 0 < 4294967296 by decide⟩
  | m + 1, pre, h => by
    rcases List.eq_nil_or_concat pre with rfl | ⟨ini, j, rfl⟩
    · simp at h
    · rw [List.concat_eq_append, stS_snoc]
      have hm : j % xs.length < xs.length := Nat.mod_lt _ (by omega)
      dsimp only
      split
      · exact hw _ hm
      · exact stS_word xs d hn hw m ini (by simp at h; exact h)
theorem row_at (W : World) (G n : Nat) (z : Value) (t : TypeId) (h : W.heap.size = G) : (W.alloc (.cells (madeCells #[z] n) t)).rowIs G t n (fun _ => z) := by
  subst h
  exact World.rowIs_made W z n t
theorem cell_at (W : World) (B : Nat) (v : Value) (t : TypeId) (h : W.heap.size = B) : (W.alloc (.cells #[v] t)).cell? ⟨B, 0, none⟩ = some v ∧ (W.alloc (.cells #[v] t)).frozen? ⟨B, 0, none⟩ = false := by
  subst h
  exact ⟨by rw [World.cell?_alloc_new]; rfl, by simp⟩
def BoxAt (W : World) (B : Nat) (v : Value) : Prop := W.cell? ⟨B, 0, none⟩ = some v ∧ W.frozen? ⟨B, 0, none⟩ = false
theorem box_new (W : World) (B : Nat) (v : Value) (t : TypeId) (h : W.heap.size = B) : BoxAt (W.alloc (.cells #[v] t)) B v := cell_at W B v t h
theorem box_up {W : World} {B : Nat} {v : Value} (o : Obj) (h : BoxAt W B v) : BoxAt (W.alloc o) B v :=
  ⟨keepC (below_al (Below.refl _ _) o) h.1, ((below_al (Below.refl W.heap.size W) o).frozen (lt_of_cell h.1)).trans h.2⟩
theorem cell_up {W : World} {p : Addr} {v : Value} (o : Obj) (h : W.cell? p = some v) : (W.alloc o).cell? p = some v := keepC (below_al (Below.refl _ _) o) h
theorem row_up {W : World} {g n : Nat} {e : TypeId} {f : Nat → Value} (o : Obj) (h : W.rowIs g e n f) : (W.alloc o).rowIs g e n f := h.alloc o
/-- the boxes of impl.StepMany behind their making -/
structure SBx (w : World) (bl bo bm bn G n : Nat) (vl : Value) (W : World) : Prop where
  b : Below w.heap.size w W
  c1 : W.cell? ⟨bl, 0, none⟩ = some vl
  c2 : W.cell? ⟨bo, 0, none⟩ = some (.slice (some ⟨G, 0, none⟩) n n)
  c3 : BoxAt W bm (.float .f32 0)
  c4 : W.cell? ⟨bn, 0, none⟩ = some (.int .i64 n)
  r : W.rowIs G 50 n (fun _ => .float .f32 0)
  z : W.heap.size = w.heap.size + 5
  d : bl = w.heap.size ∧ bo ≠ bm ∧ bo ≠ G ∧ bn ≠ bm ∧ bn ≠ G ∧ bm ≠ G ∧ w.heap.size < bo ∧ w.heap.size < bm ∧ w.heap.size < bn ∧ w.heap.size < G ∧ bo < w.heap.size + 5 ∧ bm < w.heap.size + 5 ∧ bn < w.heap.size + 5 ∧ G < w.heap.size + 5
/-- between two rounds: the boxes, the row and the order -/
structure SWd (w : World) (bl bo bm bn G g n : Nat) (vl : Value) (d : Array Nat) (s : (Nat → Nat) × Nat) (W : World) : Prop where
  c1 : W.cell? ⟨bl, 0, none⟩ = some vl
  c2 : W.cell? ⟨bo, 0, none⟩ = some (.slice (some ⟨G, 0, none⟩) n n)
  c3 : BoxAt W bm (.float .f32 s.2)
  c4 : W.cell? ⟨bn, 0, none⟩ = some (.int .i64 n)
  r : W.rowIs G 50 n (fun p => .float .f32 (s.1 p))
theorem row_kept {W W' : World} {row : Option Nat} {g n : Nat} {e : TypeId} {f : Nat → Value} (h : W.rowIs g e n f) (hg : W.grownBy W' row) (hrow : ∀ r, row = some r → ∃ o : Obj, W.heap[r]? = some o ∧ o.isCells = false) : W'.rowIs g e n f := by
  obtain ⟨c, h1, h2⟩ := h
  have hlt := (Array.getElem?_eq_some_iff.1 h1).1
  refine World.rowIs.of_block ⟨c, h1, h2⟩ (hg.block g hlt fun e => ?_)
  obtain ⟨o, ho, hc⟩ := hrow g e.symm
  rw [h1] at ho
  cases ho
  cases hc
theorem SWd.kept {w : World} {bl bo bm bn G g n : Nat} {vl : Value} {d : Array Nat} {s : (Nat → Nat) × Nat} {W W' : World} (h : SWd w bl bo bm bn G g n vl d s W) {row : Option Nat} (hg : W.grownBy W' row) (hr : ∀ r, row = some r → ∃ o : Obj, W.heap[r]? = some o ∧ o.isCells = false) : SWd w bl bo bm bn G g n vl d s W' :=
  ⟨cell_kept h.c1 hg hr, cell_kept h.c2 hg hr, ⟨cell_kept h.c3.1 hg hr, (frozen_kept h.c3.1 hg hr).trans h.c3.2⟩, cell_kept h.c4 hg hr, row_kept h.r hg hr⟩
theorem SWd.drewN {w : World} {bl bo bm bn G g n : Nat} {vl : Value} {d : Array Nat} {s : (Nat → Nat) × Nat} {W : World} (h : SWd w bl bo bm bn G g n vl d s W) (m : Nat) : SWd w bl bo bm bn G g n vl d s (W.drewN m) :=
  ⟨h.c1, h.c2, h.c3, h.c4, h.r.of_block rfl⟩
theorem SWd.least {w : World} {bl bo bm bn G g n : Nat} {vl : Value} {d : Array Nat} {s : (Nat → Nat) × Nat} {W : World} (h : SWd w bl bo bm bn G g n vl d s W) (h1 : bl ≠ bm) (h2 : bo ≠ bm) (h3 : bn ≠ bm) (h4 : bm ≠ G) (x : Nat) : SWd w bl bo bm bn G g n vl d (s.1, x) (W.setCell ⟨bm, 0, none⟩ (.float .f32 x)) :=
  ⟨(World.cell?_setCell_other _ _ _ _ (by first | (simp; done) | (simp; exact fun e => absurd e.symm h1) | (simp; exact fun e => absurd e h1))).trans h.c1, (World.cell?_setCell_other _ _ _ _ (by first | (simp; done) | (simp; exact fun e => absurd e.symm h2) | (simp; exact fun e => absurd e h2))).trans h.c2, ⟨World.cell?_setCell_same' _ _ _ (by rw [h.c3.1]; rfl), by rw [World.frozen?_setCell]; exact h.c3.2⟩, (World.cell?_setCell_other _ _ _ _ (by first | (simp; done) | (simp; exact fun e => absurd e.symm h3) | (simp; exact fun e => absurd e h3))).trans h.c4, h.r.of_block (Below.heap_setCell _ _ _ _ (fun e => h4 e.symm))⟩
theorem SWd.put {w : World} {bl bo bm bn G g n : Nat} {vl : Value} {d : Array Nat} {s : (Nat → Nat) × Nat} {W : World} (h : SWd w bl bo bm bn G g n vl d s W) (h1 : bl ≠ G) (h2 : bo ≠ G) (h3 : bn ≠ G) (h4 : bm ≠ G) (i x : Nat) : SWd w bl bo bm bn G g n vl d (fun p => if p = i then x else s.1 p, s.2) (W.setCell ⟨G, i, none⟩ (.float .f32 x)) :=
  ⟨(World.cell?_setCell_other _ _ _ _ (by first | (simp; done) | (simp; exact fun e => absurd e.symm h1) | (simp; exact fun e => absurd e h1))).trans h.c1, (World.cell?_setCell_other _ _ _ _ (by first | (simp; done) | (simp; exact fun e => absurd e.symm h2) | (simp; exact fun e => absurd e h2))).trans h.c2, ⟨(World.cell?_setCell_other _ _ _ _ (by first | (simp; done) | (simp; exact fun e => absurd e.symm h4) | (simp; exact fun e => absurd e h4))).trans h.c3.1, by rw [World.frozen?_setCell]; exact h.c3.2⟩, (World.cell?_setCell_other _ _ _ _ (by first | (simp; done) | (simp; exact fun e => absurd e.symm h3) | (simp; exact fun e => absurd e h3))).trans h.c4, (h.r.set i _).congr fun p _ => by dsimp only; split <;> rfl⟩
theorem round_end {w : World} {bl bo bm bn G g n b2 B : Nat} {vl : Value} {d : Array Nat} {s : (Nat → Nat) × Nat} {W W9 : World} (h : SWd w bl bo bm bn G g n vl d s W9) (hB : Below w.heap.size w W9) (hk : KeepsOthers W W9) (hkb : KB b2 g W W9)
    (h1 : bl ≠ G) (h2 : bo ≠ G) (h3 : bn ≠ G) (h4 : bm ≠ G) (h5 : G ≠ b2) (h6 : G ≠ g) (h7 : w.heap.size ≤ G) (i x q : Nat) :
    KeepsFrom B W ((W9.drewN q).setCell ⟨G, i, none⟩ (.float .f32 x)) ∧ KB b2 g W ((W9.drewN q).setCell ⟨G, i, none⟩ (.float .f32 x)) ∧ SWd w bl bo bm bn G g n vl d (fun p => if p = i then x else s.1 p, s.2) ((W9.drewN q).setCell ⟨G, i, none⟩ (.float .f32 x)) ∧ Below w.heap.size w ((W9.drewN q).setCell ⟨G, i, none⟩ (.float .f32 x)) :=
  ⟨(hk.trans ((show KeepsOthers W9 (W9.drewN q) from ⟨Nat.le_refl _, fun _ _ h _ => h⟩).trans (KeepsOthers.setCell _ _ _))).from B, (hkb.drewN q).set G i _ h5 h6, (h.drewN q).put h1 h2 h3 h4 i x, below_set (below_dn hB q) _ _ h7⟩
set_option maxRecDepth 100000 in
set_option maxHeartbeats 3200000 in
theorem StepMany_ok (A : Option Addr) (xs : List Nat) (c : Nat) (w : World) (h : Rd w w.heap.size A (fl xs)) (hb : sharesB xs = true) :
    Calls Try.prog 26 #[.slice A xs.length c] w (fun e w' => ∃ d, OrdTo (keyI xs) xs.length d ∧ smOut (stepL xs d) true w e w') := by
  have hl : 1 ≤ xs.length ∧ xs.length ≤ 64 := by
    unfold sharesB at hb
    simp only [Bool.and_eq_true, decide_eq_true_eq] at hb
    exact hb.1
  have hp : xs.all partB = true := by
    unfold sharesB at hb
    simp only [Bool.and_eq_true] at hb
    exact hb.2
  have HS := Lib.hid fun W h => areShares_any A xs c W (by omega) h
  rw [hb] at HS
  have HBY := Lib.hid fun W h => byShare_any A xs c W hp hl h
  have HLA := Lib.hid (list_at h hl.1)
  have HLT : Hid (∀ d, OrdTo (keyI xs) xs.length d → ∀ k, k < xs.length → d[k]! < xs.length) := Lib.hid fun d hd k hk => hd.lt hk
  have HR := Lib.hid (h.at_ (below_al (Below.refl _ _) (.cells #[.slice A xs.length c] 46)))
  have HR0 := Lib.hid h
  obtain ⟨i0, hi0, hz0, hz1, hz2⟩ := info_parts info_f32h
  have hmk := run_make_row (P := Try.prog) 46 50 i0 (.float .f32 0) Try.underlying46 hi0 hz0 hz1 rfl .i64 .i64 xs.length (by rw [hz2]; omega) (by omega)
  have hsz : Hid ((w.alloc (.cells #[.slice A xs.length c] 46)).heap.size = w.heap.size + 1) := Lib.hid (by simp)
  have hcl : (w.alloc (.cells #[.slice A xs.length c] 46)).cell? ⟨w.heap.size, 0, none⟩ = some (.slice A xs.length c) := by rw [World.cell?_alloc_new]; rfl
  clear h hb hi0 hz0 hz1 hz2
  refine (callsIn_wide (n := 9)).1 ?_
  refine callsIn_of_wp_marks Try.func26 rfl trivial ?_ rfl
  simp only [Try.ntmps26, List.size_toArray, List.length_cons, List.length_nil, Nat.reduceAdd, Nat.reduceSub, Array.replicate_succ, Array.replicate_zero, List.push_toArray, List.append_toArray, List.nil_append, List.cons_append]
  refine wpIn_wide.2 ?_
  go_upto_region 3 with (go_at_call 64; refine (HS.out _ HR.out).mono ?_; rintro e w1 ⟨rfl, m, rfl⟩)
  have hwz : (w.alloc (.cells #[.slice A xs.length c] 46)).heap.size = w.heap.size + 1 := by simp
  generalize hn : xs.length = n at *
  go_cut [4, 5, 6, 15] from 13 to 17 (fun s4 s5 s6 s15 wx => ∃ bo bm bn G, s4 = .pointer (some ⟨bo, 0, none⟩) ∧ s5 = .pointer (some ⟨bm, 0, none⟩) ∧ s6 = .pointer (some ⟨bn, 0, none⟩) ∧ s15 = .slice (some ⟨G, 0, none⟩) n n ∧ SBx w w.heap.size bo bm bn G n (.slice A n c) wx)
  case first =>
    go_region
    all_goals
      go_wp2_with fail
      go_meet
      refine ⟨_, _, _, _, rfl, rfl, rfl, rfl, ?_, ?_, ?_, ?_, ?_, ?_, ?_, ?_⟩
      · repeat (first | exact Below.refl _ _ | refine below_al ?_ _ | refine below_dr ?_ | refine below_dn ?_ _)
      · repeat (first | exact hcl | exact (cell_at _ _ _ _ (by simp)).1 | refine cell_up _ ?_)
      · repeat (first | exact (cell_at _ _ _ _ (by simp)).1 | refine cell_up _ ?_)
      · repeat (first | exact box_new _ _ _ _ (by simp) | refine box_up _ ?_)
      · repeat (first | exact (cell_at _ _ _ _ (by simp)).1 | refine cell_up _ ?_)
      · repeat (first | exact row_at _ _ _ _ _ (by simp) | refine row_up _ ?_)
      · simp
      · omega
  case rest =>
    obtain ⟨bo, bm, bn, G, rfl, rfl, rfl, rfl, hbx⟩ := hcut
    have HX := Lib.hid hbx
    have c1 := hbx.c1
    go_wp2_with (first
      | (go_at_call 66; refine (HBY.out _ (HR0.out.at_ HX.out.b)).mono ?_; rintro e w2 ⟨g, c2, d, rfl, hg1, hg2, hd1, hd2, hd3, hb2⟩; have D0 := Lib.hid (OrdTo.of_blk hd1 hd2); have D3 := Lib.hid hd3; have G1 := Lib.hid (And.intro hg1 hg2); have B2 := Lib.hid hb2; clear hg1 hg2 hd1 hd2 hd3 hb2)
      | (go_at_call 67; refine (Backward_any _ _ _ _).mono ?_; rintro e w3 ⟨rfl, rfl⟩))
    have hX := HX.out.d
    have hG := G1.out
    have hz := HX.out.z
    have HD : Hid (SWd w w.heap.size bo bm bn G g n (.slice A n c) d (fun _ => 0, 0) (w2.alloc (.cells #[.slice (some ⟨g, 0, none⟩) n c2] 25)) ∧ Below w.heap.size w (w2.alloc (.cells #[.slice (some ⟨g, 0, none⟩) n c2] 25))) := Lib.hid (by
      have hb := below_al B2.out (.cells #[.slice (some ⟨g, 0, none⟩) n c2] 25)
      exact ⟨⟨keepC hb HX.out.c1, keepC hb HX.out.c2, ⟨keepC hb HX.out.c3.1, (hb.frozen (lt_of_cell HX.out.c3.1)).trans HX.out.c3.2⟩, keepC hb HX.out.c4, HX.out.r.of_block (hb.block _ (by omega))⟩, HX.out.b.trans (hb.mono (by omega))⟩)
    have HS9 : Hid (SeqStopsK Fence.wide 8 Try.prog 101 #[.pointer (some ⟨w2.heap.size, 0, none⟩)] (bwE n d) (KB w2.heap.size g) (fun ys => ys = List.range n) (fun _ => True) n (w2.alloc (.cells #[.slice (some ⟨g, 0, none⟩) n c2] 25))) := Lib.hid (Backward_stops Fence.wide 8 trivial rfl (by omega) w2.heap.size g n c2 d hl _ (by simp; omega) (by simp) (cell_at w2 _ _ _ rfl).1 (fun j hj => cell_up _ (D3.out j hj)))
    refine (wpIn_wide (n := 9)).1 ?_
    refine wpIn_rangeFunc_ownG (F := Fence.wide) rfl (by omega) (gf := 101) (lb := #[.pointer (some ⟨w2.heap.size, 0, none⟩)]) rfl trivial (enters_of Try.func101 (by kernel_rfl) rfl)
      HS9.out (fun h k => KB.trans h k) (fun W l o o' _ h1 h2 _ => KB.put W l o o' h1 h2) (Below.refl _ _) (fun _ => rfl)
      (fun pre W => SWd w w.heap.size bo bm bn G g n (.slice A n c) d (stS xs d n pre) W ∧ Below w.heap.size w W) (fun _ _ _ => False)
      (OwnFrom.and (Own.from (fun s A B row hs hg hr => hs.kept hg hr) _) (ownFrom_below (Nat.le_refl _) (by have := B2.out.size; simp; omega)))
      (fun _ _ _ _ _ hs _ _ => hs) HD.out
      (fun x => { tmps := #[.slice A n c, .pointer (some ⟨w.heap.size, 0, none⟩), .slice none 0 0, .bool false, .pointer (some ⟨bo, 0, none⟩), .pointer (some ⟨bm, 0, none⟩), .pointer (some ⟨bn, 0, none⟩), .int .i64 ((n - 1 - x % n : Nat) : Int), .int .i64 ((d[n - 1 - x % n]! : Nat) : Int), undef, .slice A n c, .bool true, .bool false, u13, u14, .slice (some ⟨G, 0, none⟩) n n, u16, u17, .slice A n c, .slice (some ⟨g, 0, none⟩) n c2, .func (.func 101) #[] #[.pointer (some ⟨w2.heap.size, 0, none⟩)], .int .i64 ((n - 1 - x % n : Nat) : Int), .int .i64 ((d[n - 1 - x % n]! : Nat) : Int), undef, undef, undef, undef, undef, undef, undef, undef, undef, undef, undef, undef, undef, undef, undef, undef, undef, undef, undef, undef, undef, undef, undef, undef, undef, undef, undef], defers := [] }) ?assign ?body ?done ?stop
    case assign =>
      intro l x W K hK
      unfold bwE
      gi_wp2
      exact hK
    case body =>
      rintro l pre x W ⟨hs, hB⟩ _
      have HDT := Lib.hid (HLT.out d D0.out)
      have hkn : x % n < n := Nat.mod_lt _ (by omega)
      have hm := stS_snoc xs d n pre x
      have hwm : wordN (stS xs d n pre).2 := by
        have := stS_word xs d (by omega) (step_word hp (by omega) (by rw [hn]; exact HDT.out)) _ pre rfl
        rw [hn] at this
        exact this
      have hsx : stepX xs d (x % n) = stepV (xs.getD d[n - 1 - x % n]! 0) n (n - x % n) := by unfold stepX backD; rw [hn]
      have hbd : backD d n (x % n) = d[n - 1 - x % n]! := rfl
      rw [hsx, hbd] at hm
      generalize x % n = k at *
      have hi := HDT.out (n - 1 - k) (by omega)
      have hiN : d[n - 1 - k]! < n := hi
      have hpx := getD_part hp (show d[n - 1 - k]! < xs.length by omega)
      have hms := stepV_run hpx (show n < 65 by omega) (show n - k < 65 by omega) (by omega)
      have HLE : Hid ((FloatKind.f32.format.order (stepV (xs.getD d[n - 1 - k]! 0) n (n - k)) (stS xs d n pre).2 == some .lt || FloatKind.f32.format.order (stepV (xs.getD d[n - 1 - k]! 0) n (n - k)) (stS xs d n pre).2 == some .eq) = decide (FloatKind.f32.format.order (stepV (xs.getD d[n - 1 - k]! 0) n (n - k)) (stS xs d n pre).2 ≠ some .gt)) := Lib.hid (le_test hms.2.2 hwm)
      have hrun := fun w => run_float_arith (P := Try.prog) w .mul 50 .f32 _ _ _ hms.1
      have hrun2 := fun w => run_float_arith (P := Try.prog) w .quo 50 .f32 _ _ _ hms.2.1
      obtain ⟨b0, off0, rfl, hb0, hc0⟩ := HLA.out
      have z1 := (hB.cell (p := ⟨b0, off0 + d[n - 1 - k]!, none⟩) hb0).trans (hc0 _ hi)
      have y2 := hs.r.cell hi
      have f0 := hs.r.frozen d[n - 1 - k]!
      have q1 := hs.c1
      have q2 := hs.c2
      have q3 := hs.c3.1
      have q4 := hs.c4
      have fz := hs.c3.2
      have hwk : IntKind.i64.wrap (((n - 1 - k : Nat) : Int) + 1) = ((n - k : Nat) : Int) := by rw [show ((n - 1 - k : Nat) : Int) + 1 = ((n - k : Nat) : Int) by omega]; exact IntWalk.i64_in _ (by omega)
      have hwn : IntKind.i64.wrap ((n : Int) - 1) = ((n - 1 : Nat) : Int) := by rw [show (n : Int) - 1 = ((n - 1 : Nat) : Int) by omega]; exact IntWalk.i64_in _ (by omega)
      have hiz : ((d[n - 1 - k]! : Nat) : Int) < (n : Int) := by omega
      have H1 := Lib.hid hs
      have H2 := Lib.hid hB
      have HM := Lib.hid hm
      have HWD := Lib.hid hms.2.2
      have HKN : Hid (k = 0 ↔ n - 1 - k = n - 1) := Lib.hid (by omega)
      clear hs hB hm hms hsx hbd hwm hpx HDT hi hc0 hkn HD HS9 D3
      generalize stS xs d n pre = st at *
      generalize d[n - 1 - k]! = i at *
      generalize xs.getD i 0 = xi at *
      generalize stepV xi n (n - k) = sv at *
      generalize fmul xi _ = xm at *
      generalize n - 1 - k = np at *
      generalize n - 1 = n1 at *
      generalize n - k = nk at *
      generalize st.1 i = oi at *
      have hd1 : 1 ≤ 9 - 1 - 1 := by omega
      have hmx : Try.prog.follows .mixedOrders = true := by kernel_rfl
      by_cases h0 : k = 0
      · have hnn : np = n1 := HKN.out.1 h0
        subst hnn
        gi_wp2
        refine region_quiet_r (by kernel_rfl) (by kernel_rfl) (by kernel_rfl) ?_
        repeat (gi_big_quiet_step (fail))
        refine wpQuietIn_nil ?_
        rintro _ ⟨nq, rfl⟩
        gi_wp2
        have E9 := Lib.hid (fun q => round_end (B := (w2.alloc (.cells #[.slice (some ⟨g, 0, none⟩) n c2] 25)).heap.size) (b2 := w2.heap.size) ((H1.out.drewN nq).least (by omega) (by omega) (by omega) (by omega) sv) (below_set (below_dn H2.out nq) ⟨bm, 0, none⟩ _ (by show w.heap.size ≤ bm; omega)) ((show KeepsOthers W (W.drewN nq) from ⟨Nat.le_refl _, fun _ _ h _ => h⟩).trans (KeepsOthers.setCell _ _ _)) (((KB.refl w2.heap.size g W).drewN nq).set bm 0 _ (by omega) (by omega)) (by omega) (by omega) (by omega) (by omega) (by omega) (by omega) (by omega) i (capF sv) q)
        have S9 := (H1.out.drewN nq).least (by omega) (by omega) (by omega) (by omega) sv
        have t2 := S9.c2
        have t3 := S9.c3.1
        have t5 := S9.r.cell hiN
        have t6 := S9.r.frozen i
        clear S9 q1 q2 q3 q4 fz y2 f0 z1 hrun hrun2
        generalize (W.drewN nq).setCell _ _ = W9 at *
        gi_region_with_o (refine ⟨trivial, ?_⟩; gi_at_call 65; refine (CallsIn.inRound l (callsIn_wide.2 (atMostOne_any _ _))).mono ?_; rintro e w' ⟨rfl, q, rfl⟩)
        all_goals gi_wp2
        all_goals
          refine ⟨(E9.out _).1, (E9.out _).2.1, ⟨?_, (E9.out _).2.2.2⟩⟩
          show SWd w w.heap.size bo bm bn G g n _ d (stS xs d n (pre ++ [x])) _
          rw [HM.out]
          rw [if_pos (.inl h0)]
          exact (E9.out _).2.2.1
      · have hnn : ¬ ((np : Int) = (n1 : Int)) := by
          have h2 := HKN.out
          intro h3
          exact h0 (h2.2 (by omega))
        have hnn2 : ¬ np = n1 := fun h3 => hnn (by omega)
        have HLF := HLE.out
        by_cases ho : FloatKind.f32.format.order sv st.2 ≠ some .gt
        · rw [decide_eq_true ho] at HLF
          have ho' := Lib.hid ho
          clear ho
          gi_wp2
          refine region_quiet_r (by kernel_rfl) (by kernel_rfl) (by kernel_rfl) ?_
          repeat (gi_big_quiet_step (fail))
          refine wpQuietIn_nil ?_
          rintro _ ⟨nq, rfl⟩
          gi_wp2
          have E9 := Lib.hid (fun q => round_end (B := (w2.alloc (.cells #[.slice (some ⟨g, 0, none⟩) n c2] 25)).heap.size) (b2 := w2.heap.size) ((H1.out.drewN nq).least (by omega) (by omega) (by omega) (by omega) sv) (below_set (below_dn H2.out nq) ⟨bm, 0, none⟩ _ (by show w.heap.size ≤ bm; omega)) ((show KeepsOthers W (W.drewN nq) from ⟨Nat.le_refl _, fun _ _ h _ => h⟩).trans (KeepsOthers.setCell _ _ _)) (((KB.refl w2.heap.size g W).drewN nq).set bm 0 _ (by omega) (by omega)) (by omega) (by omega) (by omega) (by omega) (by omega) (by omega) (by omega) i (capF sv) q)
          have S9 := (H1.out.drewN nq).least (by omega) (by omega) (by omega) (by omega) sv
          have t2 := S9.c2
          have t3 := S9.c3.1
          have t5 := S9.r.cell hiN
          have t6 := S9.r.frozen i
          clear S9 q1 q2 q3 q4 fz y2 f0 z1 hrun hrun2
          generalize (W.drewN nq).setCell _ _ = W9 at *
          gi_region_with_o (refine ⟨trivial, ?_⟩; gi_at_call 65; refine (CallsIn.inRound l (callsIn_wide.2 (atMostOne_any _ _))).mono ?_; rintro e w' ⟨rfl, q, rfl⟩)
          all_goals gi_wp2
          all_goals
            refine ⟨(E9.out _).1, (E9.out _).2.1, ⟨?_, (E9.out _).2.2.2⟩⟩
            show SWd w w.heap.size bo bm bn G g n _ d (stS xs d n (pre ++ [x])) _
            rw [HM.out]
            rw [if_pos (.inr ho'.out)]
            exact (E9.out _).2.2.1
        · rw [decide_eq_false ho] at HLF
          have ho' := Lib.hid ho
          clear ho
          gi_wp2
          refine region_quiet_r (by kernel_rfl) (by kernel_rfl) (by kernel_rfl) ?_
          repeat (gi_big_quiet_step (fail))
          refine wpQuietIn_nil ?_
          rintro _ ⟨nq, rfl⟩
          gi_wp2
          have E9 := Lib.hid (fun q => round_end (B := (w2.alloc (.cells #[.slice (some ⟨g, 0, none⟩) n c2] 25)).heap.size) (b2 := w2.heap.size) (H1.out.drewN nq) (below_dn H2.out nq) (show KeepsOthers W (W.drewN nq) from ⟨Nat.le_refl _, fun _ _ h _ => h⟩) ((KB.refl w2.heap.size g W).drewN nq) (by omega) (by omega) (by omega) (by omega) (by omega) (by omega) (by omega) i (capF st.2) q)
          have S9 := H1.out.drewN nq
          have t2 := S9.c2
          have t3 := S9.c3.1
          have t5 := S9.r.cell hiN
          have t6 := S9.r.frozen i
          clear S9 q1 q2 q3 q4 fz y2 f0 z1 hrun hrun2
          generalize W.drewN nq = W9 at *
          gi_region_with_o (refine ⟨trivial, ?_⟩; gi_at_call 65; refine (CallsIn.inRound l (callsIn_wide.2 (atMostOne_any _ _))).mono ?_; rintro e w' ⟨rfl, q, rfl⟩)
          all_goals gi_wp2
          all_goals
            refine ⟨(E9.out _).1, (E9.out _).2.1, ⟨?_, (E9.out _).2.2.2⟩⟩
            show SWd w w.heap.size bo bm bn G g n _ d (stS xs d n (pre ++ [x])) _
            rw [HM.out]
            rw [if_neg (by rintro (h | h); exact h0 h; exact ho'.out h)]
            exact (E9.out _).2.2.1
    case done =>
      rintro D ys W hD rfl ⟨hs, hB⟩ hK
      have c2' := hs.c2
      go_wp2
      refine ⟨by simp, .inl ⟨_, _, rfl, run_takeDeferred hK, ?_⟩⟩
      refine ⟨.tuple #[.slice (some ⟨G, 0, none⟩) n n, .bool true], by simp [results, Try.results26, go_sem], d, D0.out, some ⟨G, 0, none⟩, n, ?_, ?_, ?_⟩
      · rw [show (stepL xs d).length = n by unfold stepL; rw [outFL_len, hn]]
      · rw [show (stepL xs d).length = n by unfold stepL; rw [outFL_len, hn]]
        have hrow := own_row (row_kept hs.r (grownBy_putObj' W D (.deferred none)) (fun r e => by cases e; exact ⟨_, hK, rfl⟩)) (base := w.heap.size) (by omega) (by unfold maxLen; omega)
        have hst := stS_range xs d n (by omega)
        rw [hn] at hst
        rw [hst] at hrow
        unfold stepL outFL fl
        rw [List.map_map, hn]
        exact hrow
      · exact hB.trans (belowK_b (w := w) (Nat.le_refl _) W D _ _ (by have := B2.out.size; simp at hD; omega) hK rfl rfl)
    case stop =>
      rintro D c pre W _ _ h _
      exact h.elim
end Go.Proofs.Ytfkjnaaplhcheaa
