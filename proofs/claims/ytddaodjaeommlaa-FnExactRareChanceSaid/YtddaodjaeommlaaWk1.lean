/-
  impl.WalkChain.
-/
import Derived.Test.YtddaodjaeommlaaOnw
import Derived.Test.YtddaodjaeommlaaTos
import Derived.Test.YtddaodjaeommlaaToi
import Derived.Deep.AppendLies
namespace Go.Proofs.Ytddaodjaeommlaa
open Go Go.RowKit Ieee

/-- what a function gives that returns a seed, integers and whether there are such -/
def wkOut (rk ra rb : Int) (ys : List Int) (ok : Bool) (w : World) : Ending → World → Prop := fun e w' =>
  ∃ A c, e = .returned (.tuple #[.agg #[.int .i64 rk, .int .u64 ra, .int .u64 rb], .slice A ys.length c, .bool ok]) ∧ w'.ownsRow w.heap.size 2 1 (.slice A ys.length c) ys.length (il ys) ∧ Below w.heap.size w w'
theorem wkOut_none {w w' : World} (hb : Below w.heap.size w w') : wkOut 0 0 0 [] false w (.returned (.tuple #[.agg #[.int .i64 0, .int .u64 0, .int .u64 0], .slice none 0 0, .bool false])) w' := ⟨none, 0, rfl, World.ownsRow_nil _ _ _ _, hb⟩
/-- the boxes of a seed, of a chain, and of a seed that is to be given -/
def Bx (g : Nat) (k a b n : Int) (A : Option Addr) (m c : Nat) (W : World) : Prop :=
  SdAt W g k a b ∧ W.cell? ⟨g + 1, 0, none⟩ = some (.int .i64 n) ∧ W.cell? ⟨g + 1, 1, none⟩ = some (.slice A m c) ∧ SdAt W (g + 1 + 1) 0 0 0
theorem Bx.keep {g : Nat} {k a b n : Int} {A : Option Addr} {m c : Nat} {W W' : World} (h : Bx g k a b n A m c W) (hb : Below W.heap.size W W') : Bx g k a b n A m c W' :=
  ⟨h.1.keep hb, keepC hb h.2.1, keepC hb h.2.2.1, h.2.2.2.keep hb⟩
theorem Bx.dn {g : Nat} {k a b n : Int} {A : Option Addr} {m c : Nat} {W : World} (h : Bx g k a b n A m c W) (q : Nat) : Bx g k a b n A m c (W.drewN q) := h
theorem Bx.lt {g : Nat} {k a b n : Int} {A : Option Addr} {m c : Nat} {W : World} (h : Bx g k a b n A m c W) : g + 2 < W.heap.size := lt_of_cell (a := ⟨g + 1 + 1, 0, none⟩) h.2.2.2.1
theorem Bx.set {g : Nat} {k a b n : Int} {A : Option Addr} {m c : Nat} {W : World} (h : Bx g k a b n A m c W) (k' a' b' : Int) : Bx g k' a' b' n A m c (((W.setCell ⟨g, 0, none⟩ (.int .i64 k')).setCell ⟨g, 1, none⟩ (.int .u64 a')).setCell ⟨g, 2, none⟩ (.int .u64 b')) := by
  have hg : W.grownBy (((W.setCell ⟨g, 0, none⟩ (.int .i64 k')).setCell ⟨g, 1, none⟩ (.int .u64 a')).setCell ⟨g, 2, none⟩ (.int .u64 b')) (some g) := grown_set (grown_set (grown_set (grown_refl W _) 0 _) 1 _) 2 _
  have h1 : g + 1 < W.heap.size := by have := h.lt; omega
  have hn : some (g + 1) ≠ some g := fun e => by injection e with e; omega
  exact ⟨h.1.set k' a' b', (hg.cell_far ⟨g + 1, 0, none⟩ h1 hn).trans h.2.1, (hg.cell_far ⟨g + 1, 1, none⟩ h1 hn).trans h.2.2.1, h.2.2.2.far hg (by omega)⟩
/-- a seed, a chain, a state and a number of steps are such -/
def walkB (k a b side : Int) (xs : List Nat) (i steps : Int) : Bool := seedB k a b && (validB side xs && (stateB side i && inB steps 0 512))

set_option maxRecDepth 100000 in
set_option maxHeartbeats 1600000 in
theorem WalkChain_bad (k a b side i steps : Int) (A : Option Addr) (xs : List Nat) (c : Nat) (w : World) (hb0 : 0 ≤ b ∧ b < 18446744073709551616) (hx : xs.length ≤ c) (hc : c ≤ 9223372036854775807) (h : Rd w w.heap.size A (fl xs)) (hbad : walkB k a b side xs i steps = false) :
    Calls Try.prog 66 #[.agg #[.int .i64 k, .int .u64 a, .int .u64 b], .agg #[.int .i64 side, .slice A xs.length c], .int .i64 i, .int .i64 steps] w (wkOut 0 0 0 [] false w) := by
  have HS := Lib.hid fun w => ValidSeed_any k a b hb0 w
  have HV := Lib.hid fun W h => ValidChain_any side A xs c W hx hc h
  have HT := Lib.hid fun (hn : 1 ≤ side ∧ side ≤ 12) W => isState_any side i A xs.length c W hn
  have HW := Lib.hid fun w => within_any steps 0 512 w
  unfold walkB at hbad
  clear hx hc
  have hcase : seedB k a b = false ∨ (seedB k a b = true ∧ validB side xs = false) ∨ (seedB k a b = true ∧ validB side xs = true ∧ stateB side i = false) ∨ (seedB k a b = true ∧ validB side xs = true ∧ stateB side i = true ∧ inB steps 0 512 = false) := by
    cases h1 : seedB k a b <;> cases h2 : validB side xs <;> cases h3 : stateB side i <;> simp_all
  have HC := Lib.hid hcase
  have HSIDE : Hid (validB side xs = true → 1 ≤ side ∧ side ≤ 12) := Lib.hid fun hv => by
    obtain ⟨n, hn, h1, h2, -⟩ := validB_facts hv
    omega
  clear hcase hbad
  go_enter Try.func66, Try.ntmps66
  go_wp2_with fail
  generalize hW1 : World.alloc (World.alloc (World.alloc w _) _) _ = W1
  have hx1 : Bx w.heap.size k a b side A xs.length c W1 := by rw [← hW1]; simp [Bx, SdAt, go_sem]
  have HB1 : Hid (Below w.heap.size w W1) := by rw [← hW1]; exact Lib.hid (below_al (below_al (below_al (Below.refl _ _) _) _) _)
  clear hW1
  refine (HS.out _).mono ?_
  rintro e w2 ⟨rfl, hb2⟩
  have hx2 := hx1.keep hb2
  have HB2 := Lib.hid (below_next HB1.out hb2)
  clear hx1 hb2
  have HX2 := Lib.hid hx2
  obtain ⟨⟨s0, s1, s2, sf⟩, n0, n1, ⟨z0, z1, z2, zf⟩⟩ := hx2
  rcases HC.out with h1 | ⟨h1, h2⟩ | ⟨h1, h2, h3⟩ | ⟨h1, h2, h3, h4⟩
  · rw [h1]
    clear h1 HC
    go_wp2_with fail
    refine bodyPost_ret (v := .tuple #[.agg #[.int .i64 0, .int .u64 0, .int .u64 0], .slice none 0 0, .bool false]) (by simp [results, Try.results66, go_sem, z0, z1, z2]) rfl (wkOut_none ?_)
    exact below_set (below_set (below_set HB2.out _ _ (by simp; omega)) _ _ (by simp; omega)) _ _ (by simp; omega)
  · rw [h1]
    rw [h2] at HV
    clear h1 h2 HC
    go_wp2_with (go_at_call 36; refine (HV.out _ (h.at_ HB2.out)).mono ?_; rintro e w3 ⟨rfl, hb3⟩; have HX3 := Lib.hid (HX2.out.keep hb3); have HB3 := Lib.hid (below_next HB2.out hb3); clear hb3; obtain ⟨⟨t0, t1, t2, tf⟩, m0, m1, ⟨y0, y1, y2, yf⟩⟩ := HX3.out; clear s0 s1 s2 sf n0 n1 z0 z1 z2 zf)
    refine bodyPost_ret (v := .tuple #[.agg #[.int .i64 0, .int .u64 0, .int .u64 0], .slice none 0 0, .bool false]) (by simp [results, Try.results66, go_sem, y0, y1, y2]) rfl (wkOut_none ?_)
    exact below_set (below_set (below_set HB3.out _ _ (by simp; omega)) _ _ (by simp; omega)) _ _ (by simp; omega)
  · rw [h1]
    have HT := Lib.hid (HT.out (HSIDE.out h2))
    rw [h2] at HV
    rw [h3] at HT
    clear h1 h2 h3 HC
    go_wp2_with (first
      | (go_at_call 36; refine (HV.out _ (h.at_ HB2.out)).mono ?_; rintro e w3 ⟨rfl, hb3⟩; have HX3 := Lib.hid (HX2.out.keep hb3); have HB3 := Lib.hid (below_next HB2.out hb3); clear hb3; obtain ⟨⟨t0, t1, t2, tf⟩, m0, m1, ⟨y0, y1, y2, yf⟩⟩ := HX3.out; clear s0 s1 s2 sf n0 n1 z0 z1 z2 zf)
      | (go_at_call 129; refine (HT.out _).mono ?_; rintro e w4 ⟨rfl, hb4⟩; have HX4 := Lib.hid (HX3.out.keep hb4); have HB4 := Lib.hid (below_next HB3.out hb4); clear hb4; obtain ⟨⟨s0, s1, s2, sf⟩, n0, n1, ⟨z0, z1, z2, zf⟩⟩ := HX4.out; clear t0 t1 t2 tf m0 m1 y0 y1 y2 yf))
    refine bodyPost_ret (v := .tuple #[.agg #[.int .i64 0, .int .u64 0, .int .u64 0], .slice none 0 0, .bool false]) (by simp [results, Try.results66, go_sem, z0, z1, z2]) rfl (wkOut_none ?_)
    exact below_set (below_set (below_set HB4.out _ _ (by simp; omega)) _ _ (by simp; omega)) _ _ (by simp; omega)
  · rw [h1]
    have HT := Lib.hid (HT.out (HSIDE.out h2))
    rw [h2] at HV
    rw [h3] at HT
    rw [h4] at HW
    clear h1 h2 h3 h4 HC
    go_wp2_with (first
      | (go_at_call 36; refine (HV.out _ (h.at_ HB2.out)).mono ?_; rintro e w3 ⟨rfl, hb3⟩; have HX3 := Lib.hid (HX2.out.keep hb3); have HB3 := Lib.hid (below_next HB2.out hb3); clear hb3; obtain ⟨⟨t0, t1, t2, tf⟩, m0, m1, ⟨y0, y1, y2, yf⟩⟩ := HX3.out; clear s0 s1 s2 sf n0 n1 z0 z1 z2 zf)
      | (go_at_call 129; refine (HT.out _).mono ?_; rintro e w4 ⟨rfl, hb4⟩; have HX4 := Lib.hid (HX3.out.keep hb4); have HB4 := Lib.hid (below_next HB3.out hb4); clear hb4; obtain ⟨⟨s0, s1, s2, sf⟩, n0, n1, ⟨z0, z1, z2, zf⟩⟩ := HX4.out; clear t0 t1 t2 tf m0 m1 y0 y1 y2 yf)
      | (go_at_call 96; refine (HW.out _).mono ?_; rintro e w5 ⟨rfl, m5, rfl⟩))
    refine bodyPost_ret (v := .tuple #[.agg #[.int .i64 0, .int .u64 0, .int .u64 0], .slice none 0 0, .bool false]) (by simp [results, Try.results66, go_sem, z0, z1, z2]) rfl (wkOut_none ?_)
    exact below_set (below_set (below_set (below_drewN HB4.out m5) _ _ (by simp; omega)) _ _ (by simp; omega)) _ _ (by simp; omega)
theorem SdAt.farR {w w' : World} {b : Nat} {row : Option Nat} {k a c : Int} (h : SdAt w b k a c) (hg : w.grownBy w' row) (hn : some b ≠ row) : SdAt w' b k a c := by
  obtain ⟨h0, h1, h2, h3⟩ := h
  have hl : b < w.heap.size := lt_of_cell (a := ⟨b, 0, none⟩) h0
  exact ⟨(hg.cell_far ⟨b, 0, none⟩ hl hn).trans h0, (hg.cell_far ⟨b, 1, none⟩ hl hn).trans h1, (hg.cell_far ⟨b, 2, none⟩ hl hn).trans h2, fun o => (hg.frozen_far ⟨b, o, none⟩ hl hn).trans (h3 o)⟩
theorem Bx.grown {g : Nat} {k a b n : Int} {A : Option Addr} {m c : Nat} {W W' : World} {row : Option Nat} (h : Bx g k a b n A m c W) (hg : W.grownBy W' row) (hr : ∀ j, row = some j → g + 3 ≤ j) : Bx g k a b n A m c W' := by
  have hl := h.lt
  have hn : ∀ j, j ≤ g + 2 → some j ≠ row := fun j hj e => by have := hr j e.symm; omega
  exact ⟨h.1.farR hg (hn _ (by omega)), (hg.cell_far ⟨g + 1, 0, none⟩ (show g + 1 < W.heap.size by omega) (hn (g + 1) (by omega))).trans h.2.1, (hg.cell_far ⟨g + 1, 1, none⟩ (show g + 1 < W.heap.size by omega) (hn (g + 1) (by omega))).trans h.2.2.1, h.2.2.2.farR hg (hn _ (by omega))⟩
theorem own_one {w : World} {base : Nat} {e : TypeId} {x : Value} (hb : base ≤ w.heap.size) : (w.alloc (.cells #[x] e)).ownsRow base e 1 (.slice (some ⟨w.heap.size, 0, none⟩) 1 1) 1 [x] :=
  ⟨by simp, .inr ⟨w.heap.size, 1, #[x], rfl, hb, heap_alloc_new w _, Nat.le_refl _, by unfold maxLen; omega, rfl, by simp⟩⟩
/-- a walk of so many states, in memory of its own -/
def WK (w : World) (k a b : Int) (n i : Nat) (xs : List Nat) (A : Option Addr) (m c t : Nat) (v : Value) (wr : World) : Prop :=
  Bx w.heap.size k (sdT k a b t).1 (sdT k a b t).2 n A m c wr ∧ Below w.heap.size w wr ∧ ∃ A' c', v = .slice A' (t + 1) c' ∧ wr.ownsRow (w.heap.size + 3) 2 1 (.slice A' (t + 1) c') (t + 1) (il (walkL xs n k a b i (t + 1)))
theorem walkB_ok {k a b side : Int} {xs : List Nat} {i steps : Int} (h : walkB k a b side xs i steps = true) : ∃ n j N : Nat, side = n ∧ i = j ∧ steps = N ∧ 1 ≤ n ∧ n ≤ 12 ∧ j < n ∧ N ≤ 512 ∧ seedB k a b = true ∧ validB n xs = true ∧ stateB n j = true ∧ inB N 0 512 = true := by
  unfold walkB at h
  rw [Bool.and_eq_true, Bool.and_eq_true, Bool.and_eq_true] at h
  obtain ⟨h1, h2, h3, h4⟩ := h
  obtain ⟨n, rfl, n1, n2, -⟩ := validB_facts h2
  have h3' := of_decide_eq_true h3
  have h4' := of_decide_eq_true h4
  obtain ⟨j, rfl⟩ := Int.eq_ofNat_of_zero_le h3'.1
  obtain ⟨N, rfl⟩ := Int.eq_ofNat_of_zero_le h4'.1
  exact ⟨n, j, N, rfl, rfl, rfl, n1, n2, by omega, by omega, h1, h2, h3, h4⟩

set_option maxRecDepth 100000 in
set_option maxHeartbeats 3200000 in
theorem WalkChain_ok (k a b : Int) (n i N : Nat) (A : Option Addr) (xs : List Nat) (c : Nat) (w : World) (hb0 : 0 ≤ b ∧ b < 18446744073709551616) (hx : xs.length ≤ c) (hc : c ≤ 9223372036854775807) (h : Rd w w.heap.size A (fl xs)) (hok : walkB k a b n xs i N = true) :
    Calls Try.prog 66 #[.agg #[.int .i64 k, .int .u64 a, .int .u64 b], .agg #[.int .i64 n, .slice A xs.length c], .int .i64 i, .int .i64 N] w (wkOut k (sdT k a b N).1 (sdT k a b N).2 (walkL xs n k a b i (N + 1)) true w) := by
  obtain ⟨n', i', N', hn', hi', hN', n1, n2, hi, hN, h1, h2, h3, h4⟩ := walkB_ok hok
  obtain rfl : n = n' := by omega
  obtain rfl : i = i' := by omega
  obtain rfl : N = N' := by omega
  have HS := Lib.hid fun w => ValidSeed_any k a b hb0 w
  have HV := Lib.hid fun W h => ValidChain_any n A xs c W hx hc h
  have HT := Lib.hid fun W => isState_any n i A xs.length c W (by omega)
  have HW := Lib.hid fun w => within_any N 0 512 w
  rw [h1] at HS
  rw [h2] at HV
  rw [h3] at HT
  rw [h4] at HW
  obtain ⟨n', hn', -, -, hl, hp, hrw⟩ := validB_facts h2
  obtain rfl : n = n' := by omega
  have HSH : Hid (∀ t w, Calls Try.prog 130 #[.agg #[.int .i64 k, .int .u64 (sdT k a b t).1, .int .u64 (sdT k a b t).2]] w (ShareOut k (sdT k a b t).1 (sdT k a b t).2 w)) := Lib.hid fun t w => share_any k _ _ (seedB_kind h1) w
  have HGO : Hid (∀ t W, Below w.heap.size w W → Calls Try.prog 131 #[.agg #[.int .i64 n, .slice A xs.length c], .int .i64 (posT xs n k a b i t), .float .f32 (uT k a b t)] W (fun e w' => e = .returned (.int .i64 (posT xs n k a b i (t + 1))) ∧ Below W.heap.size W w')) := Lib.hid fun t W hW => goOn_any n _ _ A xs c W hx hc h2 (posT_lt hl hi t) (nU_fin _ _ _).2 (h.at_ hW)
  have HSD : Hid (∀ t, nA k (sdT k a b t).1 (sdT k a b t).2 = (sdT k a b (t + 1)).1 ∧ nB k (sdT k a b t).1 (sdT k a b t).2 = (sdT k a b (t + 1)).2 ∧ nU k (sdT k a b t).1 (sdT k a b t).2 = uT k a b t) := Lib.hid fun t => ⟨rfl, rfl, rfl⟩
  have HWL : Hid (∀ t, walkL xs n k a b i (t + 1) = walkL xs n k a b i t ++ [(posT xs n k a b i t : Int)]) := Lib.hid fun t => walkL_succ _ _ _ _ _ _ _
  have HLEN : Hid ((walkL xs n k a b i (N + 1)).length = N + 1) := Lib.hid (walkL_len _ _ _ _ _ _ _)
  have H0 : Hid ((sdT k a b 0) = (a, b) ∧ posT xs n k a b i 0 = i ∧ walkL xs n k a b i (0 + 1) = [(i : Int)]) := Lib.hid ⟨rfl, rfl, rfl⟩
  obtain ⟨i0, hi0, hz0, hz1, hz2⟩ := info_parts info_i64
  have HRD := Lib.hid h
  clear hok hn' hi' hN' h1 h2 h3 h4 hl hp hrw hb0 hx hc h
  unfold wkOut
  rw [HLEN.out]
  unfold ShareOut at HSH
  go_enter Try.func66, Try.ntmps66
  go_wp2_with fail
  generalize hW1 : World.alloc (World.alloc (World.alloc w _) _) _ = W1
  have hx1 : Bx w.heap.size k a b n A xs.length c W1 := by rw [← hW1]; simp [Bx, SdAt, go_sem]
  have HB1 : Hid (Below w.heap.size w W1) := by rw [← hW1]; exact Lib.hid (below_al (below_al (below_al (Below.refl _ _) _) _) _)
  clear hW1
  refine (HS.out _).mono ?_
  rintro e w2 ⟨rfl, hb2⟩
  have hx2 := hx1.keep hb2
  have HB2 := Lib.hid (below_next HB1.out hb2)
  clear hx1 hb2
  have HX2 := Lib.hid hx2
  obtain ⟨⟨s0, s1, s2, sf⟩, n0, n1', ⟨z0, z1, z2, zf⟩⟩ := hx2
  go_wp2_with (first
    | (go_at_call 36; refine (HV.out _ (HRD.out.at_ HB2.out)).mono ?_; rintro e w3 ⟨rfl, hb3⟩; have HX3 := Lib.hid (HX2.out.keep hb3); have HB3 := Lib.hid (below_next HB2.out hb3); clear hb3; obtain ⟨⟨t0, t1, t2, tf⟩, m0, m1, ⟨y0, y1, y2, yf⟩⟩ := HX3.out; clear s0 s1 s2 sf n0 n1' z0 z1 z2 zf)
    | (go_at_call 129; refine (HT.out _).mono ?_; rintro e w4 ⟨rfl, hb4⟩; have HX4 := Lib.hid (HX3.out.keep hb4); have HB4 := Lib.hid (below_next HB3.out hb4); clear hb4; obtain ⟨⟨s0, s1, s2, sf⟩, n0, n1', ⟨z0, z1, z2, zf⟩⟩ := HX4.out; clear t0 t1 t2 tf m0 m1 y0 y1 y2 yf)
    | (go_at_call 96; refine (HW.out _).mono ?_; rintro e w5 ⟨rfl, m5, rfl⟩))
  have hlt4 := HX4.out.lt
  have START : Hid (WK w k a b n i xs A xs.length c 0 (.slice (some ⟨(w4.drewN m5).heap.size, 0, none⟩) 1 1) ((w4.drewN m5).alloc (.cells #[.int .i64 i] 2))) := Lib.hid ⟨by rw [H0.out.1]; exact (HX4.out.dn m5).keep (below_al (Below.refl _ _) _), below_al (below_drewN HB4.out m5) _, _, _, rfl, by
    rw [H0.out.2.2]
    exact own_one (show w.heap.size + 3 ≤ w4.heap.size by omega)⟩
  clear hlt4 s0 s1 s2 sf n0 n1' z0 z1 z2 zf
  go_loopw [2, 11, 12, 36] (fun f v _ ix wr => ∃ t : Nat, t ≤ N ∧ ix = .int .i64 t ∧ f = .int .i64 (posT xs n k a b i t : Nat) ∧ WK w k a b n i xs A xs.length c t v wr) (fun _ _ _ ix _ => N - (intOf ix).toNat)
  case atStart => exact ⟨0, Nat.zero_le _, rfl, by rw [H0.out.2.1], START.out⟩
  case round =>
    obtain ⟨t, ht, rfl, rfl, hbx, hbw, A', c', rfl, hown⟩ := hrel
    rename_i wr
    have HX := Lib.hid hbx
    have HB := Lib.hid hbw
    have HO := Lib.hid hown
    obtain ⟨⟨s0, s1, s2, sf⟩, n0, n1', ⟨z0, z1, z2, zf⟩⟩ := hbx
    have hlt := HX.out.lt
    clear hbw hown
    by_cases htN : t < N
    · obtain ⟨q1, q2, q3⟩ := HSD.out t
      have hsh := HSH.out t
      rw [q1, q2, q3] at hsh
      have HSHt := Lib.hid hsh
      have HGOt := Lib.hid (HGO.out t)
      have HWLt := Lib.hid (HWL.out (t + 1))
      clear q1 q2 q3 hsh
      generalize hst : sdT k a b t = st at *
      generalize hst' : sdT k a b (t + 1) = st' at *
      have HST := Lib.hid hst'
      clear hst hst'
      obtain ⟨aT, bT⟩ := st
      obtain ⟨a', b'⟩ := st'
      generalize uT k a b t = u at *
      generalize posT xs n k a b i t = j at *
      generalize hj' : posT xs n k a b i (t + 1) = j' at *
      have HJ' := Lib.hid hj'
      clear hj'
      go_wp2_with (go_at_call 130; refine (HSHt.out _).mono ?_; rintro e w6 ⟨rfl, hb6⟩; have HX6 := Lib.hid (HX.out.keep hb6); have HB6 := Lib.hid (below_next HB.out hb6); have HO6 := Lib.hid (own_below HO.out hb6); clear hb6 s0 s1 s2 sf n0 n1' z0 z1 z2 zf; obtain ⟨⟨s0, s1, s2, sf⟩, n0, n1', ⟨z0, z1, z2, zf⟩⟩ := HX6.out)
      have hX7 := HX6.out.set k a' b'
      have hB7 := below_set (below_set (below_set HB6.out ⟨w.heap.size, 0, none⟩ (.int .i64 k) (Nat.le_refl _)) ⟨w.heap.size, 1, none⟩ (.int .u64 a') (Nat.le_refl _)) ⟨w.heap.size, 2, none⟩ (.int .u64 b') (Nat.le_refl _)
      have hO7 := ownsRow_setCell_below (ownsRow_setCell_below (ownsRow_setCell_below HO6.out (a := ⟨w.heap.size, 0, none⟩) (show w.heap.size < w.heap.size + 3 by omega) (.int .i64 k)) (a := ⟨w.heap.size, 1, none⟩) (show w.heap.size < w.heap.size + 3 by omega) (.int .u64 a')) (a := ⟨w.heap.size, 2, none⟩) (show w.heap.size < w.heap.size + 3 by omega) (.int .u64 b')
      generalize World.setCell (World.setCell (World.setCell _ _ _) _ _) _ _ = W7 at hX7 hB7 hO7 ⊢
      refine (HGOt.out W7 hB7).mono ?_
      rintro e w8 ⟨rfl, hb8⟩
      have HX8 := Lib.hid (hX7.keep hb8)
      have HB8 := Lib.hid (below_next hB7 hb8)
      have HO8 := Lib.hid (own_below hO7 hb8)
      have hl8 := HX8.out.lt
      clear hX7 hB7 hO7 hb8 s0 s1 s2 sf n0 n1' z0 z1 z2 zf HX6 HB6 HO6 hlt
      go_wp2_with (refine wpList_append_lies _ rfl _ _ _ rfl (w.heap.size + 3) 2 i0 _ 1 8 Try.underlying56 hi0 hz0 hz1 hz2 rfl (by omega) (.slice A' (t + 1) c') (t + 1) (il (walkL xs n k a b i (t + 1))) (by rfl) (HO8.out.alloc _) ⟨w8.heap.size, 0, none⟩ 1 1 [.int .i64 j'] (by rfl) (by rfl) (World.news_of_block (cs := #[.int .i64 j']) (t := 2) (fr := (0, 0)) (heap_alloc_new w8 _)) (by simp [Value.oneCell']) (by omega) (by unfold maxLen; omega) (by omega) (by simp; omega) (w8.heap.size + 1) (by simp) ?_; intro g cap w9 hown9 hgrow hat hlt9; have HX9 := Lib.hid ((HX8.out.keep (below_al (Below.refl _ _) (.cells #[.int .i64 j'] 2))).grown hgrow (fun q hq => (HO8.out.lt q hq).1)); have HB9 := Lib.hid ((below_al HB8.out (.cells #[.int .i64 j'] 2)).grown hgrow (by have := HB8.out.size; simp; omega) (fun q hq => by have := (HO8.out.lt q hq).1; omega)); have HO9 := Lib.hid hown9; clear hown9 hgrow hat hlt9)
      go_roundw
      case rel => exact ⟨t + 1, by omega, by go_num, by rw [HJ'.out], by rw [HST.out]; exact HX9.out, HB9.out, _, _, rfl, by rw [HWLt.out]; simpa [il] using HO9.out⟩
      case measure => simp [intOf]; omega
    · obtain rfl : t = N := by omega
      generalize hst : sdT k a b t = st at *
      have HST := Lib.hid hst
      clear hst
      obtain ⟨aT, bT⟩ := st
      go_wp2_with fail
      have hX7 := (HX.out.2.2.2).set k aT bT
      have hB7 := below_set (below_set (below_set HB.out ⟨w.heap.size + 1 + 1, 0, none⟩ (.int .i64 k) (by simp; omega)) ⟨w.heap.size + 1 + 1, 1, none⟩ (.int .u64 aT) (by simp; omega)) ⟨w.heap.size + 1 + 1, 2, none⟩ (.int .u64 bT) (by simp; omega)
      have hO7 := ownsRow_setCell_below (ownsRow_setCell_below (ownsRow_setCell_below HO.out (a := ⟨w.heap.size + 1 + 1, 0, none⟩) (show w.heap.size + 1 + 1 < w.heap.size + 3 by omega) (.int .i64 k)) (a := ⟨w.heap.size + 1 + 1, 1, none⟩) (show w.heap.size + 1 + 1 < w.heap.size + 3 by omega) (.int .u64 aT)) (a := ⟨w.heap.size + 1 + 1, 2, none⟩) (show w.heap.size + 1 + 1 < w.heap.size + 3 by omega) (.int .u64 bT)
      generalize World.setCell (World.setCell (World.setCell _ _ _) _ _) _ _ = W7 at hX7 hB7 hO7 ⊢
      clear s0 s1 s2 sf n0 n1' z0 z1 z2 zf
      obtain ⟨y0, y1, y2, -⟩ := hX7
      refine bodyPost_ret (v := .tuple #[.agg #[.int .i64 k, .int .u64 aT, .int .u64 bT], .slice A' (t + 1) c', .bool true]) (by simp [results, Try.results66, go_sem, y0, y1, y2]) rfl ⟨A', c', by rw [HST.out], own_base hO7 (by omega), hB7⟩
end Go.Proofs.Ytddaodjaeommlaa
