/-
  spec.WeighChain.
-/
import Derived.Test.YtnnnpdendnjkhaaWe4
import Derived.Test.YtnnnpdendnjkhaaRin2
import Derived.Test.YtnnnpdendnjkhaaRin3
import Derived.BigRegion
import Derived.Deep.DeepCutAuto
namespace Go.Proofs.Ytnnnpdendnjkhaa
open Go Go.RowKit Ieee
attribute [local go_sem] run_store_float

/-- the row that is filled, with the chain's box behind it -/
def RW (W0 : World) (G n N : Nat) (g : Nat → Nat) (wr : World) : Prop :=
  Below (G + 1) W0 wr ∧ wr.cell? ⟨G + 2, 0, none⟩ = some (.int .i64 n) ∧ wr.cell? ⟨G + 2, 1, none⟩ = some (.slice (some ⟨G + 1, 0, none⟩) N N) ∧ wr.rowIs (G + 1) 42 N (fun p => .float .f32 (g p))
def setG (g : Nat → Nat) (q v : Nat) : Nat → Nat := fun p => if p = q then v else g p
theorem RW.set {W0 wr : World} {G n N : Nat} {g : Nat → Nat} (h : RW W0 G n N g wr) (q v : Nat) : RW W0 G n N (setG g q v) (wr.setCell ⟨G + 1, q, none⟩ (.float .f32 v)) := by
  obtain ⟨h1, h2, h3, h4⟩ := h
  obtain ⟨y1, y2, y3, y4⟩ := RS_set h1 h2 h3 h4 q (.float .f32 v)
  exact ⟨y1, y2, y3, y4.congr fun p _ => by unfold setG; split <;> rfl⟩
theorem RW.drewN {W0 wr : World} {G n N : Nat} {g : Nat → Nat} (h : RW W0 G n N g wr) (m : Nat) : RW W0 G n N g (wr.drewN m) := ⟨below_drewN h.1 m, h.2.1, h.2.2.1, h.2.2.2⟩
def rowsV (xs ws : List Nat) (n i : Nat) (g : Nat → Nat) : Prop := ∀ a b, a < i → b < n → weighV xs ws n a b (g (a * n + b))
def cellsV (xs ws : List Nat) (n i k : Nat) (g : Nat → Nat) : Prop := ∀ b, b < k → b ≠ i → offV xs ws n i b (g (i * n + b))
def restZ (q : Nat) (g : Nat → Nat) : Prop := ∀ p, q ≤ p → g p = 0
theorem before_row {n i a b q : Nat} (ha : a < i) (hb : b < n) (hq : i * n ≤ q) : a * n + b ≠ q := by
  have : (a + 1) * n ≤ i * n := Nat.mul_le_mul_right n ha
  rw [Nat.add_mul, Nat.one_mul] at this
  omega
theorem rowsV_set {xs ws : List Nat} {n i q v : Nat} {g : Nat → Nat} (h : rowsV xs ws n i g) (hq : i * n ≤ q) : rowsV xs ws n i (setG g q v) := by
  intro a b ha hb
  unfold setG
  rw [if_neg (before_row ha hb hq)]
  exact h a b ha hb
theorem cellsV_zero (xs ws : List Nat) (n i : Nat) (g : Nat → Nat) : cellsV xs ws n i 0 g := fun _ h => absurd h (by omega)
theorem cellsV_set {xs ws : List Nat} {n i k v : Nat} {g : Nat → Nat} (h : cellsV xs ws n i k g) (hv : offV xs ws n i k v) : cellsV xs ws n i (k + 1) (setG g (i * n + k) v) := by
  intro b hb hbi
  unfold setG
  by_cases hk : b = k
  · rw [if_pos (by rw [hk]), hk]
    exact hv
  · rw [if_neg (by omega)]
    exact h b (by omega) hbi
theorem cellsV_own {xs ws : List Nat} {n i : Nat} {g : Nat → Nat} (h : cellsV xs ws n i i g) : cellsV xs ws n i (i + 1) g := fun b hb hbi => h b (by omega) hbi
theorem cellsV_none {xs ws : List Nat} {n i k : Nat} {g : Nat → Nat} (h : cellsV xs ws n i k g) (hz : zB xs n i k = true) (hg : restZ (i * n + k) g) : cellsV xs ws n i (k + 1) g := by
  intro b hb hbi
  by_cases hk : b = k
  · rw [hk, hg _ (Nat.le_refl _)]
    exact (offV_zero hz).2 rfl
  · exact h b (by omega) hbi
theorem restZ_set {q v : Nat} {g : Nat → Nat} (h : restZ q g) : restZ (q + 1) (setG g q v) := by
  intro p hp
  unfold setG
  rw [if_neg (by omega)]
  exact h p (by omega)
theorem restZ_next {q r : Nat} {g : Nat → Nat} (h : restZ q g) (hr : q ≤ r) : restZ r g := fun p hp => h p (by omega)
theorem row_close {xs ws : List Nat} {n i v : Nat} {g : Nat → Nat} (hr : rowsV xs ws n i g) (hc : cellsV xs ws n i n g) (hv : noNan xs ws n → v = diagF xs ws n i) : rowsV xs ws n (i + 1) (setG g (i * n + i) v) := by
  intro a b ha hb
  rcases Nat.lt_or_ge a i with h | h
  · exact rowsV_set hr (Nat.le_add_right _ _) a b h hb
  · obtain rfl : a = i := by omega
    unfold setG weighV
    by_cases hab : a = b
    · subst hab
      rw [if_pos rfl, if_pos rfl]
      exact hv
    · rw [if_neg hab, if_neg (by omega)]
      exact hc b hb (fun h => hab h.symm)
section
variable {P : Program}
theorem run_float_fr (op : BinOp) (hop : op = .add ∨ op = .sub ∨ op = .mul ∨ op = .quo) (t : TypeId) (k : FloatKind) (x y : Nat) (w : World) : ∃ r m, ((∀ v, floatBits op k x y = some v → r = v) ∧ (floatBits op k x y = none → isNan k.format r = true)) ∧ (binOp op t (.float k x) (.float k y)).run P w = .ok (.float k r) (w.drewN m) := by
  cases h : floatBits op k x y with
  | none => exact ⟨_, 1, ⟨fun v hv => (by simp at hv), fun _ => nanDraw_bits k x y w⟩, run_float_nan w op hop t k x y h⟩
  | some r =>
    refine ⟨r, 0, ⟨fun v hv => Option.some.inj hv, fun hv => (by simp at hv)⟩, ?_⟩
    unfold floatBits at h
    rcases hop with rfl | rfl | rfl | rfl <;> simp only at h <;> simp [binOp, Op.floatArith, h] <;> rfl
theorem wpList_float_fr (w : World) {ops : Array Oper} {rest : List Oper} {o : Oper} {a : Act} {Q : Exit → Act → World → Prop}
    (hg : o.guard = none) (op : BinOp) (hop : op = .add ∨ op = .sub ∨ op = .mul ∨ op = .quo) (t tt : TypeId) (x y : Operand) (ho : o.op = .binOp op t x y tt) (k : FloatKind) (b1 b2 : Nat) (hx : a.eval x = .float k b1) (hy : a.eval y = .float k b2)
    (hK : ∀ r m, (∀ v, floatBits op k b1 b2 = some v → r = v) ∧ (floatBits op k b1 b2 = none → isNan k.format r = true) → wpList P ops Q rest (a.put o.dst (.float k r)) (w.drewN m)) : wpList P ops Q (o :: rest) a w := by
  refine wpList_plain hg fun K hK' => ?_
  obtain ⟨r, m, hv, hrun⟩ := run_float_fr (P := P) op hop t k b1 b2 w
  have hK2 := hK' _ _ (hK r m hv)
  unfold Oper.wp
  rcases hop with rfl | rfl | rfl | rfl <;> simp [execOp, ho, hx, hy, hrun, eqGuard] <;> exact hK2
end
/-- a row that is being filled -/
def INN (W1 : World) (G n N : Nat) (xs ws : List Nat) (i : Nat) (v j : Value) (wr : World) : Prop :=
  ∃ (k s : Nat) (g : Nat → Nat), k ≤ n ∧ j = .int .i64 k ∧ v = .float .f32 s ∧ (noNan xs ws n → s = sumF xs ws n i k) ∧ RW W1 G n N g wr ∧ rowsV xs ws n i g ∧ cellsV xs ws n i k g ∧ restZ (i * n + k) g
theorem INN.step {W1 W : World} {G n N i k s v : Nat} {xs ws : List Nat} {g : Nat → Nat} (hk : k < n) (hr : rowsV xs ws n i g) (hc : cellsV xs ws n i k g) (hz : restZ (i * n + k) g) (hv : offV xs ws n i k v) (hs : noNan xs ws n → s = sumF xs ws n i (k + 1)) (h : RW W1 G n N (setG g (i * n + k) v) W) :
    INN W1 G n N xs ws i (.float .f32 s) (.int .i64 ((k : Int) + 1)) W := ⟨k + 1, s, _, hk, rfl, rfl, hs, h, rowsV_set hr (Nat.le_add_right _ _), cellsV_set hc hv, restZ_set hz⟩
theorem INN.own {W1 W : World} {G n N i s : Nat} {xs ws : List Nat} {g : Nat → Nat} (hk : i < n) (hr : rowsV xs ws n i g) (hc : cellsV xs ws n i i g) (hz : restZ (i * n + i) g) (hs : noNan xs ws n → s = sumF xs ws n i i) (h : RW W1 G n N g W) :
    INN W1 G n N xs ws i (.float .f32 s) (.int .i64 ((i : Int) + 1)) W := ⟨i + 1, s, g, hk, rfl, rfl, fun hN => (hs hN).trans (if_pos rfl : sumF xs ws n i (i + 1) = _).symm, h, hr, cellsV_own hc, restZ_next hz (by omega)⟩
theorem INN.none {W1 W : World} {G n N i k s : Nat} {xs ws : List Nat} {g : Nat → Nat} (hk : k < n) (hr : rowsV xs ws n i g) (hc : cellsV xs ws n i k g) (hz : restZ (i * n + k) g) (h0 : zB xs n i k = true) (hs : noNan xs ws n → s = sumF xs ws n i (k + 1)) (h : RW W1 G n N g W) :
    INN W1 G n N xs ws i (.float .f32 s) (.int .i64 ((k : Int) + 1)) W := ⟨k + 1, s, g, hk, rfl, rfl, hs, h, hr, cellsV_none hc h0 hz, restZ_next hz (by omega)⟩
theorem row_list {n : Nat} (g : Nat → Nat) : (List.range (n * n)).map (fun p => Value.float .f32 (g p)) = fl (tab n fun a b => g (a * n + b)) := by
  unfold fl tab tabTo
  rw [List.map_map]
  refine List.map_congr_left fun p _ => ?_
  show _ = Value.float .f32 (g (p / n * n + p % n))
  rw [Nat.mul_comm, Nat.div_add_mod]

set_option maxRecDepth 100000 in
set_option maxHeartbeats 1600000 in
theorem specWeighChain_bad (side : Int) (A : Option Addr) (xs : List Nat) (c : Nat) (B : Option Addr) (row : List Nat) (d : Nat) (w : World) (hx : xs.length ≤ 9223372036854775807) (hr : row.length ≤ 9223372036854775807) (hA : Rd w w.heap.size A (fl xs)) (hB : Rd w w.heap.size B (fl row)) (hb : bkB side xs row = false) :
    Calls Try.prog 17 #[.agg #[.int .i64 side, .slice A xs.length c], .slice B row.length d] w (chOut 0 [] false w) := by
  have HF := Lib.hid fun b W h0 h1 h h' => l07Fits_any b side A xs c B row d W hx hr h0 h1 h h'
  have HP := Lib.hid fun W h => l07Above_any B row d W hr h
  unfold bkB at hb
  cases hf : fitB side xs row with
  | false =>
    rw [hf] at HF
    clear hb hf HP
    go_enter Try.func17, Try.ntmps17
    go_wp2_with fail
    generalize hW1 : World.alloc (World.alloc w _) _ = W1
    have c0 : W1.cell? ⟨w.heap.size, 0, none⟩ = some (.int .i64 side) := by rw [← hW1]; simp [go_sem]
    have c1 : W1.cell? ⟨w.heap.size, 1, none⟩ = some (.slice A xs.length c) := by rw [← hW1]; simp [go_sem]
    have c4 : W1.cell? ⟨w.heap.size + 1, 0, none⟩ = some (.int .i64 0) := by rw [← hW1]; simp [go_sem]
    have c5 : W1.cell? ⟨w.heap.size + 1, 1, none⟩ = some (.slice none 0 0) := by rw [← hW1]; simp [go_sem]
    have cf : ∀ o, W1.frozen? ⟨w.heap.size + 1, o, none⟩ = false := fun o => by rw [← hW1]; simp [go_sem]
    have cs : w.heap.size + 1 < W1.heap.size := by rw [← hW1]; simp
    have HB1 : Hid (Below w.heap.size w W1) := by rw [← hW1]; exact Lib.hid (below_al (below_al (Below.refl _ _) _) _)
    clear hW1
    refine (HF.out _ W1 c0 c1 (hA.at_ HB1.out) (hB.at_ HB1.out)).mono ?_
    rintro e w2 ⟨rfl, m2, rfl⟩
    go_wp2_with fail
    refine bodyPost_ret (v := .tuple #[.agg #[.int .i64 0, .slice none 0 0], .bool false]) (by simp [results, Try.results17, go_sem, c4, c5]) rfl (chOut_none rfl ?_)
    exact ((below_drewN HB1.out _).setCell (by simp) _).setCell (by simp) _
  | true =>
    rw [hf, Bool.true_and] at hb
    rw [hf] at HF
    rw [hb] at HP
    clear hb hf
    go_enter Try.func17, Try.ntmps17
    go_wp2_with fail
    generalize hW1 : World.alloc (World.alloc w _) _ = W1
    have c0 : W1.cell? ⟨w.heap.size, 0, none⟩ = some (.int .i64 side) := by rw [← hW1]; simp [go_sem]
    have c1 : W1.cell? ⟨w.heap.size, 1, none⟩ = some (.slice A xs.length c) := by rw [← hW1]; simp [go_sem]
    have c4 : W1.cell? ⟨w.heap.size + 1, 0, none⟩ = some (.int .i64 0) := by rw [← hW1]; simp [go_sem]
    have c5 : W1.cell? ⟨w.heap.size + 1, 1, none⟩ = some (.slice none 0 0) := by rw [← hW1]; simp [go_sem]
    have cf : ∀ o, W1.frozen? ⟨w.heap.size + 1, o, none⟩ = false := fun o => by rw [← hW1]; simp [go_sem]
    have cs : w.heap.size + 1 < W1.heap.size := by rw [← hW1]; simp
    have HB1 : Hid (Below w.heap.size w W1) := by rw [← hW1]; exact Lib.hid (below_al (below_al (Below.refl _ _) _) _)
    clear hW1
    refine (HF.out _ W1 c0 c1 (hA.at_ HB1.out) (hB.at_ HB1.out)).mono ?_
    rintro e w2 ⟨rfl, m2, rfl⟩
    go_wp2_with (go_at_call 36; refine (HP.out _ ((hB.at_ HB1.out).drewN m2)).mono ?_; rintro e w3 ⟨rfl, m3, rfl⟩)
    refine bodyPost_ret (v := .tuple #[.agg #[.int .i64 0, .slice none 0 0], .bool false]) (by simp [results, Try.results17, go_sem, c4, c5]) rfl (chOut_none rfl ?_)
    exact ((below_drewN HB1.out _).setCell (by simp) _).setCell (by simp) _

set_option maxRecDepth 100000 in
set_option maxHeartbeats 6400000 in
theorem specWeighChain_ok (n : Nat) (A : Option Addr) (xs : List Nat) (c : Nat) (B : Option Addr) (ws : List Nat) (d : Nat) (w : World) (hx : xs.length ≤ 9223372036854775807) (hA : Rd w w.heap.size A (fl xs)) (hB : Rd w w.heap.size B (fl ws)) (hb : bkB n xs ws = true) :
    Calls Try.prog 17 #[.agg #[.int .i64 n, .slice A xs.length c], .slice B ws.length d] w (chGive n (tab n (weighF xs ws n)) w) := by
  unfold bkB at hb
  rw [Bool.and_eq_true] at hb
  obtain ⟨hf, hab⟩ := hb
  obtain ⟨n', hn', hn1, hn2, hl, hp, hrl, hrw, hv, hw⟩ := fitB_facts hf
  obtain rfl : n = n' := by omega
  have HF := Lib.hid fun b W h0 h1 h h' => l07Fits_any b n A xs c B ws d W hx (by omega) h0 h1 h h'
  have HP := Lib.hid fun W h => l07Above_any B ws d W (by omega) h
  rw [hf] at HF
  rw [hab] at HP
  have hnn : n * n ≤ 144 := Nat.mul_le_mul hn2 hn2
  have HG : Hid (∀ (g : Nat → Nat → Nat) W A' c', Rd W W.heap.size A' (fl (tab n g)) → Calls Try.prog 37 #[.agg #[.int .i64 n, .slice A' (n * n) c']] W (fun e w' => (e = .returned (.tuple #[if validB n (tab n g) = true then .agg #[.int .i64 n, .slice A' (n * n) c'] else .agg #[.int .i64 0, .slice none 0 0], .bool (validB n (tab n g))])) ∧ Below W.heap.size W w')) := Lib.hid fun g W A' c' hR => by
    have h := l07Give_any n A' (tab n g) c' W (by rw [tab_len]; omega) hR
    rw [tab_len] at h
    exact h
  have HIX : Hid (∀ i k, i < n → k < n → i * n + k < n * n) := Lib.hid fun i k hi hk => idx_lt hi hk
  have HWR := Lib.hid fun i k (hi : i < n) (hk : k < n) hz => w_runs hl hp hrl hrw hab hi hk hz
  have HOM := Lib.hid fun i k q (hi : i < n) (hk : k < n) h1 h2 => own_mul (q := q) hl hp hi hk h1 h2
  have HEQ : Hid (∀ i k, i < n → k < n → (FloatKind.f32.format.order (stepOf xs n i k) 0 == some .eq) = zB xs n i k) := Lib.hid fun i k hi hk => by
    have := eq_key (f := single) (by decide) (part_key (stepOf_part hl hp hi hk)).1 zero_notNan
    rw [key_zero] at this
    exact this
  have HSK := Lib.hid fun hN i j (hi : i < n) (hj : j < n) hz => sum_skip hn2 hl hp hrl hrw hab hN hi hj hz
  have HSS : Hid (∀ i j o, noNan xs ws n → i < n → j < n → j ≠ i → offV xs ws n i j o → floatBits .add .f32 (sumF xs ws n i j) o = some (sumF xs ws n i (j + 1))) := Lib.hid fun i j o hN hi hj hji ho => by
    rw [offV_eq hN hi hj (fun h => hji h.symm) ho]
    exact sum_step hn2 hl hp hrl hrw hab hN hi hj hji
  have HSO : Hid (∀ i, sumF xs ws n i (i + 1) = sumF xs ws n i i) := Lib.hid fun i => if_pos rfl
  have HS0 : Hid (∀ i, sumF xs ws n i 0 = 0) := Lib.hid fun i => rfl
  have HRE : Hid (∀ i s r, i < n → noNan xs ws n → s = sumF xs ws n i n → (∀ v, floatBits .sub .f32 1065353216 s = some v → r = v) → ((FloatKind.f32.format.order r 0 == some .lt) = true → 0 = diagF xs ws n i) ∧ ((FloatKind.f32.format.order r 0 == some .lt) = false → r = diagF xs ws n i)) := Lib.hid fun i s r hi hN hs hv => by
    obtain ⟨g1, g2⟩ := rest_run hn2 hl hp hrl hrw hab hN hi
    rw [← hs] at g1
    obtain rfl := hv _ g1
    rw [g2]
    unfold diagF
    constructor
    · intro h
      rw [if_pos (of_decide_eq_true h)]
    · intro h
      rw [if_neg (of_decide_eq_false h)]
  obtain ⟨b2, o2, rfl, hb2, hc2⟩ := hB (by rw [fl_len]; omega)
  obtain ⟨b1, o1, rfl, hb1, hc1⟩ := hA (by rw [fl_len, hl]; exact Nat.mul_pos (by omega) (by omega))
  have HRC : Hid (∀ i, i < n → w.cell? ⟨b2, o2 + i, none⟩ = some (.float .f32 (rowOf ws i))) := Lib.hid fun i hi => rowOf_cell (by omega) hc2
  have HXC : Hid (∀ i k, i < n → k < n → w.cell? ⟨b1, o1 + (i * n + k), none⟩ = some (.float .f32 (stepOf xs n i k))) := Lib.hid fun i k hi hk => stepOf_cell hl hi hk hc1
  obtain ⟨i0, hi0, hz0, hz1, hz2⟩ := info_parts info_f32
  have hmk := run_make_row (P := Try.prog) 22 42 i0 (.float .f32 0) Try.underlying22 hi0 hz0 hz1 rfl .i64 .i64 (n * n) (by rw [hz2]; omega) (by omega)
  have wn : IntKind.i64.wrap ((n : Int) * (n : Int)) = ((n * n : Nat) : Int) := by rw [show (n : Int) * (n : Int) = ((n * n : Nat) : Int) by push_cast; rfl]; exact IntWalk.i64_in _ (by omega)
  have HA := Lib.hid hA
  have HB := Lib.hid hB
  have hxl : n * n ≤ xs.length := by omega
  have HL := Lib.hid hl
  have HLI : Hid (∀ g : Nat → Nat, (List.range (n * n)).map (fun p => Value.float .f32 (g p)) = fl (tab n fun a b => g (a * n + b))) := Lib.hid fun g => row_list g
  have HTL : Hid (∀ f, (tab n f).length = n * n) := Lib.hid fun f => tab_len n f
  rw [hrl] at HF HP ⊢
  clear hf hab hp hl hrl hrw hv hw hx hn' hc1 hc2 hA hB hi0 hz0 hz1 hz2
  generalize hNN : n * n = N at *
  clear hNN
  go_enter Try.func17, Try.ntmps17
  go_wp2_with fail
  generalize hW0 : World.alloc (World.alloc w _) _ = W0
  have a0 : W0.cell? ⟨w.heap.size, 0, none⟩ = some (.int .i64 n) := by rw [← hW0]; simp [go_sem]
  have a1 : W0.cell? ⟨w.heap.size, 1, none⟩ = some (.slice (some ⟨b1, o1, none⟩) xs.length c) := by rw [← hW0]; simp [go_sem]
  have a4 : W0.cell? ⟨w.heap.size + 1, 0, none⟩ = some (.int .i64 0) := by rw [← hW0]; simp [go_sem]
  have a5 : W0.cell? ⟨w.heap.size + 1, 1, none⟩ = some (.slice none 0 0) := by rw [← hW0]; simp [go_sem]
  have af : ∀ o, W0.frozen? ⟨w.heap.size + 1, o, none⟩ = false := fun o => by rw [← hW0]; simp [go_sem]
  have s0 : W0.heap.size = w.heap.size + 1 + 1 := by rw [← hW0]; simp
  have HB0 : Hid (Below w.heap.size w W0) := by rw [← hW0]; exact Lib.hid (below_al (below_al (Below.refl _ _) _) _)
  clear hW0
  refine (HF.out _ W0 a0 a1 (HA.out.at_ HB0.out) (HB.out.at_ HB0.out)).mono ?_
  rintro e w1 ⟨rfl, m1, rfl⟩
  go_wp2_with (go_at_call 36; refine (HP.out _ ((HB.out.at_ HB0.out).drewN m1)).mono ?_; rintro e w2 ⟨rfl, m2, rfl⟩)
  generalize hW1 : World.alloc (World.alloc (World.drewN _ _) _) _ = W1
  have hK : Below W0.heap.size W0 W1 := by rw [← hW1]; exact below_al (below_al (below_drewN (Below.refl _ _) _) _) _
  have k0 : W1.cell? ⟨w.heap.size + 1, 0, none⟩ = some (.int .i64 0) := keepC hK a4
  have k1 : W1.cell? ⟨w.heap.size + 1, 1, none⟩ = some (.slice none 0 0) := keepC hK a5
  have kf : ∀ o, W1.frozen? ⟨w.heap.size + 1, o, none⟩ = false := fun o => (hK.frozen (p := ⟨_, o, none⟩) (by show w.heap.size + 1 < W0.heap.size; omega)).trans (af o)
  have j0 : W1.cell? ⟨w.heap.size, 0, none⟩ = some (.int .i64 n) := keepC hK a0
  have j1 : W1.cell? ⟨w.heap.size, 1, none⟩ = some (.slice (some ⟨b1, o1, none⟩) xs.length c) := keepC hK a1
  have c0 : W1.cell? ⟨w.heap.size + 1 + 2, 0, none⟩ = some (.int .i64 n) := by rw [← hW1]; simp [go_sem, s0]
  have c1 : W1.cell? ⟨w.heap.size + 1 + 2, 1, none⟩ = some (.slice (some ⟨w.heap.size + 1 + 1, 0, none⟩) N N) := by rw [← hW1]; simp [go_sem, s0]
  have hrw0 : W1.rowIs (w.heap.size + 1 + 1) 42 N (fun _ => .float .f32 0) := by rw [← hW1]; exact row_made _ _ (by simp [s0]) _ _ _ _
  have s1 : W1.heap.size = w.heap.size + 1 + 3 := by rw [← hW1]; simp; omega
  have hB1 : Below w.heap.size w W1 := below_next HB0.out hK
  have START : Hid (RW W1 (w.heap.size + 1) n N (fun _ => 0) W1) := Lib.hid ⟨Below.refl _ _, c0, c1, hrw0⟩
  have HRA : Hid (∀ i k, i < n → k < n → W1.cell? ⟨b1, o1 + (i * n + k), none⟩ = some (.float .f32 (stepOf xs n i k))) := Lib.hid fun i k hi hk => (hB1.cell (p := ⟨b1, _, none⟩) hb1).trans (HXC.out i k hi hk)
  have HRB : Hid (∀ i, i < n → W1.cell? ⟨b2, o2 + i, none⟩ = some (.float .f32 (rowOf ws i))) := Lib.hid fun i hi => (hB1.cell (p := ⟨b2, _, none⟩) hb2).trans (HRC.out i hi)
  have K0 := Lib.hid k0
  have K1 := Lib.hid k1
  have KF := Lib.hid kf
  have J0 := Lib.hid j0
  have J1 := Lib.hid j1
  have HB1 := Lib.hid hB1
  have S1 := Lib.hid s1
  clear hW1 k0 k1 kf j0 j1 c0 c1 s1 hB1 hK a0 a1 a4 a5 af s0 HF HP HRC HXC hrw0 hmk wn
  go_loopw [8] (fun i wr => ∃ (k : Nat) (g : Nat → Nat), k ≤ n ∧ i = .int .i64 k ∧ RW W1 (w.heap.size + 1) n N g wr ∧ rowsV xs ws n k g ∧ restZ (k * n) g) (fun i _ => n - (intOf i).toNat)
  case atStart => exact ⟨0, fun _ => 0, Nat.zero_le _, rfl, START.out, fun a b ha => absurd ha (by omega), fun _ _ => rfl⟩
  case round =>
    obtain ⟨i, g, hi, rfl, hrwg, hrows, hrest⟩ := hrel
    have HROWS := Lib.hid hrows
    have HREST := Lib.hid hrest
    have HRWG := Lib.hid hrwg
    clear hrows hrest hrwg
    by_cases hlt : i < n
    · have HIN0 : Hid (∀ W, RW W1 (w.heap.size + 1) n N g W → INN W1 (w.heap.size + 1) n N xs ws i (.float .f32 0) (.int .i64 0) W) := Lib.hid fun W hW => ⟨0, 0, g, Nat.zero_le _, rfl, rfl, fun _ => (HS0.out i).symm, hW, HROWS.out, cellsV_zero _ _ _ _ _, HREST.out⟩
      go_wp2_with fail
      go_loopw [9, 10] (fun v j wr => INN W1 (w.heap.size + 1) n N xs ws i v j wr) (fun _ j _ => n - (intOf j).toNat)
      case atStart => exact HIN0.out _ HRWG.out
      case round =>
        clear HIN0 HROWS HREST HRWG g
        obtain ⟨k, s, g, hk, rfl, rfl, hs, hrwg, hrows, hcells, hrest⟩ := hrel
        rename World => wr
        have HS := Lib.hid hs
        have HRW := Lib.hid hrwg
        have HROWS := Lib.hid hrows
        have HCELLS := Lib.hid hcells
        have HREST := Lib.hid hrest
        obtain ⟨hbw, d0, d1, hrow⟩ := hrwg
        clear hs hrows hcells hrest
        by_cases hkt : k < n
        · have p1 := HIX.out i k hlt hkt
          have p2 := HIX.out k i hkt hlt
          have b0' : wr.cell? ⟨w.heap.size, 1, none⟩ = some (.slice (some ⟨b1, o1, none⟩) xs.length c) := (hbw.cell (show w.heap.size < w.heap.size + 1 + 1 by omega)).trans J1.out
          have x0 : wr.cell? ⟨b1, o1 + (i * n + k), none⟩ = some (.float .f32 (stepOf xs n i k)) := (hbw.cell (p := ⟨b1, _, none⟩) (show b1 < w.heap.size + 1 + 1 by omega)).trans (HRA.out i k hlt hkt)
          have x1 : wr.cell? ⟨b1, o1 + (k * n + i), none⟩ = some (.float .f32 (stepOf xs n k i)) := (hbw.cell (p := ⟨b1, _, none⟩) (show b1 < w.heap.size + 1 + 1 by omega)).trans (HRA.out k i hkt hlt)
          have x2 : wr.cell? ⟨b2, o2 + k, none⟩ = some (.float .f32 (rowOf ws k)) := (hbw.cell (p := ⟨b2, _, none⟩) (show b2 < w.heap.size + 1 + 1 by omega)).trans (HRB.out k hkt)
          have x3 : wr.cell? ⟨b2, o2 + i, none⟩ = some (.float .f32 (rowOf ws i)) := (hbw.cell (p := ⟨b2, _, none⟩) (show b2 < w.heap.size + 1 + 1 by omega)).trans (HRB.out i hlt)
          have hcl := hrow.cell p1
          have hfz := hrow.frozen (i * n + k)
          have wq : IntKind.i64.wrap ((i : Int) * (n : Int)) = ((i * n : Nat) : Int) := by rw [show (i : Int) * (n : Int) = ((i * n : Nat) : Int) by push_cast; rfl]; exact IntWalk.i64_in _ (by omega)
          have wk : IntKind.i64.wrap ((k : Int) * (n : Int)) = ((k * n : Nat) : Int) := by rw [show (k : Int) * (n : Int) = ((k * n : Nat) : Int) by push_cast; rfl]; exact IntWalk.i64_in _ (by omega)
          have v1 : IntKind.i64.wrap (((i * n : Nat) : Int) + (k : Int)) = ((i * n + k : Nat) : Int) := by rw [show ((i * n : Nat) : Int) + (k : Int) = ((i * n + k : Nat) : Int) by push_cast; rfl]; exact IntWalk.i64_in _ (by omega)
          have v2 : IntKind.i64.wrap (((k * n : Nat) : Int) + (i : Int)) = ((k * n + i : Nat) : Int) := by rw [show ((k * n : Nat) : Int) + (i : Int) = ((k * n + i : Nat) : Int) by push_cast; rfl]; exact IntWalk.i64_in _ (by omega)
          have heq := HEQ.out i k hlt hkt
          clear hbw hrow
          by_cases hki : k = i
          · subst hki
            have HREL : Hid (∀ W, RW W1 (w.heap.size + 1) n N g W → INN W1 (w.heap.size + 1) n N xs ws k (.float .f32 s) (.int .i64 ((k : Int) + 1)) W) := Lib.hid fun W hW => INN.own hkt HROWS.out HCELLS.out HREST.out HS.out hW
            clear x1 x2 x3 hcl hfz wk v2 p2
            generalize k * n = qi at *
            generalize qi + k = p at *
            generalize stepOf xs n k k = own at *
            go_wp2_with fail
            go_roundw
            case rel => exact HREL.out _ (by first | exact HRW.out | exact HRW.out.drewN _)
            case measure => simp [intOf]; omega
          · have hne : ((k : Int) == (i : Int)) = false := by rw [Bool.eq_false_iff, ne_eq, beq_iff_eq]; omega
            cases hz : zB xs n i k with
            | true =>
              rw [hz] at heq
              have HREL : Hid (∀ W, RW W1 (w.heap.size + 1) n N g W → INN W1 (w.heap.size + 1) n N xs ws i (.float .f32 s) (.int .i64 ((k : Int) + 1)) W) := Lib.hid fun W hW => INN.none hkt HROWS.out HCELLS.out HREST.out hz (fun hN => (HS.out hN).trans (HSK.out hN i k hlt hkt hz).symm) hW
              clear x1 x2 x3 hcl hfz wk v2 p2 hz
              generalize i * n = qi at *
              generalize qi + k = p at *
              generalize stepOf xs n i k = own at *
              go_wp2_with fail
              go_roundw
              case rel => exact HREL.out _ (by first | exact HRW.out | exact HRW.out.drewN _)
              case measure => simp [intOf]; omega
            | false =>
              rw [hz] at heq
              obtain ⟨r1, r2, hq⟩ := HWR.out i k hlt hkt hz
              have e1 := fun w => run_float_arith (P := Try.prog) w .mul 42 .f32 _ _ _ r1
              have e2 := fun w => run_float_arith (P := Try.prog) w .mul 42 .f32 _ _ _ r2
              have HREL : Hid (∀ v s', offV xs ws n i k v → (noNan xs ws n → s' = sumF xs ws n i (k + 1)) → ∀ W, RW W1 (w.heap.size + 1) n N (setG g (i * n + k) v) W → INN W1 (w.heap.size + 1) n N xs ws i (.float .f32 s') (.int .i64 ((k : Int) + 1)) W) := Lib.hid fun v s' hv hs' W hW => INN.step hkt HROWS.out HCELLS.out HREST.out hv hs' hW
              have HADD : Hid (∀ v s', offV xs ws n i k v → (∀ u, floatBits .add .f32 s v = some u → s' = u) → (noNan xs ws n → s' = sumF xs ws n i (k + 1))) := Lib.hid fun v s' hv hu hN => hu _ (by rw [HS.out hN]; exact HSS.out i k v hN hlt hkt hki hv)
              have HSET : Hid (∀ W v, RW W1 (w.heap.size + 1) n N g W → RW W1 (w.heap.size + 1) n N (setG g (i * n + k) v) (World.setCell W ⟨w.heap.size + 1 + 1, i * n + k, none⟩ (.float .f32 v))) := Lib.hid fun W v hW => hW.set _ v
              have HBK : Hid (∀ W v, RW W1 (w.heap.size + 1) n N (setG g (i * n + k) v) W → W.cell? ⟨w.heap.size + 1 + 1, i * n + k, none⟩ = some (.float .f32 v)) := Lib.hid fun W v hW => by
                have := hW.2.2.2.cell p1
                unfold setG at this
                rw [if_pos rfl] at this
                exact this
              rcases hq with hq | ⟨q, hq, hq1, hq2⟩
              · have HV : Hid (∀ v, isNan single v = true → offV xs ws n i k v) := Lib.hid fun v hv => (offV_none hz hq).2 hv
                have hq' : floatBits .quo .f32 (wA xs ws n i k) (wB xs ws n i k) = none := hq
                obtain ⟨nd, hnd, e3⟩ : ∃ nd : World → Nat, (∀ w, isNan single (nd w) = true) ∧ ∀ w : World, (binOp .quo 42 (.float .f32 (wA xs ws n i k)) (.float .f32 (wB xs ws n i k))).run Try.prog w = .ok (.float .f32 (nd w)) w.drew :=
                  ⟨_, fun w => nanDraw_bits .f32 (wA xs ws n i k) (wB xs ws n i k) w, fun w => run_float_nan w .quo (by simp) _ .f32 _ _ hq'⟩
                have hgt : ∀ w, (FloatKind.f32.format.order (nd w) 1065353216 == some .gt) = false := fun w => by
                  rw [order_nan_left (f := FloatKind.f32.format) 1065353216 (hnd w)]
                  rfl
                have HMN : Hid (∀ x y, isNan single y = true → floatBits .mul .f32 x y = none) := Lib.hid fun x y h => mul_nan h
                clear r1 r2 hq hq' hz
                generalize i * n = qi at *
                generalize k * n = qk at *
                generalize qi + k = p at *
                generalize qk + i = pp at *
                generalize stepOf xs n i k = own at *
                generalize stepOf xs n k i = back at *
                generalize wA xs ws n i k = av at *
                generalize wB xs ws n i k = bv at *
                generalize rowOf ws i = ri at *
                generalize rowOf ws k = rk at *
                go_wp2_with fail
                go_region
                have hg2 := hgt wr.drew
                have HN2 := Lib.hid (hnd wr.drew)
                generalize nd wr.drew = xv at *
                clear hgt hnd e1 e2 e3
                go_upto_region 18 with (refine wpList_float_fr _ rfl .mul (by simp) _ _ _ _ rfl .f32 own xv (by rfl) (by rfl) ?_; intro v mv hv; have HVV := Lib.hid hv; clear hv)
                have HOV := Lib.hid (HV.out v (HVV.out.2 (HMN.out _ _ HN2.out)))
                generalize hW5 : World.setCell _ _ _ = W5
                have hRW5 : RW W1 (w.heap.size + 1) n N (setG g p v) W5 := by rw [← hW5]; exact HSET.out _ v (HRW.out.drewN _)
                clear hW5 hcl hfz x0 x1 x2 x3 b0' d0 d1 HSET
                have d1 := hRW5.2.2.1
                have d2 := HBK.out _ v hRW5
                have HRW5 := Lib.hid hRW5
                clear hRW5 HBK
                go_wp2_with (refine wpList_float_fr _ rfl .add (by simp) _ _ _ _ rfl .f32 s v (by rfl) (by rfl) ?_; intro s' ms hs'; have HSS' := Lib.hid hs'; clear hs')
                go_roundw
                case rel => exact HREL.out v s' HOV.out (HADD.out v s' HOV.out HSS'.out.1) _ (by first | exact HRW5.out | exact HRW5.out.drewN _)
                case measure => simp [intOf]; omega
              · have HV : Hid (offV xs ws n i k (fmul (stepOf xs n i k) (capF q))) := Lib.hid ((offV_some hz hq).2 rfl)
                have e3 := fun w => run_float_arith (P := Try.prog) w .quo 42 .f32 _ _ _ (show floatBits .quo .f32 (wA xs ws n i k) (wB xs ws n i k) = some q from hq)
                have HMU := Lib.hid (HOM.out i k q hlt hkt hq1 hq2).1
                have HCAP := Lib.hid (capO_some hq1)
                have HCO : Hid (capO q = if (FloatKind.f32.format.order q 1065353216 == some .gt) = true then 1065353216 else q) := Lib.hid rfl
                clear r1 r2 hq hq1 hq2 hz
                generalize i * n = qi at *
                generalize k * n = qk at *
                generalize qi + k = p at *
                generalize qk + i = pp at *
                generalize fmul (stepOf xs n i k) (capF q) = res at *
                generalize capF q = cq at *
                generalize stepOf xs n i k = own at *
                generalize stepOf xs n k i = back at *
                generalize wA xs ws n i k = av at *
                generalize wB xs ws n i k = bv at *
                generalize rowOf ws i = ri at *
                generalize rowOf ws k = rk at *
                cases hgt : (FloatKind.f32.format.order q 1065353216 == some .gt) with
                | true =>
                  have hc1 : cq = 1065353216 := by rw [← HCAP.out, HCO.out, if_pos hgt]
                  rw [hc1] at HMU
                  have HMU2 := Lib.hid HMU.out
                  clear hc1 HCO HCAP HMU
                  go_wp2_with fail
                  go_quiet (fail)
                  go_upto_region 18 with (refine wpList_float_fr _ rfl .mul (by simp) _ _ _ _ rfl .f32 own _ (by rfl) (by rfl) ?_; intro v mv hv; have HVV := Lib.hid hv; clear hv)
                  have HOV : Hid (offV xs ws n i k v) := Lib.hid (by rw [HVV.out.1 _ HMU2.out]; exact HV.out)
                  generalize hW5 : World.setCell _ _ _ = W5
                  have hRW5 : RW W1 (w.heap.size + 1) n N (setG g p v) W5 := by rw [← hW5]; exact HSET.out _ v (HRW.out.drewN _)
                  clear hW5 hcl hfz x0 x1 x2 x3 b0' d0 d1 HSET
                  have d1 := hRW5.2.2.1
                  have d2 := HBK.out _ v hRW5
                  have HRW5 := Lib.hid hRW5
                  clear hRW5 HBK
                  go_wp2_with (refine wpList_float_fr _ rfl .add (by simp) _ _ _ _ rfl .f32 s v (by rfl) (by rfl) ?_; intro s' ms hs'; have HSS' := Lib.hid hs'; clear hs')
                  go_roundw
                  case rel => exact HREL.out v s' HOV.out (HADD.out v s' HOV.out HSS'.out.1) _ (by first | exact HRW5.out | exact HRW5.out.drewN _)
                  case measure => simp [intOf]; omega
                | false =>
                  have hc1 : cq = q := by rw [← HCAP.out, HCO.out, if_neg (by rw [hgt]; simp)]
                  rw [hc1] at HMU
                  have HMU2 := Lib.hid HMU.out
                  clear hc1 HCO HCAP HMU
                  go_wp2_with fail
                  go_quiet (fail)
                  go_upto_region 18 with (refine wpList_float_fr _ rfl .mul (by simp) _ _ _ _ rfl .f32 own _ (by rfl) (by rfl) ?_; intro v mv hv; have HVV := Lib.hid hv; clear hv)
                  have HOV : Hid (offV xs ws n i k v) := Lib.hid (by rw [HVV.out.1 _ HMU2.out]; exact HV.out)
                  generalize hW5 : World.setCell _ _ _ = W5
                  have hRW5 : RW W1 (w.heap.size + 1) n N (setG g p v) W5 := by rw [← hW5]; exact HSET.out _ v (HRW.out.drewN _)
                  clear hW5 hcl hfz x0 x1 x2 x3 b0' d0 d1 HSET
                  have d1 := hRW5.2.2.1
                  have d2 := HBK.out _ v hRW5
                  have HRW5 := Lib.hid hRW5
                  clear hRW5 HBK
                  go_wp2_with (refine wpList_float_fr _ rfl .add (by simp) _ _ _ _ rfl .f32 s v (by rfl) (by rfl) ?_; intro s' ms hs'; have HSS' := Lib.hid hs'; clear hs')
                  go_roundw
                  case rel => exact HREL.out v s' HOV.out (HADD.out v s' HOV.out HSS'.out.1) _ (by first | exact HRW5.out | exact HRW5.out.drewN _)
                  case measure => simp [intOf]; omega
        · have hkn : k = n := by omega
          subst hkn
          have p1 := HIX.out i i hlt hlt
          have hcl := hrow.cell p1
          have hfz := hrow.frozen (i * k + i)
          have wq : IntKind.i64.wrap ((i : Int) * (k : Int)) = ((i * k : Nat) : Int) := by rw [show (i : Int) * (k : Int) = ((i * k : Nat) : Int) by push_cast; rfl]; exact IntWalk.i64_in _ (by omega)
          have v1 : IntKind.i64.wrap (((i * k : Nat) : Int) + (i : Int)) = ((i * k + i : Nat) : Int) := by rw [show ((i * k : Nat) : Int) + (i : Int) = ((i * k + i : Nat) : Int) by push_cast; rfl]; exact IntWalk.i64_in _ (by omega)
          have HREL : Hid (∀ W v, (noNan xs ws k → v = diagF xs ws k i) → RW W1 (w.heap.size + 1) k N g W → RW W1 (w.heap.size + 1) k N (setG g (i * k + i) v) (World.setCell W ⟨w.heap.size + 1 + 1, i * k + i, none⟩ (.float .f32 v)) ∧ rowsV xs ws k (i + 1) (setG g (i * k + i) v) ∧ restZ ((i + 1) * k) (setG g (i * k + i) v)) := Lib.hid fun W v hv hW => ⟨hW.set _ v, row_close HROWS.out HCELLS.out hv, fun p hp => by
            unfold setG
            rw [Nat.add_mul, Nat.one_mul] at hp
            rw [if_neg (by omega)]
            exact HREST.out p hp⟩
          have HRE' := Lib.hid fun s r hN hs hv => HRE.out i s r hlt hN hs hv
          clear hbw hrow
          generalize i * k = qi at *
          generalize qi + i = p at *
          go_upto_region 20 with (refine wpList_float_fr _ rfl .sub (by simp) _ _ _ _ rfl .f32 1065353216 s (by rfl) (by rfl) ?_; intro r mr hr; have HR := Lib.hid hr; clear hr)
          cases hcmp : (FloatKind.f32.format.order r 0 == some .lt) with
          | true =>
            have HDI : noNan xs ws k → 0 = diagF xs ws k i := fun hN => (HRE'.out s r hN (HS.out hN) HR.out.1).1 hcmp
            have HD := Lib.hid HDI
            clear HDI
            go_wp2_with fail
            generalize hW5 : World.setCell _ _ _ = W5
            have HR5 := Lib.hid (HREL.out _ 0 HD.out (HRW.out.drewN mr))
            rw [hW5] at HR5
            clear hW5
            go_roundw
            case rel => exact ⟨i + 1, _, by omega, by go_num, HR5.out.1, HR5.out.2.1, HR5.out.2.2⟩
            case measure => simp [intOf]; omega
          | false =>
            have HDI : noNan xs ws k → r = diagF xs ws k i := fun hN => (HRE'.out s r hN (HS.out hN) HR.out.1).2 hcmp
            have HD := Lib.hid HDI
            clear HDI
            go_wp2_with fail
            generalize hW5 : World.setCell _ _ _ = W5
            have HR5 := Lib.hid (HREL.out _ r HD.out (HRW.out.drewN mr))
            rw [hW5] at HR5
            clear hW5
            go_roundw
            case rel => exact ⟨i + 1, _, by omega, by go_num, HR5.out.1, HR5.out.2.1, HR5.out.2.2⟩
            case measure => simp [intOf]; omega
    · have hin : i = n := by omega
      subst hin
      rename World => wr
      obtain ⟨hbw, d0, d1, hrow⟩ := HRWG.out
      have hown := own_of_row hrow (base := w.heap.size + 1 + 1) (Nat.le_refl _) (by unfold maxLen; omega)
      rw [HLI.out g] at hown
      have HSAME : Hid (∀ e w', chGive i (tab i fun a b => g (a * i + b)) w e w' → chGive i (tab i (weighF xs ws i)) w e w') := Lib.hid fun e w' h => chGive_same (g := fun a b => g (a * i + b)) (fun a b ha hb => HROWS.out a b ha hb) h
      have HGG := Lib.hid fun W A' c' hR => HG.out (fun a b => g (a * i + b)) W A' c' hR
      have HTG := Lib.hid (HTL.out fun a b => g (a * i + b))
      have HO := Lib.hid hown
      have g0 : wr.cell? ⟨w.heap.size + 1, 0, none⟩ = some (.int .i64 0) := (hbw.cell (show w.heap.size + 1 < w.heap.size + 1 + 1 by omega)).trans K0.out
      have g1 : wr.cell? ⟨w.heap.size + 1, 1, none⟩ = some (.slice none 0 0) := (hbw.cell (show w.heap.size + 1 < w.heap.size + 1 + 1 by omega)).trans K1.out
      have gf : ∀ o, wr.frozen? ⟨w.heap.size + 1, o, none⟩ = false := fun o => (hbw.frozen (show w.heap.size + 1 < w.heap.size + 1 + 1 by omega)).trans (KF.out o)
      have hs1 := S1.out
      have hsz := hbw.size
      have HBR := Lib.hid (HB1.out.trans (hbw.mono (by omega)))
      clear hown hbw hrow HRWG HROWS HREST HLI HG HTL
      generalize (tab i fun a b => g (a * i + b)) = zs at *
      cases hvb : validB i zs
      · have HVB := Lib.hid hvb
        rw [hvb] at HGG
        clear hvb
        go_wp2_with (go_at_call 37; refine (HGG.out _ _ _ ((Rd.of_own HO.out).at_ (by first | exact Below.refl _ _ | exact (Below.refl _ _).drew))).mono ?_; rintro e w5 ⟨rfl, hb5⟩; have hk5 : Below wr.heap.size wr w5 := hb5; have z0 : w5.cell? ⟨w.heap.size + 1, 0, none⟩ = some (.int .i64 0) := keepC hk5 g0; have z1 : w5.cell? ⟨w.heap.size + 1, 1, none⟩ = some (.slice none 0 0) := keepC hk5 g1; have zf : ∀ o, w5.frozen? ⟨w.heap.size + 1, o, none⟩ = false := fun o => (hk5.frozen (p := ⟨_, o, none⟩) (by show w.heap.size + 1 < wr.heap.size; omega)).trans (gf o))
        have hB : Below w.heap.size w w5 := HBR.out.trans (hk5.mono (by omega))
        refine bodyPost_ret (v := .tuple #[.agg #[.int .i64 0, .slice none 0 0], .bool false]) (by simp [results, Try.results17, go_sem, z0, z1]) rfl (HSAME.out _ _ (ChainRes.out ⟨(hB.setCell (by simp) _).setCell (by simp) _, .inl ⟨HVB.out, rfl⟩⟩))
      · have HVB := Lib.hid hvb
        rw [hvb] at HGG
        clear hvb
        go_wp2_with (go_at_call 37; refine (HGG.out _ _ _ ((Rd.of_own HO.out).at_ (by first | exact Below.refl _ _ | exact (Below.refl _ _).drew))).mono ?_; rintro e w5 ⟨rfl, hb5⟩; have hk5 : Below wr.heap.size wr w5 := hb5; have z0 : w5.cell? ⟨w.heap.size + 1, 0, none⟩ = some (.int .i64 0) := keepC hk5 g0; have z1 : w5.cell? ⟨w.heap.size + 1, 1, none⟩ = some (.slice none 0 0) := keepC hk5 g1; have zf : ∀ o, w5.frozen? ⟨w.heap.size + 1, o, none⟩ = false := fun o => (hk5.frozen (p := ⟨_, o, none⟩) (by show w.heap.size + 1 < wr.heap.size; omega)).trans (gf o))
        have hB : Below w.heap.size w w5 := HBR.out.trans (hk5.mono (by omega))
        have hO := own_below HO.out hk5
        refine bodyPost_ret (v := .tuple #[.agg #[.int .i64 i, .slice (some ⟨w.heap.size + 1 + 1, 0, none⟩) N N], .bool true]) (by simp [results, Try.results17, go_sem, z0, z1]) rfl (HSAME.out _ _ (ChainRes.out ⟨(hB.setCell (by simp) _).setCell (by simp) _, .inr ⟨HVB.out, _, N, by rw [HTG.out], ?_⟩⟩))
        rw [HTG.out]
        exact own_base (ownsRow_setCell_below (ownsRow_setCell_below hO (Nat.lt_succ_self _) _) (Nat.lt_succ_self _) _) (by omega)
end Go.Proofs.Ytnnnpdendnjkhaa
