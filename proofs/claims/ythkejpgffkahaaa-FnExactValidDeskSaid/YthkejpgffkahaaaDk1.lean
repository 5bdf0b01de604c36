/-
  Desks: the new desk of the program and of the reference; the laws' helpers on it.
-/
import Derived.Test.YthkejpgffkahaaaToi
namespace Go.Proofs.Ythkejpgffkahaaa
open Go Go.RowKit Ieee
attribute [local go_sem] run_store_float

/-- a desk's value -/
def dkV (g1 g2 g3 : Nat) : Value := .agg #[.int .i64 0, .int .u64 0, .int .u64 1, .int .i64 2, .int .i64 2, .slice (some ⟨g1, 0, none⟩) 4 4, .slice (some ⟨g2, 0, none⟩) 3 3, .slice (some ⟨g3, 0, none⟩) 2 2]
/-- its rows lie in three blocks of their own -/
def D3 (w : World) (base g1 g2 g3 : Nat) (v1 v2 v3 : List Value) : Prop :=
  w.ownsRow base 2 1 (.slice (some ⟨g1, 0, none⟩) 4 4) 4 v1 ∧ w.ownsRow base 2 1 (.slice (some ⟨g2, 0, none⟩) 3 3) 3 v2 ∧ w.ownsRow base 61 1 (.slice (some ⟨g3, 0, none⟩) 2 2) 2 v3 ∧ g1 ≠ g2 ∧ g1 ≠ g3 ∧ g2 ≠ g3
theorem D3.keep {w w' : World} {base g1 g2 g3 : Nat} {v1 v2 v3 : List Value} (h : D3 w base g1 g2 g3 v1 v2 v3) (hb : Below w.heap.size w w') : D3 w' base g1 g2 g3 v1 v2 v3 :=
  ⟨own_below h.1 hb, own_below h.2.1 hb, own_below h.2.2.1 hb, h.2.2.2⟩
theorem own_lt {w : World} {base g n c : Nat} {e : TypeId} {vs : List Value} (h : w.ownsRow base e 1 (.slice (some ⟨g, 0, none⟩) n c) n vs) : base ≤ g ∧ g < w.heap.size := h.lt g rfl
theorem D3.lt {w : World} {base g1 g2 g3 : Nat} {v1 v2 v3 : List Value} (h : D3 w base g1 g2 g3 v1 v2 v3) : (base ≤ g1 ∧ g1 < w.heap.size) ∧ (base ≤ g2 ∧ g2 < w.heap.size) ∧ (base ≤ g3 ∧ g3 < w.heap.size) :=
  ⟨own_lt h.1, own_lt h.2.1, own_lt h.2.2.1⟩
theorem own_heap {w w' : World} {base g n c : Nat} {e : TypeId} {vs : List Value} (h : w.ownsRow base e 1 (.slice (some ⟨g, 0, none⟩) n c) n vs) (hh : w'.heap[g]? = w.heap[g]?) : w'.ownsRow base e 1 (.slice (some ⟨g, 0, none⟩) n c) n vs := by
  refine ⟨h.1, ?_⟩
  rcases h.2 with h0 | ⟨g', cap, cur, hv, hg, hc, hr⟩
  · exact .inl h0
  · refine .inr ⟨g', cap, cur, hv, hg, ?_, hr⟩
    injection hv with h1
    injection h1 with h1
    injection h1 with h1
    subst h1
    rw [hh]
    exact hc
/-- nothing has changed but three blocks -/
def But (g1 g2 g3 : Nat) (w w' : World) : Prop := w'.os = w.os ∧ w'.tape = w.tape ∧ w'.output = w.output ∧ w.heap.size ≤ w'.heap.size ∧ ∀ j, j < w.heap.size → j ≠ g1 → j ≠ g2 → j ≠ g3 → w'.heap[j]? = w.heap[j]?
theorem D3.but {w w' : World} {base h1 h2 h3 g1 g2 g3 : Nat} {v1 v2 v3 : List Value} (h : D3 w base h1 h2 h3 v1 v2 v3) (hb : But g1 g2 g3 w w') (hlt : ∀ q, q = h1 ∨ q = h2 ∨ q = h3 → q ≠ g1 ∧ q ≠ g2 ∧ q ≠ g3) : D3 w' base h1 h2 h3 v1 v2 v3 := by
  obtain ⟨l1, l2, l3⟩ := h.lt
  obtain ⟨a1, a2, a3⟩ := hlt h1 (.inl rfl)
  obtain ⟨b1, b2, b3⟩ := hlt h2 (.inr (.inl rfl))
  obtain ⟨c1, c2, c3⟩ := hlt h3 (.inr (.inr rfl))
  exact ⟨own_heap h.1 (hb.2.2.2.2 _ l1.2 a1 a2 a3), own_heap h.2.1 (hb.2.2.2.2 _ l2.2 b1 b2 b3), own_heap h.2.2.1 (hb.2.2.2.2 _ l3.2 c1 c2 c3), h.2.2.2⟩
theorem But.below {a w w' : World} {B g1 g2 g3 : Nat} (h : Below B a w) (hb : But g1 g2 g3 w w') (hB : B ≤ w.heap.size) (h1 : B ≤ g1) (h2 : B ≤ g2) (h3 : B ≤ g3) : Below B a w' :=
  ⟨hb.1.trans h.os, hb.2.1.trans h.tape, hb.2.2.1.trans h.output, Nat.le_trans h.size hb.2.2.2.1, fun j hj => (hb.2.2.2.2 j (by omega) (by omega) (by omega) (by omega)).trans (h.block j hj)⟩
/-- a box with a desk -/
def DkBox (w : World) (b g1 g2 g3 : Nat) : Prop :=
  w.cell? ⟨b, 0, none⟩ = some (.int .i64 0) ∧ w.cell? ⟨b, 1, none⟩ = some (.int .u64 0) ∧ w.cell? ⟨b, 2, none⟩ = some (.int .u64 1) ∧ w.cell? ⟨b, 3, none⟩ = some (.int .i64 2) ∧ w.cell? ⟨b, 4, none⟩ = some (.int .i64 2) ∧
  w.cell? ⟨b, 5, none⟩ = some (.slice (some ⟨g1, 0, none⟩) 4 4) ∧ w.cell? ⟨b, 6, none⟩ = some (.slice (some ⟨g2, 0, none⟩) 3 3) ∧ w.cell? ⟨b, 7, none⟩ = some (.slice (some ⟨g3, 0, none⟩) 2 2)
theorem DkBox.keep {w w' : World} {b g1 g2 g3 : Nat} (h : DkBox w b g1 g2 g3) (hb : Below w.heap.size w w') : DkBox w' b g1 g2 g3 :=
  ⟨keepC hb h.1, keepC hb h.2.1, keepC hb h.2.2.1, keepC hb h.2.2.2.1, keepC hb h.2.2.2.2.1, keepC hb h.2.2.2.2.2.1, keepC hb h.2.2.2.2.2.2.1, keepC hb h.2.2.2.2.2.2.2⟩
theorem DkBox.lt {w : World} {b g1 g2 g3 : Nat} (h : DkBox w b g1 g2 g3) : b < w.heap.size := lt_of_cell (a := ⟨b, 0, none⟩) h.1
theorem DkBox.but {w w' : World} {b g1 g2 g3 h1 h2 h3 : Nat} (h : DkBox w b h1 h2 h3) (hb : But g1 g2 g3 w w') (n1 : b ≠ g1) (n2 : b ≠ g2) (n3 : b ≠ g3) : DkBox w' b h1 h2 h3 := by
  have hh : w'.heap[b]? = w.heap[b]? := hb.2.2.2.2 b h.lt n1 n2 n3
  have hc : ∀ o, w'.cell? ⟨b, o, none⟩ = w.cell? ⟨b, o, none⟩ := fun o => World.cell?_of_block (a := ⟨b, o, none⟩) hh
  unfold DkBox at *
  simp only [hc]
  exact h

def ND (w : World) (e : Ending) (w' : World) : Prop := ∃ g1 g2 g3, e = .returned (dkV g1 g2 g3) ∧ D3 w' w.heap.size g1 g2 g3 (il [3, 0, 0, 3]) (il [2, 0, 1]) (fl [1048576000, 1056964608]) ∧ Below w.heap.size w w'
theorem d3_made (W : World) (base : Nat) (hb : base ≤ W.heap.size) : D3 (((W.alloc (.cells #[.int .i64 3, .int .i64 0, .int .i64 0, .int .i64 3] 2)).alloc (.cells #[.int .i64 2, .int .i64 0, .int .i64 1] 2)).alloc (.cells #[.float .f32 1048576000, .float .f32 1056964608] 61)) base W.heap.size (W.heap.size + 1) (W.heap.size + 1 + 1) (il [3, 0, 0, 3]) (il [2, 0, 1]) (fl [1048576000, 1056964608]) := by
  have h1 := (World.ownsRow_lit (base := base) (e := 2) (size := 1) W #[.int .i64 3, .int .i64 0, .int .i64 0, .int .i64 3] 4 hb (by unfold maxLen; omega) rfl)
  have h2 := (World.ownsRow_lit (base := base) (e := 2) (size := 1) (W.alloc (.cells #[.int .i64 3, .int .i64 0, .int .i64 0, .int .i64 3] 2)) #[.int .i64 2, .int .i64 0, .int .i64 1] 3 (by simp; omega) (by unfold maxLen; omega) rfl)
  have h3 := (World.ownsRow_lit (base := base) (e := 61) (size := 1) ((W.alloc (.cells #[.int .i64 3, .int .i64 0, .int .i64 0, .int .i64 3] 2)).alloc (.cells #[.int .i64 2, .int .i64 0, .int .i64 1] 2)) #[.float .f32 1048576000, .float .f32 1056964608] 2 (by simp; omega) (by unfold maxLen; omega) rfl)
  rw [World.size_alloc] at h2
  rw [World.size_alloc, World.size_alloc] at h3
  exact ⟨(h1.alloc _).alloc _, h2.alloc _, h3, by omega, by omega, by omega⟩
set_option maxHeartbeats 400000 in
theorem eqSeed_yes (k a b : Int) (w : World) : Calls Try.prog 21 #[.agg #[.int .i64 k, .int .u64 a, .int .u64 b], .agg #[.int .i64 k, .int .u64 a, .int .u64 b]] w (fun e w' => e = .returned (.bool true) ∧ Below w.heap.size w w') := by
  go_enter Try.func21, Try.ntmps21
  go_wp2
  go_ret
  exact ⟨rfl, ((Below.refl _ _).alloc (Nat.le_refl _) _).alloc (by simp) _⟩
set_option maxHeartbeats 400000 in
theorem eqTable_yes (r c : Int) (A B : Option Addr) (xs : List Int) (d d' : Nat) (w : World) (hx : xs.length ≤ 9223372036854775807) (hA : Rd w w.heap.size A (il xs)) (hB : Rd w w.heap.size B (il xs)) :
    Calls Try.prog 22 #[.agg #[.int .i64 r, .int .i64 c, .slice A xs.length d], .agg #[.int .i64 r, .int .i64 c, .slice B xs.length d']] w (fun e w' => e = .returned (.bool true) ∧ Below w.heap.size w w') := by
  have HE := Lib.hid fun w hA hB => eqInt64S_yes A B xs d d' w hx hA hB
  have hb : ∀ o1 o2, Below w.heap.size w ((w.alloc o1).alloc o2) := fun o1 o2 => ((Below.refl _ _).alloc (Nat.le_refl _) _).alloc (by simp) _
  go_enter Try.func22, Try.ntmps22
  go_wp2_with (go_at_call 23; refine (HE.out _ (hA.at_ (hb _ _)) (hB.at_ (hb _ _))).mono ?_; rintro e w1 ⟨rfl, m, rfl⟩)
  go_ret
  exact ⟨rfl, below_drewN (hb _ _) _⟩
def dkA (A B C : Option Addr) (n1 n2 n3 c1 c2 c3 : Nat) (k a b r c : Int) : Value := .agg #[.int .i64 k, .int .u64 a, .int .u64 b, .int .i64 r, .int .i64 c, .slice A n1 c1, .slice B n2 c2, .slice C n3 c3]
set_option maxRecDepth 100000 in
set_option maxHeartbeats 1600000 in
theorem eqDesk_yes (k a b r c : Int) (A A' B B' C C' : Option Addr) (xs ys : List Int) (zs : List Nat) (d1 d2 d3 e1 e2 e3 : Nat) (w : World) (hx : xs.length ≤ 9223372036854775807) (hy : ys.length ≤ 9223372036854775807) (hz : zs.length ≤ 9223372036854775807)
    (h1 : Rd w w.heap.size A (il xs)) (h1' : Rd w w.heap.size A' (il xs)) (h2 : Rd w w.heap.size B (il ys)) (h2' : Rd w w.heap.size B' (il ys)) (h3 : Rd w w.heap.size C (fl zs)) (h3' : Rd w w.heap.size C' (fl zs)) :
    Calls Try.prog 8 #[dkA A B C xs.length ys.length zs.length d1 d2 d3 k a b r c, dkA A' B' C' xs.length ys.length zs.length e1 e2 e3 k a b r c] w (fun e w' => e = .returned (.bool true) ∧ Below w.heap.size w w') := by
  have HS := Lib.hid fun w => eqSeed_yes k a b w
  have HT := Lib.hid fun w hA hB => eqTable_yes r c A A' xs d1 e1 w hx hA hB
  have HI := Lib.hid fun w hA hB => eqInt64S_yes B B' ys d2 e2 w hy hA hB
  have HF := Lib.hid fun w hA hB => eqFloat32S_yes C C' zs zs d3 e3 w hz (sameL_refl zs) hA hB
  unfold dkA
  go_enter Try.func8, Try.ntmps8
  go_wp2_with fail
  generalize hW1 : World.alloc (World.alloc w _) _ = W1
  have p0 : W1.cell? ⟨w.heap.size, 0, none⟩ = some (.int .i64 k) := by rw [← hW1]; simp [go_sem]
  have p1 : W1.cell? ⟨w.heap.size, 1, none⟩ = some (.int .u64 a) := by rw [← hW1]; simp [go_sem]
  have p2 : W1.cell? ⟨w.heap.size, 2, none⟩ = some (.int .u64 b) := by rw [← hW1]; simp [go_sem]
  have p3 : W1.cell? ⟨w.heap.size, 3, none⟩ = some (.int .i64 r) := by rw [← hW1]; simp [go_sem]
  have p4 : W1.cell? ⟨w.heap.size, 4, none⟩ = some (.int .i64 c) := by rw [← hW1]; simp [go_sem]
  have p5 : W1.cell? ⟨w.heap.size, 5, none⟩ = some (.slice A xs.length d1) := by rw [← hW1]; simp [go_sem]
  have p6 : W1.cell? ⟨w.heap.size, 6, none⟩ = some (.slice B ys.length d2) := by rw [← hW1]; simp [go_sem]
  have p7 : W1.cell? ⟨w.heap.size, 7, none⟩ = some (.slice C zs.length d3) := by rw [← hW1]; simp [go_sem]
  have q3 : W1.cell? ⟨w.heap.size + 1, 3, none⟩ = some (.int .i64 r) := by rw [← hW1]; simp [go_sem]
  have q4 : W1.cell? ⟨w.heap.size + 1, 4, none⟩ = some (.int .i64 c) := by rw [← hW1]; simp [go_sem]
  have q5 : W1.cell? ⟨w.heap.size + 1, 5, none⟩ = some (.slice A' xs.length e1) := by rw [← hW1]; simp [go_sem]
  have q6 : W1.cell? ⟨w.heap.size + 1, 6, none⟩ = some (.slice B' ys.length e2) := by rw [← hW1]; simp [go_sem]
  have q7 : W1.cell? ⟨w.heap.size + 1, 7, none⟩ = some (.slice C' zs.length e3) := by rw [← hW1]; simp [go_sem]
  have hb1 : Below w.heap.size w W1 := by rw [← hW1]; exact ((Below.refl _ _).alloc (Nat.le_refl _) _).alloc (by simp) _
  clear hW1
  refine (HS.out _).mono ?_
  rintro e w2 ⟨rfl, hb2⟩
  have hk2 : Below w.heap.size w w2 := hb1.trans (hb2.mono hb1.size)
  have r3 := keepC hb2 p3
  have r4 := keepC hb2 p4
  have r5 := keepC hb2 p5
  have r6 := keepC hb2 p6
  have r7 := keepC hb2 p7
  have s3 := keepC hb2 q3
  have s4 := keepC hb2 q4
  have s5 := keepC hb2 q5
  have s6 := keepC hb2 q6
  have s7 := keepC hb2 q7
  have HK2 := Lib.hid hk2
  clear p0 p1 p2 p3 p4 p5 p6 p7 q3 q4 q5 q6 q7 hb1 hb2 hk2
  go_wp2_with fail
  refine (HT.out _ (h1.at_ HK2.out) (h1'.at_ HK2.out)).mono ?_
  rintro e w3 ⟨rfl, hb3⟩
  have hk3 : Below w.heap.size w w3 := HK2.out.trans (hb3.mono HK2.out.size)
  have t6 := keepC hb3 r6
  have t7 := keepC hb3 r7
  have u6 := keepC hb3 s6
  have u7 := keepC hb3 s7
  have HK3 := Lib.hid hk3
  clear r3 r4 r5 r6 r7 s3 s4 s5 s6 s7 hb3 hk3
  go_wp2_with (first
    | (go_at_call 23; refine (HI.out _ (h2.at_ HK3.out) (h2'.at_ HK3.out)).mono ?_; rintro e w4 ⟨rfl, m4, rfl⟩)
    | (go_at_call 24; refine (HF.out _ ((h3.at_ HK3.out).drewN m4) ((h3'.at_ HK3.out).drewN m4)).mono ?_; rintro e w5 ⟨rfl, m5, rfl⟩))
  go_ret
  exact ⟨rfl, below_drewN HK3.out _⟩

theorem But.of {w W1 w2 w3 w4 : World} {g1 g2 g3 : Nat} {o : Obj} (e1 : w.alloc o = W1) (h2 : W1.grownBy w2 (some g1)) (h3 : w2.grownBy w3 (some g2)) (h4 : w3.grownBy w4 (some g3)) : But g1 g2 g3 w w4 := by
  have h1 : w.grownBy W1 none := by rw [← e1]; exact World.grownBy_alloc w o none
  have s1 := h1.size
  have s2 := h2.size
  have s3 := h3.size
  have s4 := h4.size
  refine ⟨h4.os.trans (h3.os.trans (h2.os.trans h1.os)), h4.tape.trans (h3.tape.trans (h2.tape.trans h1.tape)), h4.output.trans (h3.output.trans (h2.output.trans h1.output)), by omega, fun j hj n1 n2 n3 => ?_⟩
  have k4 := h4.block j (by omega) (fun e => n3 (Option.some.inj e))
  have k3 := h3.block j (by omega) (fun e => n2 (Option.some.inj e))
  have k2 := h2.block j (by omega) (fun e => n1 (Option.some.inj e))
  have k1 := h1.block j hj (by simp)
  rw [k4, k3, k2, k1]
end Go.Proofs.Ythkejpgffkahaaa

