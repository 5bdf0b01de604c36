/-
  What the law on balances asks of the program, at every later memory: WeighChain, BalanceMiss, StepRow, RestOf, BackChain.
-/
import Derived.Test.YtlhepgdheopgaaaBg
import Derived.Test.YtlhepgdheopgaaaBc
import Derived.Test.YtlhepgdheopgaaaWe4
import Derived.Test.YtlhepgdheopgaaaBal
import Derived.Test.YtlhepgdheopgaaaRt2
import Derived.Test.YtlhepgdheopgaaaBks
namespace Go.Proofs.Ytlhepgdheopgaaa
open Go Go.RowKit Ieee

/-- a chain that is given, with steps of its own -/
def ChOut (n : Nat) (ys : List Nat) (w : World) (e : Ending) (w' : World) : Prop :=
  ∃ A c, e = .returned (.tuple #[.agg #[.int .i64 n, .slice A (n * n : Nat) c], .bool true]) ∧ w'.ownsRow w.heap.size 31 1 (.slice A (n * n : Nat) c) (n * n) (fl ys) ∧ Below w.heap.size w w'
def ChNone (w : World) (e : Ending) (w' : World) : Prop :=
  ∃ A c, e = .returned (.tuple #[.agg #[.int .i64 0, .slice A 0 c], .bool false]) ∧ Below w.heap.size w w'
theorem chGive_yes {n : Nat} {ys : List Nat} {w w' : World} {e : Ending} (h : chGive n ys w e w') (hv : validB n ys = true) (hl : ys.length = n * n) : ChOut n ys w e w' := by
  unfold chGive chOut sideOf stepsOf at h
  rw [hv, if_pos rfl, if_pos rfl, hl] at h
  exact h
theorem chGive_no {n : Nat} {ys : List Nat} {w w' : World} {e : Ending} (h : chGive n ys w e w') (hv : validB n ys = false) : ChNone w e w' := by
  unfold chGive chOut sideOf stepsOf at h
  rw [hv] at h
  obtain ⟨A, c, h1, -, h2⟩ := h
  exact ⟨A, c, h1, h2⟩
theorem bk_valid {n c d : Nat} {ys r : List Nat} (hv : validB n ys = true) (hr : Rw c d n r) (h1 : 1 ≤ n) (h2 : n ≤ 12) : bkB n ys r = true := by
  unfold bkB fitB
  rw [hv, hr.rowB h1 h2, hr.above, hr.len]
  simp
section
variable {n : Nat} {xs ws : List Nat}
theorem WeighChain_at {A B : Option Addr} {c d : Nat} {W : World} (h : Chn 32 7 n xs) (hw : Rw 4 4 n ws) (h5 : n ≤ 5) (hc1 : n * n ≤ c) (hc2 : c ≤ 9223372036854775807) (hA : Rd W W.heap.size A (fl xs)) (hB : Rd W W.heap.size B (fl ws)) :
    Calls Try.prog 9 #[.agg #[.int .i64 n, .slice A (n * n : Nat) c], .slice B n d] W (ChOut n (wC xs ws n) W) := by
  have hx := h.len
  have hr := hw.len
  have := WeighChain_ok n A xs c B ws d W (by omega) hc2 hA hB (bk_of h (by decide) hw)
  rw [hx, hr] at this
  exact this.mono fun e w' h' => chGive_yes h' ((wC_chn h hw h5).valid (by decide)) (tab_len _ _)
theorem BalanceMiss_at {A B : Option Addr} {c d : Nat} {W : World} (h : Chn 32 7 n xs) (hw : Rw 4 4 n ws) (h5 : n ≤ 5) (hc1 : n * n ≤ c) (hc2 : c ≤ 9223372036854775807) (hA : Rd W W.heap.size A (fl (wC xs ws n))) (hB : Rd W W.heap.size B (fl ws)) :
    Calls Try.prog 10 #[.agg #[.int .i64 n, .slice A (n * n : Nat) c], .slice B n d] W (missOut (missTo (wC xs ws n) ws n (n * n)) true W) := by
  have hx : (wC xs ws n).length = n * n := tab_len _ _
  have hr := hw.len
  have := BalanceMiss_ok n A (wC xs ws n) c B ws d W (by omega) hc2 hA hB (fit_of (wC_chn h hw h5) (by decide) hw)
  rw [hx, hr] at this
  exact this
theorem miss_small (h : Chn 32 7 n xs) (hw : Rw 4 4 n ws) (h5 : n ≤ 5) : (FloatKind.f32.format.order (missTo (wC xs ws n) ws n (n * n)) 981668463 == some .gt) = false ∧ (FloatKind.f32.format.order (missTo (wC xs ws n) ws n (n * n)) 0 == some .lt) = false := by
  have hc := wC_chn h hw h5
  obtain ⟨h1, h2⟩ := missTo_ok hc.low hc.len hc.parts hw.len hw.least (n * n) (Nat.le_refl _)
  have h3 := missTo_le h hw h5 (n * n) (Nat.le_refl _)
  have hn := fin_not_nan h2
  have g := gt_key (f := single) (by decide) hn thou_notNan
  have l := lt_key (f := single) (by decide) hn zero_notNan
  rw [key_thou] at g
  rw [key_zero] at l
  have hk : 0 ≤ key single (missTo (wC xs ws n) ws n (n * n)) := by
    unfold key
    rw [h1]
    simp
  exact ⟨g.trans (decide_eq_false (by omega)), l.trans (decide_eq_false (by omega))⟩
theorem StepRow_at {A B : Option Addr} {c d : Nat} {W : World} (h : Chn 32 7 n xs) (hw : Rw 4 4 n ws) (h5 : n ≤ 5) (hc1 : n * n ≤ c) (hc2 : c ≤ 9223372036854775807) (hA : Rd W W.heap.size A (fl (wC xs ws n))) (hB : Rd W W.heap.size B (fl ws)) :
    Calls Try.prog 12 #[.agg #[.int .i64 n, .slice A (n * n : Nat) c], .slice B n d] W (fun e w' => ∃ A' c', e = .returned (.tuple #[.slice A' n c', .bool true]) ∧ w'.ownsRow W.heap.size 31 1 (.slice A' n c') n (fl (stepRow (wC xs ws n) ws n)) ∧ Below W.heap.size W w') := by
  have hx : (wC xs ws n).length = n * n := tab_len _ _
  have hr := hw.len
  have := StepRow_ok n A (wC xs ws n) c B ws d W (by omega) hc2 hA hB (fit_of (wC_chn h hw h5) (by decide) hw)
  have hf : (stepRow (wC xs ws n) ws n).all (isFin single) = true := by
    rw [List.all_eq_true]
    intro x hx
    obtain ⟨k, hk, rfl⟩ := mem_rowOf hx
    rw [stepRow_len] at hk
    exact (wC_step h hw h5 hk).1.1
  unfold rowGive flOut at this
  rw [hf, if_pos rfl, stepRow_len, hx, hr] at this
  exact this
/-- the gaps of the row behind a step -/
theorem step_gap (h : Chn 32 7 n xs) (hw : Rw 4 4 n ws) (h5 : n ≤ 5) {k : Nat} (hk : k < n) :
    (NN double (wd (rowOf (stepRow (wC xs ws n) ws n) k)) ∧ NN double (wd (rowOf ws k))) ∧ (FloatKind.f64.format.order (gapD (wd (rowOf (stepRow (wC xs ws n) ws n) k)) (wd (rowOf ws k))) 4576918229304087675 == some .gt) = false ∧
    (∀ w, (convert 31 37 (.float .f32 (rowOf (stepRow (wC xs ws n) ws n) k))).run Try.prog w = .ok (.float .f64 (wd (rowOf (stepRow (wC xs ws n) ws n) k))) w) ∧ (∀ w, (convert 31 37 (.float .f32 (rowOf ws k))).run Try.prog w = .ok (.float .f64 (wd (rowOf ws k))) w) := by
  obtain ⟨g1, g2⟩ := wC_step h hw h5 hk
  have hn := hw.nn k hk
  have t1 : val (rowOf ws k) ≤ 4 * uE := (hw.bd k hk).2
  have t2 : val (rowOf (stepRow (wC xs ws n) ws n) k) ≤ 8 * uE := by
    have := g2.symm.twice (by decide)
    omega
  have tt : 8 * uE ≤ uT := by decide
  have hx := (wd_near g1 (Nat.le_trans t2 tt)).2.1
  have hy := (wd_near hn (Nat.le_trans t1 (by omega))).2.1
  have hgap := gap_near (T := 8 * uE) (r := 4576918229304087675) g1 hn g2 (by decide) t2 (by omega) tt (by decide +kernel)
  have hg := gt_key (f := double) (by decide) (gap_notNan hx hy) (show isNan double 4576918229304087675 = false by decide +kernel)
  have hc : key double 4576918229304087675 = 4576918229304087675 := by decide +kernel
  rw [hc] at hg
  exact ⟨⟨hx, hy⟩, hg.trans (decide_eq_false (by omega)), fun w => wd_run g1 (Nat.le_trans t2 tt) w, fun w => wd_run hn (Nat.le_trans t1 (by omega)) w⟩
/-- a row at rest, or none -/
def RestOut (xs : List Nat) (n near : Nat) (w : World) (e : Ending) (w' : World) : Prop :=
  match restT xs n near 500 with
  | some t => ∃ A c, e = .returned (.tuple #[.slice A n c, .int .i64 ((t + 1 : Nat) : Int), .bool true]) ∧ w'.ownsRow w.heap.size 31 1 (.slice A n c) n (fl (restR xs n (t + 1))) ∧ Below w.heap.size w w'
  | none => ∃ A c, e = .returned (.tuple #[.slice A 0 c, .int .i64 0, .bool false]) ∧ Below w.heap.size w w'
theorem restT_lt {near t M : Nat} (h : restT xs n near M = some t) : t < M := by
  unfold restT at h
  have := List.mem_of_find?_eq_some h
  exact List.mem_range.1 this
theorem specRestOf_at {A : Option Addr} {c near : Nat} {W : World} (h : Chn 32 7 n xs) (h5 : n ≤ 5) (hn : leastB near = true) (hA : Rd W W.heap.size A (fl xs)) :
    Calls Try.prog 14 #[.agg #[.int .i64 n, .slice A (n * n : Nat) c], .float .f32 near, .int .i64 500] W (RestOut xs n near W) := by
  have hx := h.len
  have hnn : n * n ≤ 25 := Nat.mul_le_mul h5 h5
  have := specRestOf_ok n A xs c near 500 W (by omega) hA (h.valid (by decide)) hn (by decide)
  rw [hx] at this
  refine this.mono fun e w' h' => ?_
  unfold rtGive at h'
  unfold RestOut
  cases ht : restT xs n near 500 with
  | none =>
    rw [ht] at h'
    obtain ⟨A', c', h1, -, h3⟩ := h'
    exact ⟨A', c', h1, h3⟩
  | some t =>
    rw [ht] at h'
    obtain ⟨A', c', h1, h2, h3⟩ := h'
    have hl : (restR xs n (t + 1)).length = n := ((rest_rows h h5 (t + 1) (by have := restT_lt ht; omega)).1).len
    have e1 : restL xs n (some t) = restR xs n (t + 1) := rfl
    rw [e1, hl] at h1 h2
    exact ⟨A', c', h1, h2, h3⟩
theorem rest_row (h : Chn 32 7 n xs) (h5 : n ≤ 5) {near t : Nat} (ht : restT xs n near 500 = some t) : Rw 128 2 n (restR xs n (t + 1)) := (rest_rows h h5 (t + 1) (by have := restT_lt ht; omega)).1
theorem rest_cases {near : Nat} {w w' : World} {e : Ending} (h : Chn 32 7 n xs) (h5 : n ≤ 5) (ho : RestOut xs n near w e w') :
    Below w.heap.size w w' ∧ ((∃ (r : List Nat) (t : Int) (A : Option Addr) (c : Nat), e = .returned (.tuple #[.slice A n c, .int .i64 t, .bool true]) ∧ Rd w' w'.heap.size A (fl r) ∧ Rw 128 2 n r) ∨ ∃ (A : Option Addr) (c : Nat), e = .returned (.tuple #[.slice A 0 c, .int .i64 0, .bool false])) := by
  unfold RestOut at ho
  cases ht : restT xs n near 500 with
  | none =>
    rw [ht] at ho
    obtain ⟨A, c, h1, h2⟩ := ho
    exact ⟨h2, .inr ⟨A, c, h1⟩⟩
  | some t =>
    rw [ht] at ho
    obtain ⟨A, c, h1, h2, h3⟩ := ho
    exact ⟨h3, .inl ⟨_, _, A, c, h1, Rd.of_own h2, rest_row h h5 ht⟩⟩
/-- the chain that goes back, or none -/
def BackOut (ys r : List Nat) (n : Nat) (w : World) (e : Ending) (w' : World) : Prop :=
  if validB n (tab n (backF ys r n)) = true then ChOut n (tab n (backF ys r n)) w e w' else ChNone w e w'
theorem back_out {ys r : List Nat} {w w' : World} {e : Ending} (h : chGive n (tab n (backF ys r n)) w e w') : BackOut ys r n w e w' := by
  unfold BackOut
  split
  · rename_i hv
    exact chGive_yes h hv (tab_len _ _)
  · rename_i hv
    exact chGive_no h (by simpa using hv)
theorem back_yes {ys r : List Nat} {w w' : World} {e : Ending} (h : BackOut ys r n w e w') (hv : validB n (tab n (backF ys r n)) = true) : ChOut n (tab n (backF ys r n)) w e w' := by
  unfold BackOut at h
  rwa [if_pos hv] at h
theorem back_no {ys r : List Nat} {w w' : World} {e : Ending} (h : BackOut ys r n w e w') (hv : validB n (tab n (backF ys r n)) = false) : ChNone w e w' := by
  unfold BackOut at h
  rwa [if_neg (by rw [hv]; simp)] at h
theorem BackChain_at {A B : Option Addr} {c d : Nat} {W : World} {ys r : List Nat} (hv : validB n ys = true) (hl : ys.length = n * n) (hr : Rw 128 2 n r) (h1 : 1 ≤ n) (h2 : n ≤ 12) (hc1 : n * n ≤ c) (hc2 : c ≤ 9223372036854775807) (hA : Rd W W.heap.size A (fl ys)) (hB : Rd W W.heap.size B (fl r)) :
    Calls Try.prog 16 #[.agg #[.int .i64 n, .slice A (n * n : Nat) c], .slice B n d] W (BackOut ys r n W) := by
  have hrl := hr.len
  have := BackChain_ok n A ys c B r d W (by omega) hc2 hA hB (bk_valid hv hr h1 h2)
  rw [hl, hrl] at this
  exact this.mono fun e w' h' => back_out h'
theorem specBackChain_at {A B : Option Addr} {c d : Nat} {W : World} {ys r : List Nat} (hv : validB n ys = true) (hl : ys.length = n * n) (hr : Rw 128 2 n r) (h1 : 1 ≤ n) (h2 : n ≤ 12) (hA : Rd W W.heap.size A (fl ys)) (hB : Rd W W.heap.size B (fl r)) :
    Calls Try.prog 15 #[.agg #[.int .i64 n, .slice A (n * n : Nat) c], .slice B n d] W (BackOut ys r n W) := by
  have hrl := hr.len
  have hnn : n * n ≤ 144 := Nat.mul_le_mul h2 h2
  have := specBackChain_ok n A ys c B r d W (by omega) hA hB (bk_valid hv hr h1 h2)
  rw [hl, hrl] at this
  exact this.mono fun e w' h' => back_out h'
/-- the chain that went back twice -/
def againC (xs r : List Nat) (n : Nat) : List Nat := tab n (backF (tab n (backF xs r n)) r n)
theorem again_gap {r : List Nat} (h : Chn 32 7 n xs) (hr : Rw 128 2 n r) {p : Nat} (hp : p < n * n) :
    (NN double (wd (rowOf (againC xs r n) p)) ∧ NN double (wd (rowOf xs p))) ∧ (FloatKind.f64.format.order (gapD (wd (rowOf (againC xs r n) p)) (wd (rowOf xs p))) 4562254508917369340 == some .gt) = false ∧
    (∀ w, (convert 31 37 (.float .f32 (rowOf (againC xs r n) p))).run Try.prog w = .ok (.float .f64 (wd (rowOf (againC xs r n) p))) w) ∧ (∀ w, (convert 31 37 (.float .f32 (rowOf xs p))).run Try.prog w = .ok (.float .f64 (wd (rowOf xs p))) w) := by
  have hlow := h.low
  have h1 : p / n < n := (Nat.div_lt_iff_lt_mul (by omega)).2 hp
  have h2 : p % n < n := Nat.mod_lt _ (by omega)
  have e1 : rowOf xs p = stepOf xs n (p / n) (p % n) := by
    unfold rowOf stepOf
    rw [Nat.mul_comm, Nat.div_add_mod]
  have e2 : rowOf (againC xs r n) p = backF (tab n (backF xs r n)) r n (p / n) (p % n) := by
    rw [← stepOf_tab n (backF (tab n (backF xs r n)) r n) h1 h2]
    unfold rowOf stepOf
    rw [Nat.mul_comm, Nat.div_add_mod]
    rfl
  rw [e1, e2]
  obtain ⟨g1, g2⟩ := back_twice h hr h1 h2
  have hn := h.nn _ _ h1 h2
  have t1 : val (stepOf xs n (p / n) (p % n)) ≤ 1 * uE := (h.bd _ _ h1 h2).2
  have t2 : val (backF (tab n (backF xs r n)) r n (p / n) (p % n)) ≤ 2 * uE := by
    have := g2.symm.twice (by decide)
    omega
  have tt : 2 * uE ≤ uT := by decide
  have hx := (wd_near g1 (Nat.le_trans t2 tt)).2.1
  have hy := (wd_near hn (Nat.le_trans t1 (by omega))).2.1
  have hgap := gap_near (T := 2 * uE) (r := 4562254508917369340) g1 hn g2 (by decide) t2 (by omega) tt (by decide +kernel)
  have hg := gt_key (f := double) (by decide) (gap_notNan hx hy) (show isNan double 4562254508917369340 = false by decide +kernel)
  have hc : key double 4562254508917369340 = 4562254508917369340 := by decide +kernel
  rw [hc] at hg
  exact ⟨⟨hx, hy⟩, hg.trans (decide_eq_false (by omega)), fun w => wd_run g1 (Nat.le_trans t2 tt) w, fun w => wd_run hn (Nat.le_trans t1 (by omega)) w⟩
end
end Go.Proofs.Ytlhepgdheopgaaa
