/-
  What the law on the rows of chains asks of the program: StepRow, JoinChains, RunRow, RestOf, ValidChain, SameChain, IsRow, LazyChain, RingChain, GroupsOfChain, and the laws' helpers.
-/
import Derived.Test.YtlhepgdheopgaaaCr3
import Derived.Test.YtlhepgdheopgaaaBh0
import Derived.Test.YtlhepgdheopgaaaBc
import Derived.Test.YtlhepgdheopgaaaRt1
import Derived.Test.YtlhepgdheopgaaaSame
import Derived.Test.YtlhepgdheopgaaaRing
import Derived.Test.YtlhepgdheopgaaaGr4
import Derived.Test.YtlhepgdheopgaaaFrb
namespace Go.Proofs.Ytlhepgdheopgaaa
open Go Go.RowKit Ieee

theorem fdiv_lt' (x y : Nat) : fdiv x y < 4294967296 := by
  unfold fdiv Format.div
  cases (single.read x).quotient (single.fractionBits + 2) (single.read y) with
  | none => decide
  | some d => exact write_lt d
theorem sameB_refl (x : Nat) : sameB x x = true := by simp [sameB]
theorem sameAllB_refl (xs : List Nat) : sameAllB xs xs = true := by
  unfold sameAllB
  rw [decide_eq_true rfl, Bool.true_and, List.all_eq_true]
  intro p hp
  have : p.1 = p.2 := by
    rw [List.mem_iff_getElem] at hp
    obtain ⟨i, hi, rfl⟩ := hp
    simp
  rw [this]
  exact sameB_refl _
theorem src_lt {q : Nat → Nat → Nat} {n : Nat} : ∀ x ∈ tab n (srcF q n), x < 4294967296 := by
  intro x hx
  unfold tab tabTo at hx
  rw [List.mem_map] at hx
  obtain ⟨p, -, rfl⟩ := hx
  exact fdiv_lt' _ _
theorem step_lt (xs row : List Nat) {n : Nat} (hn : 1 ≤ n) : ∀ x ∈ stepRow xs row n, x < 4294967296 := by
  intro x hx
  unfold stepRow at hx
  rw [List.mem_map] at hx
  obtain ⟨k, -, rfl⟩ := hx
  obtain ⟨m, rfl⟩ : ∃ m, n = m + 1 := ⟨n - 1, by omega⟩
  exact fadd_lt _ _
section
variable {n : Nat} {xs : List Nat}
/-- a step of whatever chain -/
theorem StepRow_gen {c e c' d n : Nat} {ys r : List Nat} {A B : Option Addr} {ca cb : Nat} {W : World} (h : Chn c e n ys) (he : e ≤ 100) (hr : Rw c' d n r) (hf : ∀ k, k < n → NN single (rowOf (stepRow ys r n) k)) (hc1 : n * n ≤ ca) (hc2 : ca ≤ 9223372036854775807) (hA : Rd W W.heap.size A (fl ys)) (hB : Rd W W.heap.size B (fl r)) :
    Calls Try.prog 12 #[.agg #[.int .i64 n, .slice A (n * n : Nat) ca], .slice B n cb] W (fun e w' => ∃ A' c', e = .returned (.tuple #[.slice A' n c', .bool true]) ∧ w'.ownsRow W.heap.size 31 1 (.slice A' n c') n (fl (stepRow ys r n)) ∧ Below W.heap.size W w') := by
  have hx := h.len
  have hl := hr.len
  have := StepRow_ok n A ys ca B r cb W (by omega) hc2 hA hB (fit_of h he hr)
  have hf : (stepRow ys r n).all (isFin single) = true := by
    rw [List.all_eq_true]
    intro x hx
    obtain ⟨k, hk, rfl⟩ := mem_rowOf hx
    rw [stepRow_len] at hk
    exact (hf k hk).1
  unfold rowGive flOut at this
  rw [hf, if_pos rfl, stepRow_len, hx, hl] at this
  exact this
theorem JoinChains_at {A : Option Addr} {c : Nat} {W : World} (h : Chn 32 7 n xs) (h2 : 2 ≤ n) (h5 : n ≤ 5) (hc1 : n * n ≤ c) (hc2 : c ≤ 9223372036854775807) (hA : Rd W W.heap.size A (fl xs)) :
    Calls Try.prog 17 #[.agg #[.int .i64 n, .slice A (n * n : Nat) c], .agg #[.int .i64 n, .slice A (n * n : Nat) c]] W (ChOut n (joinL xs n) W) := by
  have hx := h.len
  have hv := h.valid (by decide)
  have := JoinChains_ok n A xs c A xs c W (by omega) hc2 (by omega) hc2 hA hA hv hv
  rw [hx] at this
  exact this.mono fun e w' h' => chGive_yes h' ((join_chn h h2 h5).valid (by decide)) (tab_len _ _)
theorem LazyChain_at {A : Option Addr} {c : Nat} {W : World} (h : Chn 32 7 n xs) (h2 : 2 ≤ n) (hc1 : n * n ≤ c) (hc2 : c ≤ 9223372036854775807) (hA : Rd W W.heap.size A (fl xs)) :
    Calls Try.prog 24 #[.agg #[.int .i64 n, .slice A (n * n : Nat) c], .float .f32 1056964608] W (ChOut n (lazyL xs n) W) := by
  have hx := h.len
  have := LazyChain_ok n A xs c 1056964608 W (by omega) hc2 hA (h.valid (by decide)) half_lit.2.2.2
  rw [hx] at this
  exact this.mono fun e w' h' => chGive_yes h' ((lazy_chn h h2).valid (by decide)) (tab_len _ _)
theorem RunRow_at {ws : List Nat} {A B : Option Addr} {c d : Nat} {W : World} (h : Chn 32 7 n xs) (hw : Rw 4 4 n ws) (h5 : n ≤ 5) (hc1 : n * n ≤ c) (hc2 : c ≤ 9223372036854775807) (hA : Rd W W.heap.size A (fl xs)) (hB : Rd W W.heap.size B (fl ws)) :
    Calls Try.prog 18 #[.agg #[.int .i64 n, .slice A (n * n : Nat) c], .slice B n d, .int .i64 2] W (fun e w' => ∃ A' c', e = .returned (.tuple #[.slice A' n c', .bool true]) ∧ w'.ownsRow W.heap.size 31 1 (.slice A' n c') n (fl (stepRow xs (stepRow xs ws n) n)) ∧ Below W.heap.size W w') := by
  have hx := h.len
  have hl := hw.len
  have := RunRow_ok n A xs c B ws d 2 W (by omega) hc2 hA hB (fit_of h (by decide) hw) (by decide)
  have f1 : (stepRow xs ws n).all (isFin single) = true := by
    rw [List.all_eq_true]
    intro x hx
    obtain ⟨k, hk, rfl⟩ := mem_rowOf hx
    rw [stepRow_len] at hk
    exact ((next_row h hw h5).1.nn k hk).1
  have f2 : (stepRow xs (stepRow xs ws n) n).all (isFin single) = true := by
    rw [List.all_eq_true]
    intro x hx
    obtain ⟨k, hk, rfl⟩ := mem_rowOf hx
    rw [stepRow_len] at hk
    exact (then_row h hw h5 hk).1.1
  have e1 : runRow xs n 2 ws = some (stepRow xs (stepRow xs ws n) n) := by
    show (if (stepRow xs ws n).all (isFin single) = true then (if (stepRow xs (stepRow xs ws n) n).all (isFin single) = true then some (stepRow xs (stepRow xs ws n) n) else none) else none) = _
    rw [if_pos f1, if_pos f2]
  unfold runGive runOk flOut at this
  rw [e1, Option.getD_some, Option.isSome_some, stepRow_len, hx, hl] at this
  exact this
theorem RestOf_at {A : Option Addr} {c t : Nat} {W : World} (h : Chn 32 7 n xs) (h5 : n ≤ 5) (ht : t < 300) (hT : restT xs n nearF 300 = some t) (hc1 : n * n ≤ c) (hc2 : c ≤ 9223372036854775807) (hA : Rd W W.heap.size A (fl xs)) :
    Calls Try.prog 19 #[.agg #[.int .i64 n, .slice A (n * n : Nat) c], .float .f32 953267991, .int .i64 300] W (fun e w' => ∃ A' c', e = .returned (.tuple #[.slice A' n c', .int .i64 ((t + 1 : Nat) : Int), .bool true]) ∧ w'.ownsRow W.heap.size 31 1 (.slice A' n c') n (fl (restR xs n (t + 1))) ∧ Below W.heap.size W w') := by
  have hx := h.len
  have := RestOf_ok n A xs c nearF 300 W (by omega) hc2 hA (h.valid (by decide)) near_lit.2.2.2 (by decide)
  have hl : (restR xs n (t + 1)).length = n := ((rest_rows h h5 (t + 1) (by omega)).1).len
  have e1 : restL xs n (some t) = restR xs n (t + 1) := rfl
  unfold rtGive rtOut at this
  rw [hT, e1, hl, hx] at this
  exact this
theorem ValidChain_at {A : Option Addr} {c : Nat} {W : World} (h : Chn 32 7 n xs) (hc1 : n * n ≤ c) (hc2 : c ≤ 9223372036854775807) (hA : Rd W W.heap.size A (fl xs)) :
    Calls Try.prog 20 #[.agg #[.int .i64 n, .slice A (n * n : Nat) c]] W (fun e w' => e = .returned (.bool true) ∧ Below W.heap.size W w') := by
  have hx := h.len
  have := ValidChain_any n A xs c W (by omega) hc2 hA
  rw [hx, h.valid (by decide)] at this
  exact this
theorem SameChain_at {A : Option Addr} {c : Nat} {W : World} (hx : xs.length = n * n) (hn : n ≤ 5) (hb : ∀ x ∈ xs, x < 4294967296) (hA : Rd W W.heap.size A (fl xs)) :
    Calls Try.prog 21 #[.agg #[.int .i64 n, .slice A (n * n : Nat) c], .agg #[.int .i64 n, .slice A (n * n : Nat) c]] W (fun e w' => e = .returned (.bool true) ∧ Below W.heap.size W w') := by
  have hnn : n * n ≤ 25 := Nat.mul_le_mul hn hn
  have := SameChain_any n n A A xs xs c c W (by omega) (by omega) hb hb hA hA
  have e : sameChainB n n xs xs = true := by
    unfold sameChainB
    rw [sameAllB_refl]
    simp
  rw [hx, e] at this
  exact this
theorem IsRow_at {ws : List Nat} {B : Option Addr} {d : Nat} {W : World} (hw : Rw 4 4 n ws) (h1 : 1 ≤ n) (h5 : n ≤ 5) (hB : Rd W W.heap.size B (fl ws)) :
    Calls Try.prog 22 #[.slice B n d] W (fun e w' => e = .returned (.bool true) ∧ Below W.heap.size W w') := by
  have hl := hw.len
  have := IsRow_any B ws d W (by omega) hB
  rw [hl, hw.rowB h1 (by omega)] at this
  exact this.mono fun _ _ h => h.below
theorem specSameNumber_any (x y : Nat) (w : World) (hx : x < 4294967296) (hy : y < 4294967296) : Calls Try.prog 60 #[.float .f32 x, .float .f32 y] w (Quiet (.bool (sameB x y)) w) := by
  have h1 := Lib.hid fun w => l01Same_any x y w hx hy
  clear hx hy
  go_enter Try.func60, Try.ntmps60
  go_wp2_with fail
  refine (h1.out _).mono ?_
  rintro e w1 ⟨rfl, n1, rfl⟩
  go_wp2_with fail
  go_ret
  exact ⟨rfl, n1, rfl⟩
end
set_option maxHeartbeats 1600000 in
/-- two lists with the same numbers -/
theorem b10List_same (A B : Option Addr) (r : List Nat) (n c d : Nat) (W : World) (hl : r.length = n) (hn : n ≤ 12) (hb : ∀ x ∈ r, x < 4294967296) (hA : Rd W W.heap.size A (fl r)) (hB : Rd W W.heap.size B (fl r)) :
    Calls Try.prog 23 #[.slice A n c, .slice B n d] W (Quiet (.bool true) W) := by
  have HC : Hid (∀ i, i < n → (∃ b o, A = some ⟨b, o, none⟩ ∧ W.cell? ⟨b, o + i, none⟩ = some (.float .f32 (rowOf r i))) ∧ (∃ b o, B = some ⟨b, o, none⟩ ∧ W.cell? ⟨b, o + i, none⟩ = some (.float .f32 (rowOf r i))) ∧ ∀ w, Calls Try.prog 60 #[.float .f32 (rowOf r i), .float .f32 (rowOf r i)] w (Quiet (.bool true) w)) := Lib.hid fun i hi => by
    obtain ⟨ba, oa, rfl, -, hca⟩ := hA (by rw [fl_len]; omega)
    obtain ⟨bb, ob, rfl, -, hcb⟩ := hB (by rw [fl_len]; omega)
    refine ⟨⟨ba, oa, rfl, rowOf_cell (by omega) hca⟩, ⟨bb, ob, rfl, rowOf_cell (by omega) hcb⟩, fun w => ?_⟩
    have hm : rowOf r i < 4294967296 := by
      unfold rowOf
      rw [List.getD_eq_getElem?_getD, List.getElem?_eq_getElem (by omega)]
      exact hb _ (List.getElem_mem _)
    have := specSameNumber_any (rowOf r i) (rowOf r i) w hm hm
    rwa [sameB_refl] at this
  clear hA hB hb hl
  go_enter Try.func23, Try.ntmps23
  go_wp2_with fail
  go_loopw [13] (fun t wr => ∃ i m : Nat, i ≤ n ∧ t = .int .i64 i ∧ wr = W.drewN m) (fun t _ => n - (intOf t).toNat)
  case atStart => exact ⟨0, 0, Nat.zero_le _, rfl, rfl⟩
  case round =>
    obtain ⟨i, m, hi, rfl, rfl⟩ := hrel
    by_cases hlt : i < n
    · obtain ⟨⟨ba, oa, rfl, ca⟩, ⟨bb, ob, rfl, cb⟩, hs⟩ := HC.out i hlt
      have HS := Lib.hid hs
      clear hs
      generalize rowOf r i = x at *
      go_wp2_with fail
      go_quiet ((go_at_call 60; first | exact quiet_one (HS.out _) | exact quiet_add (HS.out _)))
      go_wp2_with fail
      go_roundw
      case rel => exact ⟨i + 1, _, by omega, by go_num, rfl⟩
      case measure => simp [intOf]; omega
    · obtain rfl : n = i := by omega
      clear HC
      go_wp2_with fail
      go_ret
      exact ⟨rfl, m, rfl⟩

/-! ### the sums -/
section
variable {n : Nat} {xs ws : List Nat}
def Cv (x : Nat) : Prop := ∀ w, (convert 31 37 (.float .f32 x)).run Try.prog w = .ok (.float .f64 (wd x)) w
theorem round_facts {t i : Nat} (h : Chn 32 7 n xs) (hw : Rw 4 4 n ws) (h2 : 2 ≤ n) (h5 : n ≤ 5) (ht : t < 300) (hi : i < n) :
    (Cv (rowOf ws i) ∧ Cv (rowOf (stepRow xs ws n) i) ∧ Cv (rowOf (stepRow xs (stepRow xs ws n) n) i) ∧ Cv (rowOf (stepRow (joinL xs n) ws n) i) ∧ Cv (rowOf (restR xs n (t + 1)) i)) ∧
    (floatBits .add .f64 (sumD (rowOf ws) i) (wd (rowOf ws i)) = some (sumD (rowOf ws) (i + 1)) ∧ floatBits .add .f64 (sumD (rowOf (stepRow xs ws n)) i) (wd (rowOf (stepRow xs ws n) i)) = some (sumD (rowOf (stepRow xs ws n)) (i + 1)) ∧ floatBits .add .f64 (sumD (rowOf (restR xs n (t + 1))) i) (wd (rowOf (restR xs n (t + 1)) i)) = some (sumD (rowOf (restR xs n (t + 1))) (i + 1))) ∧
    ∃ s b, floatBits .add .f64 4607182418800017408 (wd (rowOf (stepRow xs (stepRow xs ws n) n) i)) = some s ∧ floatBits .mul .f64 4562254508917369340 s = some b ∧ (FloatKind.f64.format.order (gapD (wd (rowOf (stepRow xs (stepRow xs ws n) n) i)) (wd (rowOf (stepRow (joinL xs n) ws n) i))) b == some .gt) = false ∧
      ∀ w, Calls Try.prog 13 #[.float .f64 (wd (rowOf (stepRow xs (stepRow xs ws n) n) i)), .float .f64 (wd (rowOf (stepRow (joinL xs n) ws n) i))] w (Quiet (.float .f64 (gapD (wd (rowOf (stepRow xs (stepRow xs ws n) n) i)) (wd (rowOf (stepRow (joinL xs n) ws n) i)))) w) := by
  obtain ⟨hr, hm, hv⟩ := next_row h hw h5
  have t80 : 80 * uE ≤ uT := by decide
  have t4 : 4 * (40 * uE) ≤ uT := by decide
  have u1 : ∀ k, k < n → NN single (rowOf ws k) ∧ val (rowOf ws k) ≤ uT := fun k hk => ⟨hw.nn k hk, by have := (hw.bd k hk).2; omega⟩
  have u2 : ∀ k, k < n → NN single (rowOf (stepRow xs ws n) k) ∧ val (rowOf (stepRow xs ws n) k) ≤ uT := fun k hk => ⟨hr.nn k hk, by have := (hr.bd k hk).2; omega⟩
  have u3 := then_row h hw h5 hi
  obtain ⟨u4, u5, u6⟩ := twice_gap h hw h2 h5 hi
  have u7 : ∀ k, k < n → NN single (rowOf (restR xs n (t + 1)) k) ∧ val (rowOf (restR xs n (t + 1)) k) ≤ uT := fun k hk => by
    have := rest_top h h5 (t := t + 1) (by omega) hk
    exact ⟨this.1, by have := this.2; omega⟩
  have q1 : 4 * sumN (fun k => val (rowOf ws k)) n ≤ uT := by
    have : sumN (fun k => val (rowOf ws k)) n ≤ 20 * uE := hv
    omega
  have q2 : 4 * sumN (fun k => val (rowOf (stepRow xs ws n) k)) n ≤ uT := by
    have h1 : rowV (stepRow xs ws n) n ≤ 40 * uE := by have := hm.symm.twice (by decide); omega
    have h3 : sumN (fun k => val (rowOf (stepRow xs ws n) k)) n ≤ 40 * uE := h1
    omega
  have q3 : 4 * sumN (fun k => val (rowOf (restR xs n (t + 1)) k)) n ≤ uT := by
    have h1 := (rest_rows h h5 (t + 1) (by omega)).2.symm.twice (by have : (20000 : Nat) ≤ kA := by decide
                                                                    omega)
    have h3 : sumN (fun k => val (rowOf (restR xs n (t + 1)) k)) n ≤ 2 * uE := h1
    omega
  obtain ⟨-, z2, -⟩ := wd_near u3.1 (Nat.le_trans u3.2 (by omega))
  obtain ⟨-, y2, -⟩ := wd_near u4 (Nat.le_trans u5 (by omega))
  have hb : 2 * gval double (wd (rowOf (stepRow xs (stepRow xs ws n) n) i)) ≤ uT * uD := by
    have h1 := (wd_near u3.1 (Nat.le_trans u3.2 (by omega))).2.2.twice (by decide)
    have h3 : 160 * uE * uD ≤ uT * uD := Nat.mul_le_mul_right _ (by decide)
    have h4 := Nat.mul_le_mul_right uD u3.2
    rw [Nat.mul_assoc] at h3 h4
    omega
  obtain ⟨s, k1, b, k2, k3, k4⟩ := bound_run z2 hb
  refine ⟨⟨fun w => wd_run (u1 i hi).1 (u1 i hi).2 w, fun w => wd_run (u2 i hi).1 (u2 i hi).2 w, fun w => wd_run u3.1 (Nat.le_trans u3.2 (by omega)) w, fun w => wd_run u4 (Nat.le_trans u5 (by omega)) w, fun w => wd_run (u7 i hi).1 (u7 i hi).2 w⟩,
    ⟨sumD_run (sumD_near n h.top u1 q1 i (by omega)).1 (u1 i hi).1 (u1 i hi).2, sumD_run (sumD_near n h.top u2 q2 i (by omega)).1 (u2 i hi).1 (u2 i hi).2, sumD_run (sumD_near n h.top u7 q3 i (by omega)).1 (u7 i hi).1 (u7 i hi).2⟩,
    s, b, k1, k2, ?_, fun w => b10Gap_quiet _ _ w z2 y2⟩
  exact gt_no (gap_notNan z2 y2) k3 u6 k4
theorem sums_facts {t : Nat} (h : Chn 32 7 n xs) (hw : Rw 4 4 n ws) (h5 : n ≤ 5) (ht : t < 300) :
    (∃ s b, floatBits .add .f64 4607182418800017408 (sumD (rowOf ws) n) = some s ∧ floatBits .mul .f64 4562254508917369340 s = some b ∧ (FloatKind.f64.format.order (gapD (sumD (rowOf ws) n) (sumD (rowOf (stepRow xs ws n)) n)) b == some .gt) = false) ∧
    (∀ w, Calls Try.prog 13 #[.float .f64 (sumD (rowOf ws) n), .float .f64 (sumD (rowOf (stepRow xs ws n)) n)] w (Quiet (.float .f64 (gapD (sumD (rowOf ws) n) (sumD (rowOf (stepRow xs ws n)) n))) w)) ∧
    (FloatKind.f64.format.order (gapD (sumD (rowOf (restR xs n (t + 1))) n) 4607182418800017408) 4576918229304087675 == some .gt) = false ∧
    (∀ w, Calls Try.prog 13 #[.float .f64 (sumD (rowOf (restR xs n (t + 1))) n), .float .f64 4607182418800017408] w (Quiet (.float .f64 (gapD (sumD (rowOf (restR xs n (t + 1))) n) 4607182418800017408)) w)) := by
  obtain ⟨a1, a2, a3, a4⟩ := sums_gap h hw h5
  obtain ⟨b1, b2⟩ := whole_gap h h5 (t := t + 1) (by omega)
  obtain ⟨s, k1, b, k2, k3, k4⟩ := bound_run a1 a3
  refine ⟨⟨s, b, k1, k2, gt_no (gap_notNan a1 a2) k3 a4 k4⟩, fun w => b10Gap_quiet _ _ w a1 a2, gt_no (gap_notNan b1 oneD_ok.1) hundD_ok.2.2 b2 (Int.le_of_eq hundD_ok.1.symm), fun w => b10Gap_quiet _ _ w b1 oneD_ok.1⟩
/-- the second round: the row at rest behind one more step, and behind a lazy one -/
theorem still_facts {t i : Nat} (h : Chn 32 7 n xs) (hth : Thick n xs) (h2 : 2 ≤ n) (h5 : n ≤ 5) (ht : t < 300) (ha : restA xs n t ≤ 5 * mu single (nearF + 1)) (hi : i < n) :
    (Cv (rowOf (stepRow xs (restR xs n (t + 1)) n) i) ∧ Cv (rowOf (stepRow (lazyL xs n) (restR xs n (t + 1)) n) i) ∧ Cv (rowOf (restR xs n (t + 1)) i)) ∧
    (FloatKind.f64.format.order (gapD (wd (rowOf (stepRow xs (restR xs n (t + 1)) n) i)) (wd (rowOf (restR xs n (t + 1)) i))) 4562254508917369340 == some .gt) = false ∧
    (FloatKind.f64.format.order (gapD (wd (rowOf (stepRow (lazyL xs n) (restR xs n (t + 1)) n) i)) (wd (rowOf (restR xs n (t + 1)) i))) 4562254508917369340 == some .gt) = false ∧
    (NN double (wd (rowOf (stepRow xs (restR xs n (t + 1)) n) i)) ∧ NN double (wd (rowOf (stepRow (lazyL xs n) (restR xs n (t + 1)) n) i)) ∧ NN double (wd (rowOf (restR xs n (t + 1)) i))) := by
  have t80 : 80 * uE ≤ uT := by decide
  obtain ⟨x1, x2⟩ := rest_top h h5 (t := t + 1) (by omega) hi
  obtain ⟨y1, y2⟩ := rest_top h h5 (t := t + 2) (by omega) hi
  obtain ⟨z1, z2, z3⟩ := slow_gap h hth h2 h5 ht ha hi
  have s3 := still_gap h hth h5 ht ha hi
  have c1 : val (rowOf (restR xs n (t + 1)) i) ≤ uT := by omega
  have c2 : val (rowOf (stepRow xs (restR xs n (t + 1)) n) i) ≤ uT := Nat.le_trans y2 (by omega)
  have c3 : val (rowOf (stepRow (lazyL xs n) (restR xs n (t + 1)) n) i) ≤ uT := by omega
  have n1 := (wd_near x1 c1).2.1
  have n2 := (wd_near y1 c2).2.1
  have n3 := (wd_near z1 c3).2.1
  refine ⟨⟨fun w => wd_run y1 c2 w, fun w => wd_run z1 c3 w, fun w => wd_run x1 c1 w⟩, ?_, ?_, n2, n3, n1⟩
  · exact gt_no (gap_notNan n2 n1) thouD_ok.2.2.2.2.2.2 s3 (Int.le_of_eq thouD_ok.2.2.2.2.1.symm)
  · exact gt_no (gap_notNan n3 n1) thouD_ok.2.2.2.2.2.2 z3 (Int.le_of_eq thouD_ok.2.2.2.2.1.symm)
end
/-! ### rings -/
theorem ring_lit : ∀ b : Nat, b < 5 → ringOk ((3 + b : Nat) : Int) 1056964608 1048576000 = true ∧ validB ((3 + b : Nat) : Int) (tab (3 + b) (ringF (3 + b) 1056964608 1048576000 (leftB 1056964608 1048576000))) = true ∧ (groupsTo (seenB (adjC (tab (3 + b) (ringF (3 + b) 1056964608 1048576000 (leftB 1056964608 1048576000))) (3 + b)) (3 + b)) (3 + b)).1 = List.replicate (3 + b) 0 := by decide +kernel
def ringL (n : Nat) : List Nat := tab n (ringF n 1056964608 1048576000 (leftB 1056964608 1048576000))
theorem RingChain_at {b : Nat} (hb : b < 5) (W : World) : Calls Try.prog 25 #[.int .i64 (3 + b : Nat), .float .f32 1056964608, .float .f32 1048576000] W (ChOut (3 + b) (ringL (3 + b)) W) :=
  (RingChain_ok (3 + b) 1056964608 1048576000 W (ring_lit b hb).1).mono fun _ _ h' => chGive_yes h' (ring_lit b hb).2.1 (tab_len _ _)
theorem GroupsOfChain_at {b : Nat} (hb : b < 5) {A : Option Addr} {c : Nat} {W : World} (hc1 : (3 + b) * (3 + b) ≤ c) (hc2 : c ≤ 9223372036854775807) (hA : Rd W W.heap.size A (fl (ringL (3 + b)))) :
    Calls Try.prog 27 #[.agg #[.int .i64 (3 + b : Nat), .slice A ((3 + b) * (3 + b) : Nat) c]] W (fun e w' => ∃ A' c', e = .returned (.tuple #[.slice A' (3 + b : Nat) c', .bool true]) ∧ w'.ownsRow W.heap.size 2 1 (.slice A' (3 + b : Nat) c') (3 + b) (il (List.replicate (3 + b) 0)) ∧ Below W.heap.size W w') := by
  have hx : (ringL (3 + b)).length = (3 + b) * (3 + b) := tab_len _ _
  obtain ⟨-, h2, h3⟩ := ring_lit b hb
  have := GroupsOfChain_ok (3 + b) A (ringL (3 + b)) c W (by omega) hc2 hA h2
  unfold grOut at this
  have h3' : (groupsTo (seenB (adjC (ringL (3 + b)) (3 + b)) (3 + b)) (3 + b)).1 = List.replicate (3 + b) 0 := h3
  rw [h3', List.length_replicate, hx] at this
  exact this
set_option maxHeartbeats 800000 in
theorem b10At_any (A : Option Addr) (n c i N : Nat) (w : World) (_hn : n ≤ 9223372036854775807) (hN : 1 < N ∧ N ≤ 1000) (hi : i ≤ 1000) (h : BR w A n) :
    Calls Try.prog 26 #[.slice A n c, .int .i64 i, .int .i64 N] w (fun e w' => ∃ v : Nat, v < N ∧ e = .returned (.int .i64 v) ∧ w = w') := by
  have hN' : ¬ (N : Int) ≤ 1 := by omega
  have hN2 : (1 : Int) < N := by omega
  by_cases hlt : i < n
  · have hlt' : (i : Int) < (n : Int) := by omega
    obtain ⟨b, off, v, rfl, hb, hv, hc⟩ := h i hlt
    go_enter Try.func26, Try.ntmps26
    go_wp2
    go_ret
    exact ⟨v % N, Nat.mod_lt _ (by omega), rfl, rfl⟩
  · have hlt' : ¬ (i : Int) < (n : Int) := by omega
    go_enter Try.func26, Try.ntmps26
    go_wp2
    go_ret
    refine ⟨(i * 37 + 11) % N, Nat.mod_lt _ (by omega), ?_, rfl⟩
    rw [Int.natCast_emod, Int.natCast_add, Int.natCast_mul]
    rfl
end Go.Proofs.Ytlhepgdheopgaaa
