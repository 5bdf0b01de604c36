/-
  slices.Repeat of one number.
-/
import Derived.Test.YtlhepgdheopgaaaGw3
import Derived.Test.YtlhepgdheopgaaaSrs
import Derived.Laws.CopyOwn
import Derived.Deep.RegionLaw
namespace Go.Proofs.Ytlhepgdheopgaaa
open Go Go.RowKit Ieee

theorem Mul64_small (n : Nat) (w : World) (hn1 : 1 ≤ n) (hn2 : n ≤ 12) : Calls Try.prog 86 #[.int .u64 1, .int .u64 n] w (fun e w' => e = .returned (.tuple #[.int .u64 0, .int .u64 n]) ∧ w' = w) := by
  have h : n = 1 ∨ n = 2 ∨ n = 3 ∨ n = 4 ∨ n = 5 ∨ n = 6 ∨ n = 7 ∨ n = 8 ∨ n = 9 ∨ n = 10 ∨ n = 11 ∨ n = 12 := by omega
  clear hn1 hn2
  rcases h with rfl | rfl | rfl | rfl | rfl | rfl | rfl | rfl | rfl | rfl | rfl | rfl
  all_goals
    go_enter Try.func86, Try.ntmps86
    go_wp2
    go_ret2
    exact ⟨rfl, rfl⟩
theorem Mul_small (n : Nat) (w : World) (hn1 : 1 ≤ n) (hn2 : n ≤ 12) : Calls Try.prog 74 #[.int .u64 1, .int .u64 n] w (fun e w' => e = .returned (.tuple #[.int .u64 0, .int .u64 n]) ∧ w' = w) := by
  have HM := Lib.hid fun w => Mul64_small n w hn1 hn2
  have hw : IntKind.u64.wrap (n : Int) = (n : Int) := IntWalk.u64_in _ (by omega)
  go_enter Try.func74, Try.ntmps74
  go_wp2_with (go_at_call 86; refine (HM.out _).mono ?_; rintro e w1 ⟨rfl, rfl⟩)
  go_ret2
  exact ⟨rfl, rfl⟩
/-- a row of n numbers of which the first m are there -/
def repC (x n m : Nat) : List Value := List.replicate m (Value.float .f32 x) ++ List.replicate (n - m) (Value.float .f32 0)
theorem repC_len {x n m : Nat} (h : m ≤ n) : (repC x n m).length = n := by unfold repC; simp; omega
theorem repC_zero (x n : Nat) : repC x n 0 = List.replicate n (Value.float .f32 0) := rfl
theorem repC_step {x n m q : Nat} (h : m + q ≤ n) : splice (repC x n m) m (List.replicate q (Value.float .f32 x)) = repC x n (m + q) := by
  unfold splice repC
  rw [List.take_append_of_le_length (by simp), List.take_of_length_le (by simp), List.drop_append, List.drop_of_length_le (by simp), List.nil_append, ← List.append_assoc, List.replicate_append_replicate, List.length_replicate, List.length_replicate, List.drop_replicate]
  congr 2
  omega
theorem repC_all (x n : Nat) : repC x n n = fl (List.replicate n x) := by
  unfold repC fl
  rw [Nat.sub_self, List.replicate_zero, List.append_nil, List.map_replicate]
theorem repC_cell {w : World} {g x n m j : Nat} {t : TypeId} (hg : w.heap[g]? = some (.cells (repC x n m).toArray t (0, 0))) (hj : j < m) : w.cell? ⟨g, j, none⟩ = some (.float .f32 x) := by
  have hl : j < (repC x n m).toArray.size := by unfold repC; simp; omega
  unfold World.cell?
  rw [hg]
  simp only []
  unfold repC
  rw [List.getElem?_toArray, List.getElem?_append_left (by simpa using hj), List.getElem?_replicate, if_pos hj]
  rfl

theorem madeCells_rep (x n : Nat) : madeCells #[Value.float .f32 0] n = (repC x n 0).toArray := by
  rw [repC_zero, ← toList_madeCells_one, Array.toArray_toList]
set_option maxRecDepth 100000 in
/-- some of the row go over into it -/
theorem repC_copy {W w0 : World} {g B x n m q o : Nat} {ty : TypeId} {ad : Addr} {dLen dCap sLen sCap : Nat} (hg : W.heap[g]? = some (.cells (repC x n m).toArray 31 (0, 0))) (hq : q = Nat.min sLen dLen) (hsrc : ∀ j, j < q → W.cell? (ad.add j) = some (.float .f32 x)) (hmq : m + q ≤ n) (ho : o = m) (hb : Below B w0 W) (hB : B ≤ g) :
    ∃ W', (Builtin.copy_ #[24, 24] ty #[.slice (some ⟨g, o, none⟩) dLen dCap, .slice (some ad) sLen sCap]).run Try.prog W = .ok (.int .i64 q) W' ∧ W'.heap[g]? = some (.cells (repC x n (m + q)).toArray 31 (0, 0)) ∧ Below B w0 W' := by
  subst ho
  obtain ⟨i0, hi0, hz0, hz1, hz2⟩ := info_parts info_f32
  have h := run_copy_row (P := Try.prog) W 24 24 ty 31 g o dLen dCap ad sLen sCap _ 31 (List.replicate q (.float .f32 x)) Try.underlying24 (by rw [hi0]; simp [hz1]) hg (by rw [List.length_replicate, hq]) (fun j v hv => by
    rw [List.getElem?_replicate] at hv
    split at hv
    · injection hv with hv
      rw [← hv]
      exact hsrc j (by assumption)
    · cases hv) (by rw [List.length_replicate]; simp [repC]; omega) (fun v hv => by rw [(List.mem_replicate.1 hv).2]; rfl)
  refine ⟨W.setRow g (repC x n (o + q)).toArray, ?_, setRow_heap W g _ _ _ _ hg, below_setRow hb hB _⟩
  have e : (repC x n o).toArray.toList.take o ++ List.replicate q (Value.float .f32 x) ++ (repC x n o).toArray.toList.drop (o + (List.replicate q (Value.float .f32 x)).length) = repC x n (o + q) := by
    rw [← repC_step hmq]
    unfold splice
    rw [List.append_assoc]
  rw [h, e, List.length_replicate]
  rfl

set_option maxRecDepth 100000 in
set_option maxHeartbeats 3200000 in
theorem Repeat_any (x b c n : Nat) (w : World) (hn1 : 1 ≤ n) (hn2 : n ≤ 12) (hx : w.cell? ⟨b, 0, none⟩ = some (.float .f32 x)) :
    Calls Try.prog 53 #[.slice (some ⟨b, 0, none⟩) 1 c, .int .i64 n] w (fun e w' => ∃ A' c', e = .returned (.slice A' n c') ∧ w'.ownsRow w.heap.size 31 1 (.slice A' n c') n (fl (List.replicate n x)) ∧ Below w.heap.size w w') := by
  have HM := Lib.hid fun w => Mul_small n w hn1 hn2
  have hb := lt_of_cell hx
  obtain ⟨i0, hi0, hz0, hz1, hz2⟩ := info_parts info_f32
  have hw1 : IntKind.u64.wrap (n : Int) = (n : Int) := IntWalk.u64_in _ (by omega)
  have hw2 : IntKind.i64.wrap (n : Int) = (n : Int) := IntWalk.i64_in _ (by omega)
  have HSU : Hid (∀ m q, m + q ≤ n → splice (repC x n m) m (List.replicate q (Value.float .f32 x)) = repC x n (m + q)) := Lib.hid fun m q h => repC_step h
  have HALL := Lib.hid (repC_all x n)
  have HCE : Hid (∀ (W : World) g m j, W.heap[g]? = some (.cells (repC x n m).toArray 31 (0, 0)) → j < m → W.cell? ⟨g, j, none⟩ = some (.float .f32 x)) := Lib.hid fun W g m j h hj => repC_cell h hj
  have HLE : Hid (∀ m, m ≤ n → (repC x n m).length = n) := Lib.hid fun m h => repC_len h
  have hmk := run_make_row (P := Try.prog) 24 31 i0 (.float .f32 0) Try.underlying24 hi0 hz0 hz1 rfl .i64 .i64 n (by rw [hz2]; omega) (by omega)
  have HSZ : (Try.prog.info? 31).map (·.size) = some 1 := by rw [hi0]; simp [hz1]
  have HS0 : ∀ j, j < 1 → (World.alloc w (.cells (madeCells #[Value.float .f32 0] n) 31)).cell? ((⟨b, 0, none⟩ : Addr).add j) = some (.float .f32 x) := by
    intro j hj
    have : j = 0 := by omega
    subst this
    exact keepC (below_al (Below.refl _ _) _) hx
  obtain ⟨W3, hcp, hg3, hb3⟩ := repC_copy (W := World.alloc w (.cells (madeCells #[Value.float .f32 0] n) 31)) (w0 := w) (g := w.heap.size) (B := w.heap.size) (x := x) (n := n) (m := 0) (q := 1) (o := 0) (ty := 3) (ad := ⟨b, 0, none⟩) (dLen := n) (dCap := n) (sLen := 1) (sCap := c) (by rw [heap_alloc_new, madeCells_rep]) (Nat.min_eq_left hn1).symm HS0 (by omega) rfl (below_al (Below.refl _ _) _) (Nat.le_refl _)
  clear HS0
  go_enter Try.func53, Try.ntmps53
  go_wp2_with (go_at_call 74; refine (HM.out _).mono ?_; rintro e w1 ⟨rfl, rfl⟩)
  have HG3 := Lib.hid hg3
  have HB3 := Lib.hid hb3
  clear hg3 hb3 hcp hmk
  rename World => w1
  go_loopw [8] (fun v wr => ∃ m : Nat, 1 ≤ m ∧ m ≤ n ∧ v = .int .i64 m ∧ wr.heap[w1.heap.size]? = some (.cells (repC x n m).toArray 31 (0, 0)) ∧ Below w1.heap.size w1 wr) (fun v _ => n - (intOf v).toNat)
  case atStart => exact ⟨1, Nat.le_refl _, hn1, rfl, by simpa using HG3.out, HB3.out⟩
  case round =>
    obtain ⟨m, hm1, hm, rfl, hg, hbw⟩ := hrel
    rename World => wr
    by_cases hlt : m < n
    · obtain ⟨q, hq⟩ : ∃ q, q = Nat.min m (n - m) := ⟨_, rfl⟩
      have hq1 : 1 ≤ q ∧ m + q ≤ n := by
        rw [hq]
        have h1 := Nat.min_le_left m (n - m)
        have h2 := Nat.min_le_right m (n - m)
        have h3 : 1 ≤ Nat.min m (n - m) := Nat.le_min.2 ⟨hm1, by omega⟩
        change Nat.min m (n - m) ≤ _ at h1 h2
        generalize Nat.min m (n - m) = r at *
        omega
      have hmn : q ≤ m := by rw [hq]; exact Nat.min_le_left _ _
      obtain ⟨W4, hc4, hg4, hb4⟩ := repC_copy (W := wr.drew) (w0 := w1) (g := w1.heap.size) (B := w1.heap.size) (x := x) (n := n) (m := m) (q := q) (o := m) (ty := 3) (ad := ⟨w1.heap.size, 0, none⟩) (dLen := n - m) (dCap := n - m) (sLen := m) (sCap := n) hg hq (fun j hj => by
        have := HCE.out wr.drew _ m j hg (by omega)
        rw [show ((⟨w1.heap.size, 0, none⟩ : Addr).add j) = ⟨w1.heap.size, j, none⟩ by unfold Addr.add; split <;> simp_all]
        exact this) hq1.2 rfl (below_drewN hbw 1) (Nat.le_refl _)
      have HG4 := Lib.hid hg4
      have HB4 := Lib.hid hb4
      clear hg4 hb4 hq
      go_wp2_with fail
      go_region
      go_wp2_with fail
      go_roundw
      case rel => exact ⟨m + q, by omega, by omega, by go_num, HG4.out, HB4.out⟩
      case measure => simp [intOf]; omega
    · obtain rfl : m = n := by omega
      have HG := Lib.hid hg
      have HBW := Lib.hid hbw
      clear hg hbw
      go_wp2_with fail
      go_ret
      refine ⟨_, _, rfl, ?_, HBW.out⟩
      have h := HG.out
      rw [HALL.out] at h
      refine ⟨by simp [fl], .inr ⟨w1.heap.size, m, _, rfl, Nat.le_refl _, h, Nat.le_refl _, by unfold maxLen; omega, by simp [fl], ?_⟩⟩
      simp [fl]
end Go.Proofs.Ytlhepgdheopgaaa
