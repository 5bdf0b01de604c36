/-
  slices.Backward over a row of integers, for every loop body that keeps what lay below a bound.
-/
import Derived.RangeFuncNested
import Derived.RangeFuncBound
import Derived.RangeFuncCalls
import Derived.RangeFuncLeaves
import Derived.RangeFuncBox
import Derived.Shelf.Abstract
import Derived.Shelf.RegionOpen
import Derived.OwnWalkIn
import Derived.TacticsInMore
import Derived.LoopNIn
import Derived.LoopIn
import Derived.Test.YtfkjnaaplhcheaaHt
namespace Go.Proofs.Ytfkjnaaplhcheaa
open Go Go.RowKit Go.Shelf
attribute [local go_sem] Oper.semAt_some

set_option maxHeartbeats 400000 in
theorem Backward_any (a : Option Addr) (len cap : Nat) (w : World) : Calls Try.prog 67 #[.slice a len cap] w (fun e w' => e = .returned (.func (.func 101) #[] #[.pointer (some ⟨w.heap.size, 0, none⟩)]) ∧ w' = w.alloc (.cells #[.slice a len cap] 25)) := by
  have hmf : ∀ (fn : Fn) (first cap : Array Value) (w : World), (Instr.makeFunc fn first cap).run Try.prog w = .ok (.func fn first cap) w := fun _ _ _ _ => rfl
  go_enter Try.func67, Try.ntmps67
  go_wp2
  go_ret
  exact ⟨rfl, rfl⟩
/-- what a step k is handed: the place and what lies there -/
def bwE (n : Nat) (d : Array Nat) (k : Nat) : Array Value := #[.int .i64 ((n - 1 - k % n : Nat) : Int), .int .i64 ((d[n - 1 - k % n]! : Nat) : Int)]
/-- what a round keeps: the cells of two blocks -/
def KB (b1 b2 : Nat) (W W' : World) : Prop := ∀ (p : Addr) (v : Value), (p.block = b1 ∨ p.block = b2) → W.cell? p = some v → W'.cell? p = some v
theorem KB.refl (b1 b2 : Nat) (W : World) : KB b1 b2 W W := fun _ _ _ h => h
theorem KB.trans {b1 b2 : Nat} {A B C : World} (h : KB b1 b2 A B) (k : KB b1 b2 B C) : KB b1 b2 A C := fun p v hp hc => k p v hp (h p v hp hc)
theorem KB.put {b1 b2 : Nat} (W : World) (l : Nat) (o o' : Obj) (hl : W.heap[l]? = some o) (ho : o.isCells = false) : KB b1 b2 W (W.putObj l o') := fun _ _ _ hc => cell_kept hc (grownBy_putObj' W l o') (fun r e => by cases e; exact ⟨o, hl, ho⟩)
theorem KB.set {b1 b2 : Nat} {A B : World} (h : KB b1 b2 A B) (g i : Nat) (v : Value) (h1 : g ≠ b1) (h2 : g ≠ b2) : KB b1 b2 A (B.setCell ⟨g, i, none⟩ v) := fun p v' hp hc =>
  (World.cell?_setCell_other _ _ _ _ (by intro e; subst e; rcases hp with hp | hp; exact h1 hp; exact h2 hp)).trans (h p v' hp hc)
theorem KB.drewN {b1 b2 : Nat} {A B : World} (h : KB b1 b2 A B) (n : Nat) : KB b1 b2 A (B.drewN n) := h
theorem range_succ' (k : Nat) : List.range (k + 1) = List.range k ++ [k] := List.range_succ
set_option maxRecDepth 100000 in
set_option maxHeartbeats 2000000 in
theorem Backward1_in (F : Fence) (N : Nat) (h8 : F.fn 101) (hro : F.round = none) (hN : 1 ≤ N) (l Bs b n cap : Nat) (d : Array Nat) (hn : 1 ≤ n ∧ n ≤ 64) (J Jx : List Nat → World → Prop)
    (hY : ∀ pre x W, J pre W → pre.length < n → YieldAt F (N - 1) Try.prog l (bwE n d x) W fun e W' =>
      (e = .returned (.bool true) ∧ J (pre ++ [x]) W' ∧ KB Bs b W W') ∨ (e = .returned (.bool false) ∧ Jx (pre ++ [x]) W'))
    (W : World) (hBs : W.cell? ⟨Bs, 0, none⟩ = some (.slice (some ⟨b, 0, none⟩) n cap)) (hc : ∀ j, j < n → W.cell? ⟨b, j, none⟩ = some (.int .i64 (d[j]! : Nat))) (h0 : J [] W) :
    CallsIn F N Try.prog 101 #[.func (.yield l) #[] #[], .pointer (some ⟨Bs, 0, none⟩)] W fun e W' => (∃ v, e = .returned v) ∧
      ((∃ ys, ys = List.range n ∧ J ys W') ∨ (∃ pre, True ∧ Jx pre W')) := by
  refine callsIn_of_wp Try.func101 rfl h8 ?_ hro
  simp only [Try.ntmps101, List.size_toArray, List.length_cons, List.length_nil, Nat.reduceAdd, Nat.reduceSub, Array.replicate_succ, Array.replicate_zero, List.push_toArray, List.append_toArray, List.nil_append, List.cons_append]
  have hw1 : IntKind.i64.wrap ((n : Int) - 1) = (n : Int) - 1 := IntWalk.i64_in _ (by omega)
  gi_wp2
  gi_loopw [3] (fun i wr => ∃ k : Nat, k ≤ n ∧ i = .int .i64 ((n : Int) - 1 - (k : Int)) ∧ J (List.range k) wr ∧ KB Bs b W wr)
    (fun i _ => (intOf i + 1).toNat)
  case atStart => exact ⟨0, Nat.zero_le _, by simp, h0, KB.refl _ _ _⟩
  case round =>
    obtain ⟨k, hk, rfl, hJs, hnx⟩ := hrel
    have hsx : wr.cell? ⟨Bs, 0, none⟩ = some (.slice (some ⟨b, 0, none⟩) n cap) := hnx _ _ (.inl rfl) hBs
    by_cases hlt : k < n
    · have hcx : wr.cell? ⟨b, n - 1 - k, none⟩ = some (.int .i64 (d[n - 1 - k]! : Nat)) := hnx _ _ (.inr rfl) (hc _ (by omega))
      obtain ⟨fn, tmps, assign, body, hy, hR⟩ := hY (List.range k) k wr hJs (by rw [List.length_range]; exact hlt)
      unfold bwE at hy
      rw [Nat.mod_eq_of_lt hlt] at hy
      have hR' : _ := hR
      have hix : (n : Int) - 1 - (k : Int) = ((n - 1 - k : Nat) : Int) := by omega
      rw [hix]
      have hxz : ((n - 1 - k : Nat) : Int) < (n : Int) := by omega
      have hwp : IntKind.i64.wrap (((n - 1 - k : Nat) : Int) - 1) = (n : Int) - 1 - ((k + 1 : Nat) : Int) := by rw [show ((n - 1 - k : Nat) : Int) - 1 = (n : Int) - 1 - ((k + 1 : Nat) : Int) by omega]; exact IntWalk.i64_in _ (by omega)
      have HKN := Lib.hid (show n - 1 - k < n ∧ n - 1 - k + 1 = n - k from ⟨by omega, by omega⟩)
      generalize hnp : n - 1 - k = np at *
      have HNP := Lib.hid hnp
      clear hnp hix hw1
      gi_wp2
      refine hR.mono ?_
      rintro e W3 (⟨rfl, hJ3, hk3⟩ | ⟨rfl, hJx3⟩)
      · gi_wp2
        go_roundw
        case rel => exact ⟨k + 1, by omega, by simp, by rw [range_succ']; exact hJ3, hnx.trans hk3⟩
        case measure => have := HNP.out; simp [intOf]; omega
      · gi_wp2
        refine bodyPost_ret (results_none rfl _ _ _) rfl ?_
        exact ⟨⟨_, rfl⟩, .inr ⟨_, trivial, hJx3⟩⟩
    · obtain rfl : k = n := by omega
      have hneg : ¬ 0 ≤ (k : Int) - 1 - (k : Int) := by omega
      gi_wp2
      go_end0
      first | exact ⟨⟨_, rfl⟩, .inl hJs⟩ | exact ⟨⟨_, rfl⟩, .inl ⟨_, rfl, hJs⟩⟩
theorem Backward_stops (F : Fence) (N : Nat) (h8 : F.fn 101) (hro : F.round = none) (hN : 1 ≤ N) (Bs b n cap : Nat) (d : Array Nat) (hn : 1 ≤ n ∧ n ≤ 64) (w : World) (hb : b < w.heap.size) (hs0 : Bs < w.heap.size)
    (hBs : w.cell? ⟨Bs, 0, none⟩ = some (.slice (some ⟨b, 0, none⟩) n cap)) (hc : ∀ j, j < n → w.cell? ⟨b, j, none⟩ = some (.int .i64 (d[j]! : Nat))) :
    SeqStopsK F N Try.prog 101 #[.pointer (some ⟨Bs, 0, none⟩)] (bwE n d) (KB Bs b) (fun ys => ys = List.range n) (fun _ => True) n w := fun l J Jx W hW _ _ hY h0 =>
  Backward1_in F N h8 hro hN l Bs b n cap d hn J Jx hY W ((hW.cell (p := ⟨Bs, 0, none⟩) (by show Bs < _; omega)).trans hBs) (fun j hj => (hW.cell (p := ⟨b, j, none⟩) (by show b < _; omega)).trans (hc j hj)) h0
end Go.Proofs.Ytfkjnaaplhcheaa
