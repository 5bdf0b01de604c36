/-
  slices.Chunk over a row of integers whose length is a multiple of the chunks', for every loop body that keeps two blocks.
-/
import Derived.RangeFuncNested
import Derived.RangeFuncBound
import Derived.RangeFuncCalls
import Derived.RangeFuncLeaves
import Derived.RangeFuncBox
import Derived.Shelf.Abstract
import Derived.Shelf.RegionOpen
import Derived.OwnWalkIn
import Derived.TacticsInMore
import Derived.LoopNIn
import Derived.LoopIn
import Derived.Test.YtbpigeipjeegiaaQr
import Derived.Test.YtbpigeipjeegiaaEt
namespace Go.Proofs.Ytbpigeipjeegiaa
open Go Go.RowKit Go.Shelf
attribute [local go_sem] Oper.semAt_some

set_option maxHeartbeats 400000 in
theorem Chunk_any (a : Option Addr) (len cap C : Nat) (hC : 1 ≤ C) (w : World) : Calls Try.prog 32 #[.slice a len cap, .int .i64 C] w (fun e w' => e = .returned (.func (.func 41) #[] #[.pointer (some ⟨w.heap.size, 0, none⟩), .pointer (some ⟨w.heap.size + 1, 0, none⟩)]) ∧ w' = (w.alloc (.cells #[.slice a len cap] 24)).alloc (.cells #[.int .i64 C] 3)) := by
  have hmf : ∀ (fn : Fn) (first cap : Array Value) (w : World), (Instr.makeFunc fn first cap).run Try.prog w = .ok (.func fn first cap) w := fun _ _ _ _ => rfl
  have hz : ¬ (C : Int) < 1 := by omega
  have hz2 : ¬ C < 1 := by omega
  have hz0 : ¬ C = 0 := by omega
  go_enter Try.func32, Try.ntmps32
  go_wp2
  go_ret
  exact ⟨rfl, rfl⟩
theorem range_succ'' (k : Nat) : List.range (k + 1) = List.range k ++ [k] := List.range_succ
/-- what a round is handed: a chunk -/
def ckE (gt ot R C : Nat) (k : Nat) : Array Value := #[.slice (some ⟨gt, ot + k % R * C, none⟩) C C]
/-- what a round keeps: the cells of two blocks -/
def KB2 (b1 b2 : Nat) (W W' : World) : Prop := ∀ (p : Addr) (v : Value), (p.block = b1 ∨ p.block = b2) → W.cell? p = some v → W'.cell? p = some v
theorem KB2.refl (b1 b2 : Nat) (W : World) : KB2 b1 b2 W W := fun _ _ _ h => h
theorem KB2.trans {b1 b2 : Nat} {A B C : World} (h : KB2 b1 b2 A B) (k : KB2 b1 b2 B C) : KB2 b1 b2 A C := fun p v hp hc => k p v hp (h p v hp hc)
theorem KB2.put {b1 b2 : Nat} (W : World) (l : Nat) (o o' : Obj) (hl : W.heap[l]? = some o) (ho : o.isCells = false) : KB2 b1 b2 W (W.putObj l o') := fun _ _ _ hc => cell_kept hc (grownBy_putObj' W l o') (fun r e => by cases e; exact ⟨o, hl, ho⟩)
set_option maxRecDepth 100000 in
set_option maxHeartbeats 2000000 in
theorem Chunk1_in (F : Fence) (N : Nat) (h8 : F.fn 41) (hro : F.round = none) (hN : 1 ≤ N) (l b1 b2 gt ot R C ct : Nat) (hR : 1 ≤ R ∧ R ≤ 4) (hC : 1 ≤ C ∧ C ≤ 4) (hct : R * C ≤ ct) (J Jx : List Nat → World → Prop)
    (hY : ∀ pre x W, J pre W → pre.length < R → YieldAt F (N - 1) Try.prog l (ckE gt ot R C x) W fun e W' =>
      (e = .returned (.bool true) ∧ J (pre ++ [x]) W' ∧ KB2 b1 b2 W W') ∨ (e = .returned (.bool false) ∧ Jx (pre ++ [x]) W'))
    (hJd : ∀ pre W m, J pre W → J pre (W.drewN m))
    (W : World) (h1 : W.cell? ⟨b1, 0, none⟩ = some (.slice (some ⟨gt, ot, none⟩) (R * C) ct)) (h2 : W.cell? ⟨b2, 0, none⟩ = some (.int .i64 C)) (h0 : J [] W) :
    CallsIn F N Try.prog 41 #[.func (.yield l) #[] #[], .pointer (some ⟨b1, 0, none⟩), .pointer (some ⟨b2, 0, none⟩)] W fun e W' => (∃ v, e = .returned v) ∧
      ((∃ ys, ys = List.range R ∧ J ys W') ∨ (∃ pre, True ∧ Jx pre W')) := by
  refine callsIn_of_wp Try.func41 rfl h8 ?_ hro
  simp only [Try.ntmps41, List.size_toArray, List.length_cons, List.length_nil, Nat.reduceAdd, Nat.reduceSub, Array.replicate_succ, Array.replicate_zero, List.push_toArray, List.append_toArray, List.nil_append, List.cons_append]
  have hRC : R * C ≤ 16 := by
    have := Nat.mul_le_mul hR.2 hC.2
    omega
  gi_wp2
  gi_loopw [4] (fun i wr => ∃ k : Nat, k ≤ R ∧ i = .int .i64 ((k * C : Nat) : Int) ∧ J (List.range k) wr ∧ KB2 b1 b2 W wr)
    (fun i _ => R * C - (intOf i).toNat)
  case atStart => exact ⟨0, Nat.zero_le _, by simp, h0, KB2.refl _ _ _⟩
  case round =>
    obtain ⟨k, hk, rfl, hJs, hnx⟩ := hrel
    have e1 := hnx _ _ (.inl rfl) h1
    have e2 := hnx _ _ (.inr rfl) h2
    by_cases hlt : k < R
    · have hkc : k * C + C ≤ R * C := by
        have : (k + 1) * C ≤ R * C := Nat.mul_le_mul_right _ (by omega)
        rw [Nat.add_mul, Nat.one_mul] at this
        exact this
      have hk1 : (k + 1) * C = k * C + C := by rw [Nat.add_mul, Nat.one_mul]
      have hKk := Lib.hid hk1
      have hY' := hY (List.range k) k
      rw [List.length_range] at hY'
      unfold ckE at hY'
      rw [Nat.mod_eq_of_lt hlt] at hY'
      clear hk1
      generalize hK : k * C = K at *
      generalize hRCg : R * C = RC at *
      have hz : (K : Int) < (RC : Int) := by omega
      have hz3 : (K : Int) ≤ (ct : Int) := by omega
      have hz4 : (K : Int) ≤ (RC : Int) := by omega
      have hmin : ¬ ((RC - K : Nat) : Int) < (C : Int) := by omega
      have hmin2 : (C : Int) ≤ ((RC - K : Nat) : Int) := by omega
      have hmin3 : C ≤ RC - K := by omega
      have hw1 : IntKind.i64.wrap ((K : Int) + (C : Int)) = ((K + C : Nat) : Int) := by
        rw [show (K : Int) + (C : Int) = ((K + C : Nat) : Int) by push_cast; rfl]
        exact IntWalk.i64_in _ (by omega)
      gi_wp2
      refine region_quiet_r (by kernel_rfl) (by kernel_rfl) (by kernel_rfl) ?_
      repeat (gi_big_quiet_step (fail))
      refine wpQuietIn_nil ?_
      rintro _ ⟨nq, rfl⟩
      obtain ⟨fn, tmps, assign, body, hy, hR9⟩ := hY' (wr.drewN nq) (hJd _ _ _ hJs) hlt
      gi_wp2
      refine hR9.mono ?_
      rintro e W3 (⟨rfl, hJ3, hk3⟩ | ⟨rfl, hJx3⟩)
      · have e3 := hk3 _ _ (.inr rfl) (show (wr.drewN nq).cell? ⟨b2, 0, none⟩ = some (.int .i64 C) from e2)
        gi_wp2
        go_roundw
        case rel => exact ⟨k + 1, by omega, by rw [hKk.out]; exact congrArg (Value.int .i64) (by omega), by rw [range_succ'']; exact hJ3, hnx.trans (KB2.trans (show KB2 b1 b2 wr (wr.drewN nq) from fun _ _ _ h => h) hk3)⟩
        case measure => simp [intOf]; omega
      · gi_wp2
        refine bodyPost_ret (results_none rfl _ _ _) rfl ?_
        exact ⟨⟨_, rfl⟩, .inr ⟨_, trivial, hJx3⟩⟩
    · obtain rfl : k = R := by omega
      have hnz : ¬ ((k * C : Nat) : Int) < ((k * C : Nat) : Int) := by omega
      gi_wp2
      go_end0
      first | exact ⟨⟨_, rfl⟩, .inl hJs⟩ | exact ⟨⟨_, rfl⟩, .inl ⟨_, rfl, hJs⟩⟩
end Go.Proofs.Ytbpigeipjeegiaa

