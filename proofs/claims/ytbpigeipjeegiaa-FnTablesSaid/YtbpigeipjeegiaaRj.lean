/-
  Ranks, sums and joined lists: impl.ranksOf, total, spec.l06Ranks, l06First, l06Joined.
-/
import Derived.Test.YtbpigeipjeegiaaRk
namespace Go.Proofs.Ytbpigeipjeegiaa
open Go Go.RowKit

def nlv (l : List Nat) : List Value := l.map fun n => Value.int .i64 (n : Nat)
theorem nlv_len (l : List Nat) : (nlv l).length = l.length := by simp [nlv]
theorem nlv_snoc (l : List Nat) (k : Nat) : nlv (l ++ [k]) = nlv l ++ [.int .i64 (k : Nat)] := by simp [nlv]
theorem Rd.nlvAt {w : World} {B : Nat} {A : Option Addr} {l : List Nat} (h : Rd w B A (nlv l)) {k : Nat} (hk : k < l.length) : ∃ b off, A = some ⟨b, off, none⟩ ∧ b < B ∧ w.cell? ⟨b, off + k, none⟩ = some (.int .i64 (l[k] : Nat)) := by
  obtain ⟨b, off, e, hb, hc⟩ := h (by rw [nlv_len]; omega)
  exact ⟨b, off, e, hb, by rw [hc k (by rw [nlv_len]; exact hk)]; simp [nlv]⟩
theorem Rd.nlvTake {w : World} {B : Nat} {A : Option Addr} {l : List Nat} (h : Rd w B A (nlv l)) (k : Nat) : Rd w B A (nlv (l.take k)) := fun h0 => by
  rw [nlv_len, List.length_take] at h0
  obtain ⟨b, off, e, hb, hc⟩ := h (by rw [nlv_len]; omega)
  refine ⟨b, off, e, hb, fun j hj => ?_⟩
  rw [nlv_len, List.length_take] at hj
  rw [hc j (by rw [nlv_len]; omega)]
  simp [nlv]
/-- a number's rank, times 2, behind so many numbers -/
def rankT (xs : List Int) (own : Int) : Nat → Nat
  | 0 => 1
  | k + 1 => if xs.getD k 0 < own then rankT xs own k + 2 else if xs.getD k 0 = own then rankT xs own k + 1 else rankT xs own k
theorem rankT_le (xs : List Int) (own : Int) : ∀ k, rankT xs own k ≤ 1 + 2 * k
  | 0 => by show 1 ≤ _; omega
  | k + 1 => by
    have := rankT_le xs own k
    unfold rankT
    split
    · omega
    · split <;> omega
theorem rankT_pos (xs : List Int) (own : Int) : ∀ k, 1 ≤ rankT xs own k
  | 0 => Nat.le_refl _
  | k + 1 => by
    have := rankT_pos xs own k
    unfold rankT
    split
    · omega
    · split <;> omega
def rkTo (xs : List Int) (q : Nat) : List Nat := (List.range q).map fun i => rankT xs (xs.getD i 0) xs.length
def ranksN (xs : List Int) : List Nat := rkTo xs xs.length
theorem rkTo_len (xs : List Int) (q : Nat) : (rkTo xs q).length = q := by simp [rkTo]
theorem rkTo_succ (xs : List Int) (q : Nat) : rkTo xs (q + 1) = rkTo xs q ++ [rankT xs (xs.getD q 0) xs.length] := by
  unfold rkTo
  rw [List.range_succ, List.map_append]
  rfl
theorem ranksN_len (xs : List Int) : (ranksN xs).length = xs.length := rkTo_len _ _
theorem ranksN_mem {xs : List Int} (h : xs.length ≤ 40) {r : Nat} (hr : r ∈ ranksN xs) : 1 ≤ r ∧ r ≤ 81 := by
  unfold ranksN rkTo at hr
  rw [List.mem_map] at hr
  obtain ⟨i, -, rfl⟩ := hr
  have h1 := rankT_le xs (xs.getD i 0) xs.length
  have h2 := rankT_pos xs (xs.getD i 0) xs.length
  omega
def rkOut (xs : List Int) (w : World) : Ending → World → Prop := fun e w' => ∃ A c, e = .returned (.slice A xs.length c) ∧ w'.ownsRow w.heap.size 2 1 (.slice A xs.length c) xs.length (nlv (ranksN xs)) ∧ Below w.heap.size w w'
end Go.Proofs.Ytbpigeipjeegiaa

