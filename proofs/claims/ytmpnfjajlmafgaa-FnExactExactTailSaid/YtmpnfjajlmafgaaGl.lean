/-
  spec.l06Walk, helpers (printed by walkgen.py).
-/
import Derived.Test.YtmpnfjajlmafgaaGe
namespace Go.Proofs.Ytmpnfjajlmafgaa
open Go Go.RowKit

theorem app_step {w w3 w4 : World} {o : Obj} {a b g n ca m cb : Nat} {e : TypeId} {xs ys : List Value} (N : w3.ownsRow w.heap.size e 1 (.slice (some ⟨a, 0, none⟩) n ca) n xs) (M : w3.ownsRow w.heap.size e 1 (.slice (some ⟨b, 0, none⟩) m cb) m ys) (hB : Below w.heap.size w w3) (hab : a ≠ b) (hg : (w3.alloc o).grownBy w4 (Value.ownBlock (.slice (some ⟨a, 0, none⟩) n ca))) (hat : Value.ownBlock (.slice (some ⟨a, 0, none⟩) n ca) = some g ∨ g = w3.heap.size + 1) : w4.ownsRow w.heap.size e 1 (.slice (some ⟨b, 0, none⟩) m cb) m ys ∧ Below w.heap.size w w4 ∧ g ≠ b := by
  have la := N.lt a rfl
  have lb := M.lt b rfl
  refine ⟨(M.alloc o).kept hg (.inr ?_), (below_al hB o).grown hg (below_al hB o).size (fun j hj => ?_), ?_⟩
  · intro e
    have : b = a := Option.some.inj e
    omega
  · have e : a = j := Option.some.inj hj
    omega
  · rcases hat with e | e
    · have e : a = g := Option.some.inj e
      omega
    · omega
theorem own_two {w : World} {base : Nat} {e : TypeId} {x y : Value} (hb : base ≤ w.heap.size) : (w.alloc (.cells #[x, y] e)).ownsRow base e 1 (.slice (some ⟨w.heap.size, 0, none⟩) 2 2) 2 [x, y] :=
  ⟨by simp, .inr ⟨w.heap.size, 2, #[x, y], rfl, hb, heap_alloc_new w _, Nat.le_refl _, by unfold maxLen; omega, rfl, by simp⟩⟩
theorem preSum_sum (xs : List Nat) : ∀ i, i ≤ xs.length → preSum xs i ≤ xs.sum := fun i h => by
  have : preSum xs i = (xs.take i).sum := by
    induction i with
    | zero => rfl
    | succ i ih =>
      rw [List.take_succ_eq_append_getElem (by omega), List.sum_append, ← ih (by omega)]
      show preSum xs i + xs[i]! = _
      rw [getElem!_pos xs i (by omega)]
      simp
  rw [this]
  exact sum_take_le xs i
theorem nlv_at {xs : List Nat} {i : Nat} (h : i < xs.length) : (nlv xs)[i]? = some (.int .i64 (xs[i]! : Nat)) := by
  rw [getElem!_pos xs i h]
  simp [nlv, h]
end Go.Proofs.Ytmpnfjajlmafgaa
