/-
  HolmMany, plain: one list, whatever the order's row.
-/
import Derived.Test.YtmpnfjajlmafgaaHj
namespace Go.Proofs.Ytmpnfjajlmafgaa
open Go Go.RowKit Go.Sort Ieee

theorem mostI_congr {f g : Nat → Nat} {n : Nat} (h : ∀ k, k < n → f k = g k) : ∀ k, k ≤ n → mostI f k = mostI g k
  | 0, _ => rfl
  | k + 1, hk => by
    show (if _ then _ else _) = (if _ then _ else _)
    rw [h k (by omega), mostI_congr h k (by omega)]
theorem leastI_congr {f g : Nat → Nat} {n : Nat} (h : ∀ k, k < n → f k = g k) : ∀ k, k ≤ n → leastI f k = leastI g k
  | 0, _ => rfl
  | k + 1, hk => by
    show (if _ then _ else _) = (if _ then _ else _)
    rw [h k (by omega), leastI_congr h k (by omega)]
theorem holmL_congr {xs : List Nat} {d e : Array Nat} (h : ∀ p, p < xs.length → d[p]! = e[p]!) : holmL xs d = holmL xs e := by
  refine outL_congr (fun j hj => ?_) h
  show capF (mostI _ _) = capF (mostI _ _)
  rw [mostI_congr (n := xs.length) (f := holmX xs d) (g := holmX xs e) (fun k hk => by unfold holmX; rw [h k hk]) (j + 1) (by omega)]
theorem sharesB_len {xs : List Nat} (h : sharesB xs = true) : xs.length ≤ 64 := by
  unfold sharesB at h
  simp only [Bool.and_eq_true, decide_eq_true_eq] at h
  exact h.1.2
theorem holm_one (xs : List Nat) : ∃ ys : List Nat, ys.length = xs.length ∧ ∀ d, OrdTo (keyI xs) xs.length d → holmL xs d = ys := by
  by_cases h : ∃ d, OrdTo (keyI xs) xs.length d
  · obtain ⟨d, hd⟩ := h
    exact ⟨holmL xs d, outL_len _ _ _, fun e he => holmL_congr (he.same hd)⟩
  · exact ⟨xs, rfl, fun d hd => absurd ⟨d, hd⟩ h⟩
end Go.Proofs.Ytmpnfjajlmafgaa
