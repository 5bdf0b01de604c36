/-
  Helpers of the law FnTables; the tail of a function's code (printed by lawparts15.py).
-/
import Derived.Test.YtbpigeipjeegiaaTw
import Derived.Test.YtbpigeipjeegiaaVt
import Derived.Test.YtbpigeipjeegiaaFrb
namespace Go.Proofs.Ytbpigeipjeegiaa
open Go Go.RowKit

theorem four {x0 : Nat} {xs : List Nat} {M : Nat} (hl : xs.length + 1 = 4) (hx : ∀ x, x ∈ xs → x ≤ M) : ∃ b c d, xs = [b, c, d] ∧ b ≤ M ∧ c ≤ M ∧ d ≤ M := by
  match xs, hl with
  | [b, c, d], _ => exact ⟨b, c, d, rfl, hx b (by simp), hx c (by simp), hx d (by simp)⟩
/-- the law's own sums, step by step -/
theorem sums_two_all (a b c d : Nat) : ∃ lp op : Nat → Nat, lp 0 = 0 ∧ op 0 = 0 ∧ (∀ i, lp (i + 1) = lp i + (if i ≤ a - lowT a b d then pas (a + c) (lowT a b d + i) * pas (b + d) (a + b - (lowT a b d + i)) else 0)) ∧ (∀ i, op (i + 1) = if i = a - lowT a b d then pas (a + c) (lowT a b d + i) * pas (b + d) (a + b - (lowT a b d + i)) else op i) ∧ lp (manyT a b c d) = lessN a b c d ∧ op (manyT a b c d) = ownN a b c d ∧ ∀ i, i ≤ manyT a b c d → lp i ≤ lessN a b c d := by
  refine ⟨sumN (fun i => if i ≤ a - lowT a b d then wN a b c d i else 0), fun i => if a - lowT a b d < i then ownN a b c d else 0, rfl, rfl, fun i => rfl, fun i => ?_, rfl, ?_, fun i hi => sumN_up _ _ _ hi⟩
  · show (if a - lowT a b d < i + 1 then ownN a b c d else 0) = _
    by_cases h : i = a - lowT a b d
    · rw [if_pos h, if_pos (by omega)]
      show wN a b c d (a - lowT a b d) = wN a b c d i
      rw [h]
    · rw [if_neg h]
      show _ = (if a - lowT a b d < i then ownN a b c d else 0)
      by_cases h2 : a - lowT a b d < i
      · rw [if_pos (by omega), if_pos h2]
      · rw [if_neg (by omega), if_neg h2]
  · show (if a - lowT a b d < manyT a b c d then ownN a b c d else 0) = _
    rw [if_pos (own_in a b c d)]
/-- what the law asks of a table of 2 rows and 2 columns, at every later world -/
structure Two (a b c d g ct : Nat) (w : World) : Prop where
  rs : ∀ W, Below w.heap.size w W → Calls Try.prog 6 #[.agg #[.int .i64 2, .int .i64 2, .slice (some ⟨g, 0, none⟩) 4 ct]] W (fun e w' => ∃ g2 c2, e = .returned (.tuple #[.slice (some ⟨g2, 0, none⟩) 2 c2, .bool true]) ∧ w'.ownsRow 0 2 1 (.slice (some ⟨g2, 0, none⟩) 2 c2) 2 (nlv [a + b, c + d]) ∧ Below W.heap.size W w')
  cs : ∀ W, Below w.heap.size w W → Calls Try.prog 7 #[.agg #[.int .i64 2, .int .i64 2, .slice (some ⟨g, 0, none⟩) 4 ct]] W (fun e w' => ∃ g2 c2, e = .returned (.tuple #[.slice (some ⟨g2, 0, none⟩) 2 c2, .bool true]) ∧ w'.ownsRow 0 2 1 (.slice (some ⟨g2, 0, none⟩) 2 c2) 2 (nlv [a + c, b + d]) ∧ Below W.heap.size W w')
  ls : ∀ W, Below w.heap.size w W → Calls Try.prog 8 #[.agg #[.int .i64 2, .int .i64 2, .slice (some ⟨g, 0, none⟩) 4 ct]] W (fun e w' => e = .returned (.tuple #[.int .i64 (lessN a b c d : Nat), .int .i64 (pas (a + b + c + d) (a + b) : Nat), .bool true]) ∧ Below W.heap.size W w')
  bt : ∀ W, Below w.heap.size w W → Calls Try.prog 9 #[.agg #[.int .i64 2, .int .i64 2, .slice (some ⟨g, 0, none⟩) 4 ct]] W (fun e w' => e = .returned (.tuple #[.int .i64 (bothN a b c d : Nat), .int .i64 (pas (a + b + c + d) (a + b) : Nat), .bool true]) ∧ Below W.heap.size W w')
  ex : ∀ W, Below w.heap.size w W → Calls Try.prog 10 #[.agg #[.int .i64 2, .int .i64 2, .slice (some ⟨g, 0, none⟩) 4 ct]] W (fun e w' => e = .returned (.tuple #[.int .i64 (bothN a b c d : Nat), .int .i64 (pas (a + b + c + d) (a + b) : Nat), .bool true]) ∧ Below W.heap.size W w')
theorem two_of {a b c d g ct : Nat} {w : World} (hs : 1 ≤ a + b + c + d ∧ a + b + c + d ≤ 20) (hct : 4 ≤ ct) (h : Rd w w.heap.size (some ⟨g, 0, none⟩) (nlv [a, b, c, d])) : Two a b c d g ct w where
  rs W hW := (RowSums_two a b c d _ ct W (by omega) hct (h.at_ hW)).mono fun e w' ⟨g2, c2, h1, _, h2, h3⟩ => ⟨g2, c2, h1, h2, h3⟩
  cs W hW := (ColumnSums_two a b c d _ ct W (by omega) hct (h.at_ hW)).mono fun e w' ⟨g2, c2, h1, _, h2, h3⟩ => ⟨g2, c2, h1, h2, h3⟩
  ls W hW := by
    have := LessTail_ok a b c d (some ⟨g, 0, none⟩) ct W (by omega) hct (h.at_ hW)
    rw [less_tl (by omega)] at this
    exact this
  bt W hW := by
    have := BothTails_ok a b c d (some ⟨g, 0, none⟩) ct W (by omega) hct (h.at_ hW)
    rw [both_tl (by omega)] at this
    exact this
  ex W hW := by
    have := ExactTail_ok 2 2 [a, b, c, d] (some ⟨g, 0, none⟩) ct W (by omega) (by omega) rfl (by simp; omega) hct (h.at_ hW)
    rw [exact_tl (by omega)] at this
    exact this
/-- what is left of a sequence behind its first k statements -/
def tailC : Nat → Code → Code
  | 0, c => c
  | k + 1, .seq _ b => tailC k b
  | _ + 1, c => c
theorem nine {x0 : Nat} {xs : List Nat} (hl : xs.length + 1 = 9) (hx0 : x0 ≤ 1) (hx : ∀ x, x ∈ xs → x ≤ 1) : ∃ p q : Nat, tails 3 3 (wIn 3 (wOf 3 ((x0 + 1) :: xs))) ((x0 + 1) :: xs) = ((p : Int), (q : Int)) ∧ 1 ≤ p ∧ p ≤ q ∧ q < 16777216 ∧ 1 ≤ ((x0 + 1) :: xs).sum ∧ ((x0 + 1) :: xs).sum ≤ 20 := by
  match xs, hl with
  | [b, c, d, e, f, g, h, i], _ =>
    have h1 := hx b (by simp)
    have h2 := hx c (by simp)
    have h3 := hx d (by simp)
    have h4 := hx e (by simp)
    have h5 := hx f (by simp)
    have h6 := hx g (by simp)
    have h7 := hx h (by simp)
    have h8 := hx i (by simp)
    obtain ⟨p, q, e1, e2, e3, e4⟩ := tails33 (x0 + 1) b c d e f g h i (by omega) (by omega) (by omega)
    exact ⟨p, q, e1, e2, e3, e4, by simp; omega, by simp; omega⟩
end Go.Proofs.Ytbpigeipjeegiaa
