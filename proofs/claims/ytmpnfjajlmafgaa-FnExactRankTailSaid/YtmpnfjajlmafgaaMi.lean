/-
  A row of made rows of numbers, and a table that is filled in place (plain).
-/
import Derived.Test.YtmpnfjajlmafgaaRt
namespace Go.Proofs.Ytmpnfjajlmafgaa
open Go Go.RowKit

/-- a row of rows, n of them made, each of T + 1 numbers -/
structure MI (W : World) (base M R n : Nat) (bl : Nat → Nat) (T : Nat) (f : Nat → Nat → Int) : Prop where
  o : W.rowIs R 22 M (fun q => if q < n then .slice (some ⟨bl q, 0, none⟩) (T + 1) (T + 1) else .slice none 0 0)
  m : ∀ q, q < n → W.rowIs (bl q) 2 (T + 1) (fun x => .int .i64 (f q x))
  ne : ∀ q, q < n → bl q ≠ R
  inj : ∀ p q, p < n → q < n → bl p = bl q → p = q
  loR : base ≤ R
  lo : ∀ q, q < n → base ≤ bl q
section
variable {W W' : World} {base M R n T : Nat} {bl : Nat → Nat} {f f' : Nat → Nat → Int}
theorem MI.congr (h : MI W base M R n bl T f) (hf : ∀ q x, q < n → x ≤ T → f q x = f' q x) : MI W base M R n bl T f' :=
  ⟨h.o, fun q hq => (h.m q hq).congr fun x hx => by rw [hf q x hq (by omega)], h.ne, h.inj, h.loR, h.lo⟩
theorem MI.ltR (h : MI W base M R n bl T f) : R < W.heap.size := h.o.lt
theorem MI.lt (h : MI W base M R n bl T f) {q : Nat} (hq : q < n) : bl q < W.heap.size := (h.m q hq).lt
theorem MI.row (h : MI W base M R n bl T f) {q : Nat} (hq : q < n) (hM : n ≤ M) : W.cell? ⟨R, q, none⟩ = some (.slice (some ⟨bl q, 0, none⟩) (T + 1) (T + 1)) := by
  have := h.o.cell (show q < M by omega)
  rw [if_pos hq] at this
  exact this
theorem MI.cell (h : MI W base M R n bl T f) {q x : Nat} (hq : q < n) (hx : x ≤ T) : W.cell? ⟨bl q, x, none⟩ = some (.int .i64 (f q x)) := (h.m q hq).cell (by omega)
theorem MI.heap (h : MI W base M R n bl T f) (he : W'.heap = W.heap) : MI W' base M R n bl T f :=
  ⟨h.o.of_block (by rw [he]), fun q hq => (h.m q hq).of_block (by rw [he]), h.ne, h.inj, h.loR, h.lo⟩
theorem MI.set (h : MI W base M R n bl T f) {k x : Nat} (hk : k < n) (v : Int) : MI (W.setCell ⟨bl k, x, none⟩ (.int .i64 v)) base M R n bl T (fun q y => if q = k ∧ y = x then v else f q y) := by
  refine ⟨h.o.of_block (Below.heap_setCell _ _ _ _ (fun e => h.ne k hk e.symm)), fun q hq => ?_, h.ne, h.inj, h.loR, h.lo⟩
  by_cases hqk : q = k
  · subst hqk
    refine ((h.m q hq).set x _).congr fun y _ => ?_
    by_cases hy : y = x
    · simp [hy]
    · simp [hy]
  · refine ((h.m q hq).of_block (Below.heap_setCell _ _ _ _ (fun e => hqk (h.inj q k hq hk e)))).congr fun y _ => ?_
    simp [hqk]
theorem MI.push (h : MI W base M R n bl T (fun _ _ => 0)) (hb : base ≤ W.heap.size) :
    MI ((W.setCell ⟨R, n, none⟩ (.slice (some ⟨W.heap.size, 0, none⟩) (T + 1) (T + 1))).alloc (.cells (madeCells #[.int .i64 0] (T + 1)) 2)) base M R (n + 1) (fun q => if q = n then W.heap.size else bl q) T (fun _ _ => 0) := by
  have hR := h.ltR
  have hsz : (W.setCell ⟨R, n, none⟩ (.slice (some ⟨W.heap.size, 0, none⟩) (T + 1) (T + 1))).heap.size = W.heap.size := by simp
  refine ⟨((h.o.set n _).alloc _).congr fun q _ => ?_, fun q hq => ?_, fun q hq => ?_, fun p q hp hq e => ?_, h.loR, fun q hq => ?_⟩
  · by_cases hqn : q = n
    · simp [hqn]
    · by_cases hlt : q < n
      · simp [hqn, hlt, show q < n + 1 by omega]
      · simp [hqn, hlt, show ¬ q < n + 1 by omega]
  · by_cases hqn : q = n
    · show World.rowIs _ (if q = n then _ else _) _ _ _
      rw [if_pos hqn]
      have := World.rowIs_made (W.setCell ⟨R, n, none⟩ (.slice (some ⟨W.heap.size, 0, none⟩) (T + 1) (T + 1))) (.int .i64 0) (T + 1) 2
      rw [hsz] at this
      exact this
    · show World.rowIs _ (if q = n then _ else _) _ _ _
      rw [if_neg hqn]
      exact ((h.m q (by omega)).of_block (Below.heap_setCell _ _ _ _ (fun e => h.ne q (by omega) e))).alloc _
  · show (if q = n then _ else _) ≠ R
    split
    · omega
    · exact h.ne q (by omega)
  · have e : (if p = n then W.heap.size else bl p) = (if q = n then W.heap.size else bl q) := e
    by_cases hp' : p = n
    · by_cases hq' : q = n
      · omega
      · rw [if_pos hp', if_neg hq'] at e
        have := h.lt (q := q) (by omega)
        omega
    · by_cases hq' : q = n
      · rw [if_neg hp', if_pos hq'] at e
        have := h.lt (q := p) (by omega)
        omega
      · rw [if_neg hp', if_neg hq'] at e
        exact h.inj p q (by omega) (by omega) e
  · show base ≤ (if q = n then _ else _)
    split
    · exact hb
    · exact h.lo q (by omega)
theorem MI.start (W : World) (M : Nat) (bl : Nat → Nat) (T : Nat) : MI (W.alloc (.cells (madeCells #[.slice none 0 0] M) 22)) W.heap.size M W.heap.size 0 bl T (fun _ _ => 0) :=
  ⟨(World.rowIs_made W (.slice none 0 0) M _).congr fun q _ => by rw [if_neg (by omega)], fun q hq => absurd hq (by omega), fun q hq => absurd hq (by omega), fun p q hp => absurd hp (by omega), Nat.le_refl _, fun q hq => absurd hq (by omega)⟩
end

def dpM (rs : List Nat) (i K q y : Nat) : Int := if K < q then way rs (i + 1) q y else way rs i q y
def dpG (rs : List Nat) (i K x q y : Nat) : Int := if K < q ∨ (K = q ∧ x < y) then way rs (i + 1) q y else way rs i q y
theorem dpM_start {rs : List Nat} {i many q y : Nat} (h : q ≤ many) : way rs i q y = dpM rs i many q y := by
  unfold dpM
  rw [if_neg (by omega)]
theorem dpG_start {rs : List Nat} {i K T q y : Nat} (h : y ≤ T) : dpM rs i K q y = dpG rs i K T q y := by
  unfold dpM dpG
  by_cases hq : K < q
  · rw [if_pos hq, if_pos (.inl hq)]
  · rw [if_neg hq, if_neg (by omega)]
theorem dpG_step {rs : List Nat} {i k x q y : Nat} (h : rs.getD i 0 ≤ x + 1) :
    (if q = k + 1 ∧ y = x + 1 then IntKind.i64.wrap (dpG rs i (k + 1) (x + 1) (k + 1) (x + 1) + dpG rs i (k + 1) (x + 1) k (x + 1 - rs.getD i 0)) else dpG rs i (k + 1) (x + 1) q y) = dpG rs i (k + 1) x q y := by
  by_cases hq : q = k + 1 ∧ y = x + 1
  · obtain ⟨rfl, rfl⟩ := hq
    rw [if_pos ⟨rfl, rfl⟩]
    unfold dpG
    rw [if_neg (by omega), if_neg (by omega), if_pos (by omega)]
    show _ = (if rs.getD i 0 ≤ x + 1 then _ else _)
    rw [if_pos h]
  · rw [if_neg hq]
    unfold dpG
    by_cases h1 : k + 1 < q ∨ (k + 1 = q ∧ x < y)
    · rw [if_pos h1, if_pos (by omega)]
    · rw [if_neg h1, if_neg (by omega)]
theorem dpG_end {rs : List Nat} {i k x q y : Nat} (h : x < rs.getD i 0) : dpG rs i (k + 1) x q y = dpM rs i k q y := by
  unfold dpG dpM
  by_cases h1 : k + 1 < q ∨ (k + 1 = q ∧ x < y)
  · rw [if_pos h1, if_pos (by omega)]
  · rw [if_neg h1]
    by_cases hk : k < q
    · obtain rfl : q = k + 1 := by omega
      rw [if_pos hk]
      show _ = (if rs.getD i 0 ≤ y then _ else _)
      rw [if_neg (by omega)]
    · rw [if_neg hk]
theorem dpM_end {rs : List Nat} {i q y : Nat} : dpM rs i 0 q y = way rs (i + 1) q y := by
  unfold dpM
  by_cases h : 0 < q
  · rw [if_pos h]
  · obtain rfl : q = 0 := by omega
    rw [if_neg h]
    rfl
theorem part_sum (f : Nat → Int) (x : Nat) : IntKind.i64.wrap (IntKind.i64.wrap (sumF f x) + f x) = IntKind.i64.wrap (sumF f (x + 1)) := by rw [wrap_add]; rfl
end Go.Proofs.Ytmpnfjajlmafgaa
