/-
  A step of a chain: impl.Chain.step.
-/
import Derived.Test.YtlhepgdheopgaaaGive
import Derived.Test.YtlhepgdheopgaaaMon2
namespace Go.Proofs.Ytlhepgdheopgaaa
open Go Go.RowKit Ieee

/-- the step from a state to another one -/
def stepOf (xs : List Nat) (n i k : Nat) : Nat := xs.getD (i * n + k) 0
theorem stepOf_part {xs : List Nat} {n i k : Nat} (hl : xs.length = n * n) (hp : xs.all partB = true) (hi : i < n) (hk : k < n) : partB (stepOf xs n i k) = true := by
  have h : i * n + k < xs.length := by rw [hl]; exact idx_lt hi hk
  unfold stepOf
  rw [List.getD_eq_getElem?_getD, List.getElem?_eq_getElem h]
  exact List.all_eq_true.1 hp _ (List.getElem_mem h)

set_option maxHeartbeats 800000 in
theorem step_any (n i k : Nat) (A : Option Addr) (xs : List Nat) (c : Nat) (w : World) (hn2 : n ≤ 12) (hi : i < n) (hk : k < n) (hl : xs.length = n * n) (h : Rd w w.heap.size A (fl xs)) :
    Calls Try.prog 35 #[.agg #[.int .i64 n, .slice A xs.length c], .int .i64 i, .int .i64 k] w (fun e w' => e = .returned (.float .f32 (stepOf xs n i k)) ∧ Below w.heap.size w w') := by
  have hlt : i * n + k < xs.length := by rw [hl]; exact idx_lt hi hk
  obtain ⟨b, off, rfl, hb, hc⟩ := h.flAt hlt
  have hx : Hid (stepOf xs n i k = xs[i * n + k]) := by
    unfold stepOf
    rw [Hid, List.getD_eq_getElem?_getD, List.getElem?_eq_getElem hlt]
    rfl
  have b2 : n * n ≤ 144 := Nat.mul_le_mul hn2 hn2
  have e1 : ((i : Int) * (n : Int)) = ((i * n : Nat) : Int) := by push_cast; rfl
  have w1 : IntKind.i64.wrap ((i : Int) * (n : Int)) = ((i * n : Nat) : Int) := by rw [e1]; exact IntWalk.i64_in _ (by omega)
  have HL := Lib.hid hl
  have hlen : xs.length ≤ 144 := by omega
  clear e1 h hl b2
  generalize stepOf xs n i k = v at *
  generalize i * n = p at *
  have hv := hx.out
  generalize xs[p + k] = u at *
  subst hv
  generalize xs.length = m at *
  go_enter Try.func35, Try.ntmps35
  go_wp2
  go_ret
  exact ⟨rfl, (Below.refl _ _).alloc (Nat.le_refl _) _⟩
end Go.Proofs.Ytlhepgdheopgaaa

