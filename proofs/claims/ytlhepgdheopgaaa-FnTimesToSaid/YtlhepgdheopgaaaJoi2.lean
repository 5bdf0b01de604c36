/-
  Joined chains: spec.JoinChains.
-/
import Derived.Test.YtlhepgdheopgaaaJoin
namespace Go.Proofs.Ytlhepgdheopgaaa
open Go Go.RowKit Ieee
attribute [local go_sem] run_store_float

theorem stepOf_cell {w : World} {b off n i k : Nat} {xs : List Nat} (hl : xs.length = n * n) (hi : i < n) (hk : k < n) (hc : ∀ p (h : p < (fl xs).length), w.cell? ⟨b, off + p, none⟩ = some (fl xs)[p]) : w.cell? ⟨b, off + (i * n + k), none⟩ = some (.float .f32 (stepOf xs n i k)) := by
  have hlt : i * n + k < xs.length := by rw [hl]; exact idx_lt hi hk
  rw [hc _ (by rw [fl_len]; exact hlt)]
  unfold stepOf
  rw [List.getD_eq_getElem?_getD, List.getElem?_eq_getElem hlt]
  simp [fl]

