/-
  spec.l07Is gives the Bool 'validB'.
-/
import Derived.Test.YthkejpgffkahaaaVa2
namespace Go.Proofs.Ythkejpgffkahaaa
open Go Go.RowKit Ieee

theorem okSum_spec {s : Nat} (h : isNan single s = false) : okSum s = ((FloatKind.f32.format.order (fsub s 1065353216) 981668463 == some .lt || FloatKind.f32.format.order (fsub s 1065353216) 981668463 == some .eq) && (FloatKind.f32.format.order (fsub s 1065353216) 3129152111 == some .gt || FloatKind.f32.format.order (fsub s 1065353216) 3129152111 == some .eq)) := by
  have hd := (fsub_run h one_fin).2
  have h1 := le_key (f := single) (by decide) hd thou_notNan
  have h2 := ge_key (f := single) (by decide) hd mthou_notNan
  rw [key_thou] at h1
  rw [key_mthou] at h2
  show okSum s = ((single.order (fsub s 1065353216) 981668463 == some .lt || single.order (fsub s 1065353216) 981668463 == some .eq) && (single.order (fsub s 1065353216) 3129152111 == some .gt || single.order (fsub s 1065353216) 3129152111 == some .eq))
  rw [h1, h2, ← Bool.decide_and]
  unfold okSum
  apply decide_eq_decide.2
  omega
theorem fsum_take_succ (xs : List Nat) (k : Nat) (h : k < xs.length) : fsum (xs.take (k + 1)) = fadd (fsum (xs.take k)) xs[k] := by rw [List.take_succ_eq_append_getElem h, fsum_snoc]

end Go.Proofs.Ythkejpgffkahaaa

