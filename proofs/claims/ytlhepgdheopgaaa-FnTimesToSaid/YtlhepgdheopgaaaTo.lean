/-
  Contracts of the laws' helpers that copy a slice of single numbers, write marks into it, and read them.
-/
import Derived.Test.YtlhepgdheopgaaaEq
import Derived.Deep.OwnRows
namespace Go.Proofs.Ytlhepgdheopgaaa
open Go Go.RowKit Ieee

theorem run_store_float (P : Program) (w : World) (a : Addr) (m : Mode) (k : FloatKind) (b : Nat) : (store a (.float k b) m).run P w = stored P w a (.float k b) m := run_store P w a _ m rfl
attribute [local go_sem] run_store_float
theorem info_f32 : (Try.prog.info? 31).map (fun i => (i.zero, i.size, i.bytes)) = some (some (.float .f32 0), 1, 4) := by kernel_rfl

theorem fl_take_succ {xs : List Nat} {k : Nat} (h : k < xs.length) (rest : List Value) (hr : 0 < rest.length) :
    (fl (xs.take k) ++ rest).set k (.float .f32 xs[k]) = fl (xs.take (k + 1)) ++ rest.tail := by
  have hl : (fl (xs.take k)).length = k := by rw [fl_len, List.length_take]; omega
  rw [List.set_append_right _ _ (by omega), hl, Nat.sub_self]
  cases rest with
  | nil => simp at hr
  | cons r rs =>
    simp only [List.set_cons_zero, List.tail_cons]
    rw [List.take_succ_eq_append_getElem h]
    unfold fl
    rw [List.map_append, List.append_assoc]
    rfl

end Go.Proofs.Ytlhepgdheopgaaa

