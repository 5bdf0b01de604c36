/-
  Rings: impl.RingChain and spec.RingChain.
-/
import Derived.Test.YtnnnpdendnjkhaaGive
import Derived.Deep.OwnRows
namespace Go.Proofs.Ytnnnpdendnjkhaa
open Go Go.RowKit Ieee

attribute [local go_sem] run_store_float
def ringF (n s r l i k : Nat) : Nat := if (k + n - i) % n = 0 then s else if (k + n - i) % n = 1 then r else if (k + n - i) % n = n - 1 then l else 0

theorem Rd_two (w : World) (s r : Nat) (t : TypeId) (g : Nat) (hg : w.heap.size = g) : Rd (w.alloc (.cells #[.float .f32 s, .float .f32 r] t)) (w.alloc (.cells #[.float .f32 s, .float .f32 r] t)).heap.size (some ⟨g, 0, none⟩) (fl [s, r]) := fun _ => by
  subst hg
  refine ⟨_, _, rfl, by simp, fun k hk => ?_⟩
  rw [World.cell?_alloc_new]
  match k, hk with
  | 0, _ => rfl
  | 1, _ => rfl

theorem below_step (o : World) (m : Nat) (x : Obj) : Below o.heap.size o ((o.drewN m).alloc x) := (below_drewN (Below.refl _ _) m).alloc (Nat.le_refl _) x
def leftB (s r : Nat) : Nat := fsub (fsub 1065353216 s) r
def ringOk (n : Int) (s r : Nat) : Bool := inB n 3 12 && (partB s && partB r && (FloatKind.f32.format.order (leftB s r) 0 == some .gt || FloatKind.f32.format.order (leftB s r) 0 == some .eq))

end Go.Proofs.Ytnnnpdendnjkhaa

