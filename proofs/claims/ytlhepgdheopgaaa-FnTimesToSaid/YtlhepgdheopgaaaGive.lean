/-
  Functions that give a chain and whether there is one: what they give, said once; spec.l07Give; an operation on floats whose result is not looked at.
-/
import Derived.Test.YtlhepgdheopgaaaBy
import Derived.Test.YtlhepgdheopgaaaOpen
namespace Go.Proofs.Ytlhepgdheopgaaa
open Go Go.RowKit Ieee

section
variable {P : Program}
theorem run_float_any (op : BinOp) (hop : op = .add ∨ op = .sub ∨ op = .mul ∨ op = .quo) (t : TypeId) (k : FloatKind) (x y : Nat) (w : World) : ∃ r m, (∀ v, floatBits op k x y = some v → r = v) ∧ (binOp op t (.float k x) (.float k y)).run P w = .ok (.float k r) (w.drewN m) := by
  cases h : floatBits op k x y with
  | none => exact ⟨_, 1, fun v hv => (by simp at hv), run_float_nan w op hop t k x y h⟩
  | some r =>
    refine ⟨r, 0, fun v hv => Option.some.inj hv, ?_⟩
    unfold floatBits at h
    rcases hop with rfl | rfl | rfl | rfl <;> simp only at h <;> simp [binOp, Op.floatArith, h] <;> rfl
theorem wpList_float_any (w : World) {ops : Array Oper} {rest : List Oper} {o : Oper} {a : Act} {Q : Exit → Act → World → Prop}
    (hg : o.guard = none) (op : BinOp) (hop : op = .add ∨ op = .sub ∨ op = .mul ∨ op = .quo) (t tt : TypeId) (x y : Operand) (ho : o.op = .binOp op t x y tt) (k : FloatKind) (b1 b2 : Nat) (hx : a.eval x = .float k b1) (hy : a.eval y = .float k b2)
    (hK : ∀ r m, (∀ v, floatBits op k b1 b2 = some v → r = v) → wpList P ops Q rest (a.put o.dst (.float k r)) (w.drewN m)) : wpList P ops Q (o :: rest) a w := by
  refine wpList_plain hg fun K hK' => ?_
  obtain ⟨r, m, hv, hrun⟩ := run_float_any (P := P) op hop t k b1 b2 w
  have hK2 := hK' _ _ (hK r m hv)
  unfold Oper.wp
  rcases hop with rfl | rfl | rfl | rfl <;> simp [execOp, ho, hx, hy, hrun, eqGuard] <;> exact hK2
end

/-- a chain of the call's own, and whether there is one -/
def chOut (side : Int) (xs : List Nat) (ok : Bool) (w : World) : Ending → World → Prop := fun e w' =>
  ∃ A c, e = .returned (.tuple #[.agg #[.int .i64 side, .slice A xs.length c], .bool ok]) ∧ w'.ownsRow w.heap.size 31 1 (.slice A xs.length c) xs.length (fl xs) ∧ Below w.heap.size w w'
def sideOf (n : Nat) (xs : List Nat) : Int := if validB n xs = true then n else 0
def stepsOf (n : Nat) (xs : List Nat) : List Nat := if validB n xs = true then xs else []
def chGive (n : Nat) (xs : List Nat) (w : World) : Ending → World → Prop := chOut (sideOf n xs) (stepsOf n xs) (validB n xs) w
theorem ChainRes.out {w w' : World} {n : Nat} {xs : List Nat} {e : Ending} (h : ChainRes w n xs e w') : chGive n xs w e w' := by
  obtain ⟨hb, ⟨hv, rfl⟩ | ⟨hv, A, c, rfl, ho⟩⟩ := h
  · unfold chGive sideOf stepsOf
    rw [hv]
    exact ⟨none, 0, rfl, World.ownsRow_nil _ _ _ _, hb⟩
  · unfold chGive sideOf stepsOf
    rw [hv]
    exact ⟨A, c, rfl, ho, hb⟩
theorem chOut_none {w w' : World} {e : Ending} (he : e = .returned (.tuple #[.agg #[.int .i64 0, .slice none 0 0], .bool false])) (hb : Below w.heap.size w w') : chOut 0 [] false w e w' := ⟨none, 0, he, World.ownsRow_nil _ _ _ _, hb⟩

set_option maxHeartbeats 800000 in
theorem l07Give_any (n : Nat) (A : Option Addr) (xs : List Nat) (c : Nat) (w : World) (hx : xs.length ≤ 9223372036854775807) (h : Rd w w.heap.size A (fl xs)) :
    Calls Try.prog 48 #[.agg #[.int .i64 n, .slice A xs.length c]] w (fun e w' => (e = .returned (.tuple #[if validB n xs = true then .agg #[.int .i64 n, .slice A xs.length c] else .agg #[.int .i64 0, .slice none 0 0], .bool (validB n xs)])) ∧ Below w.heap.size w w') := by
  have HI := Lib.hid fun b w h0 h1 h2 => l07Is_any b n A xs c w hx h0 h1 h2
  go_enter Try.func48, Try.ntmps48
  cases hv : validB n xs
  · rw [hv] at HI
    go_wp2_with (go_at_call 41; refine (HI.out _ _ (by simp [go_sem]) (by simp [go_sem]) (h.at_ (((Below.refl _ _).alloc (Nat.le_refl _) _).alloc (by simp) _))).mono ?_; rintro e w1 ⟨rfl, m, rfl⟩)
    have hB : Below w.heap.size w (World.drewN ((w.alloc (.cells #[.int .i64 n, .slice A xs.length c] 26)).alloc (.cells #[.int .i64 0, .slice none 0 0] 26)) m) := below_drewN (((Below.refl _ _).alloc (Nat.le_refl _) _).alloc (by simp) _) m
    refine bodyPost_ret (v := .tuple #[.agg #[.int .i64 0, .slice none 0 0], .bool false]) (by simp [results, Try.results48, go_sem]) rfl ⟨rfl, (hB.setCell (by simp) _).setCell (by simp) _⟩
  · rw [hv] at HI
    go_wp2_with (go_at_call 41; refine (HI.out _ _ (by simp [go_sem]) (by simp [go_sem]) (h.at_ (((Below.refl _ _).alloc (Nat.le_refl _) _).alloc (by simp) _))).mono ?_; rintro e w1 ⟨rfl, m, rfl⟩)
    have hB : Below w.heap.size w (World.drewN ((w.alloc (.cells #[.int .i64 n, .slice A xs.length c] 26)).alloc (.cells #[.int .i64 0, .slice none 0 0] 26)) m) := below_drewN (((Below.refl _ _).alloc (Nat.le_refl _) _).alloc (by simp) _) m
    refine bodyPost_ret (v := .tuple #[.agg #[.int .i64 n, .slice A xs.length c], .bool true]) (by simp [results, Try.results48, go_sem]) rfl ⟨rfl, (hB.setCell (by simp) _).setCell (by simp) _⟩
end Go.Proofs.Ytlhepgdheopgaaa

