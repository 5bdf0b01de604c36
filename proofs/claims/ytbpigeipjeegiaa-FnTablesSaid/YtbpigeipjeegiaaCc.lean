/-
  slices.Grow at nil, slices.Concat of lists of integers that are only read.
-/
import Derived.Test.YtbpigeipjeegiaaCo
import Derived.Lib.AppendZeros
import Derived.Deep.Upon
namespace Go.Proofs.Ytbpigeipjeegiaa
open Go Go.RowKit

/-- the numbers of the first so many cycles -/
def flatTo (cs : List (List Int)) (k : Nat) : List Int := (cs.take k).flatten
theorem flatTo_zero (cs : List (List Int)) : flatTo cs 0 = [] := rfl
theorem flatTo_succ {cs : List (List Int)} {k : Nat} (h : k < cs.length) : flatTo cs (k + 1) = flatTo cs k ++ cs[k] := by
  unfold flatTo
  rw [List.take_succ_eq_append_getElem h, List.flatten_append]
  simp
theorem flatTo_end (cs : List (List Int)) : flatTo cs cs.length = cs.flatten := by unfold flatTo; rw [List.take_length]
theorem flatTo_len_le (cs : List (List Int)) {k : Nat} (h : k ≤ cs.length) : (flatTo cs k).length ≤ cs.flatten.length := by
  unfold flatTo
  have e : cs = cs.take k ++ cs.drop k := (List.take_append_drop k cs).symm
  have h2 : cs.flatten.length = ((cs.take k).flatten ++ (cs.drop k).flatten).length := by rw [← List.flatten_append, ← e]
  rw [h2, List.length_append]
  omega
theorem run_append_zero (P : Program) (t e : TypeId) (i : TypeInfo) (ht : P.underlying t = some (.slice e)) (hi : P.info? e = some i) (A A2 : Option Addr) (n c c2 : Nat) (hle : n ≤ c) (w : World) :
    (Builtin.append_ #[t, t] t #[.slice A n c, .slice A2 0 c2]).run P w = .ok (.slice A n c) w := by
  refine run_append_nothing w t t t e i ht hi A n c hle _ ?_
  cases A2 with
  | none => exact Src.ofNil w ht c2
  | some a => exact Src.ofSlice w ht a 0 c2 [] (by simp) (by simp) (by simp)
/-- lists that lie wherever, told by a row of slices -/
structure LQ (W : World) (R : Nat) (rs : List (List Int × (Option Addr × Nat))) : Prop where
  o : ∀ k (h : k < rs.length), W.cell? ⟨R, k, none⟩ = some (.slice rs[k].2.1 rs[k].1.length rs[k].2.2)
  r : ∀ k (h : k < rs.length), Rd W W.heap.size rs[k].2.1 (il rs[k].1)
theorem LQ.keep {W W' : World} {R : Nat} {rs : List (List Int × (Option Addr × Nat))} (h : LQ W R rs) (hb : Below W.heap.size W W') : LQ W' R rs := ⟨fun k hk => keepC hb (h.o k hk), fun k hk => (h.r k hk).at_ hb⟩
def csO (rs : List (List Int × (Option Addr × Nat))) : List (List Int) := rs.map (·.1)
theorem csO_len (rs : List (List Int × (Option Addr × Nat))) : (csO rs).length = rs.length := by simp [csO]
theorem csO_get {rs : List (List Int × (Option Addr × Nat))} {k : Nat} (h : k < rs.length) (h' : k < (csO rs).length) : (csO rs)[k] = rs[k].1 := by simp [csO]
theorem flat_step {rs : List (List Int × (Option Addr × Nat))} {k : Nat} (h : k < rs.length) : flatTo (csO rs) (k + 1) = flatTo (csO rs) k ++ rs[k].1 := by
  rw [flatTo_succ (by rw [csO_len]; exact h), csO_get h]
end Go.Proofs.Ytbpigeipjeegiaa

