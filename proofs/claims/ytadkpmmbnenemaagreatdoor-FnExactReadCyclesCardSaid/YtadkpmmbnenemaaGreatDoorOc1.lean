/-
  The order that cycles tell. No program.
-/
import Derived.Test.YtadkpmmbnenemaaGreatDoorCy0
namespace Go.Proofs.YtadkpmmbnenemaaGreatDoor

/-- the numbers of the first so many cycles -/
def flatTo (cs : List (List Int)) (k : Nat) : List Int := (cs.take k).flatten
theorem flatTo_zero (cs : List (List Int)) : flatTo cs 0 = [] := rfl
theorem flatTo_succ {cs : List (List Int)} {k : Nat} (h : k < cs.length) : flatTo cs (k + 1) = flatTo cs k ++ cs[k] := by
  unfold flatTo
  rw [List.take_succ_eq_append_getElem h, List.flatten_append]
  simp
theorem flatTo_end (cs : List (List Int)) : flatTo cs cs.length = cs.flatten := by unfold flatTo; rw [List.take_length]
theorem flatTo_len_le (cs : List (List Int)) {k : Nat} (h : k ≤ cs.length) : (flatTo cs k).length ≤ cs.flatten.length := by
  unfold flatTo
  have e : cs = cs.take k ++ cs.drop k := (List.take_append_drop k cs).symm
  have h2 : cs.flatten.length = ((cs.take k).flatten ++ (cs.drop k).flatten).length := by rw [← List.flatten_append, ← e]
  rw [h2, List.length_append]
  omega
def updI (f : Nat → Int) (k : Nat) (x : Int) : Nat → Int := fun j => if j = k then x else f j
/-- behind so many steps of a cycle -/
def stC (c : List Int) (f : Nat → Int) : Nat → Nat → Int
  | 0 => f
  | i + 1 => updI (stC c f i) (c.getD i 0).toNat (c.getD ((i + 1) % c.length) 0)
/-- behind so many cycles -/
def stA (cs : List (List Int)) : Nat → Nat → Int
  | 0 => fun _ => 0
  | k + 1 => stC (cs.getD k []) (stA cs k) (cs.getD k []).length
def ordN (cs : List (List Int)) : List Int := (List.range cs.flatten.length).map (stA cs cs.length)
theorem ordN_len (cs : List (List Int)) : (ordN cs).length = cs.flatten.length := by simp [ordN]
theorem flat_mem {cs : List (List Int)} {k i : Nat} (hk : k < cs.length) (hi : i < cs[k].length) : cs[k][i] ∈ cs.flatten := List.mem_flatten.2 ⟨cs[k], List.getElem_mem hk, List.getElem_mem hi⟩
end Go.Proofs.YtadkpmmbnenemaaGreatDoor
