/-
  spec.l06Ranks, l06First, l06Joined, impl.total.
-/
import Derived.Test.YtbpigeipjeegiaaRj
namespace Go.Proofs.Ytbpigeipjeegiaa
open Go Go.RowKit

def sumTo (l : List Nat) (k : Nat) : Nat := (l.take k).sum
theorem sumTo_succ {l : List Nat} {k : Nat} (h : k < l.length) : sumTo l (k + 1) = sumTo l k + l[k] := by
  unfold sumTo
  rw [List.take_succ_eq_append_getElem h, List.sum_append]
  simp
theorem sum_le_len {l : List Nat} {b : Nat} (h : ∀ x ∈ l, x ≤ b) : l.sum ≤ b * l.length := by
  induction l with
  | nil => simp
  | cons x l ih =>
    rw [List.sum_cons, List.length_cons, Nat.mul_add, Nat.mul_one]
    have h1 := h x (by simp)
    have h2 := ih fun y hy => h y (by simp [hy])
    omega
theorem sumTo_le (l : List Nat) (k : Nat) : sumTo l k ≤ l.sum := by
  unfold sumTo
  have e : l.sum = (l.take k).sum + (l.drop k).sum := by rw [← List.sum_append, List.take_append_drop]
  omega
theorem sumTo_all (l : List Nat) : sumTo l l.length = l.sum := by unfold sumTo; rw [List.take_length]
set_option maxHeartbeats 800000 in
theorem total_any (A : Option Addr) (l : List Nat) (c : Nat) (w : World) (hx : l.length ≤ 1048576) (hs : l.sum ≤ 1048576) (h : Rd w w.heap.size A (nlv l)) : Calls Try.prog 23 #[.slice A l.length c] w (fun e w' => e = .returned (.int .i64 (l.sum : Nat)) ∧ w = w') := by
  have HT : Hid (∀ k, sumTo l k ≤ l.sum) := Lib.hid (sumTo_le l)
  have HA : Hid (sumTo l l.length = l.sum) := Lib.hid (sumTo_all l)
  have H0 : Hid (sumTo l 0 = 0) := Lib.hid rfl
  go_enter Try.func23, Try.ntmps23
  go_wp2_with fail
  go_loopw [3, 8] (fun sv kv wk => ∃ k : Nat, k ≤ l.length ∧ kv = .int .i64 k ∧ sv = .int .i64 (sumTo l k : Nat) ∧ wk = w) (fun _ kv _ => l.length - (intOf kv).toNat)
  case atStart => exact ⟨0, Nat.zero_le _, rfl, by rw [H0.out]; rfl, rfl⟩
  case round =>
    obtain ⟨k, hk, rfl, rfl, rfl⟩ := hrel
    by_cases hkn : k < l.length
    · obtain ⟨b, off, rfl, hb, hc⟩ := h.nlvAt hkn
      have hst := sumTo_succ hkn
      have h1 := HT.out k
      have h2 := HT.out (k + 1)
      clear h
      generalize hs2 : sumTo l (k + 1) = s2 at *
      have HS2 := Lib.hid hs2
      clear hs2
      generalize sumTo l k = s1 at *
      generalize l[k] = x at *
      have hw1 : IntKind.i64.wrap ((s1 : Int) + (x : Int)) = (s2 : Int) := by
        rw [hst, show (s1 : Int) + (x : Int) = ((s1 + x : Nat) : Int) by push_cast; rfl]
        exact IntWalk.i64_in _ (by omega)
      clear hst
      go_wp2_with fail
      exact ⟨⟨k + 1, by omega, by go_num, by rw [HS2.out], trivial⟩, by simp [intOf]; omega⟩
    · obtain rfl : k = l.length := by omega
      go_wp2_with fail
      go_ret
      rw [HA.out]
      exact ⟨rfl, rfl⟩
theorem rd_news {W : World} {B : Nat} {A : Option Addr} {ys : List Int} (h : Rd W B A (il ys)) (h0 : 0 < ys.length) : ∃ g o, A = some ⟨g, o, none⟩ ∧ ∀ j u, (il ys)[j]? = some u → W.cell? ((⟨g, o, none⟩ : Addr).add j) = some u := by
  obtain ⟨g2, o2, rfl, hg2, hc2⟩ := h (by rw [il_len]; omega)
  refine ⟨g2, o2, rfl, fun j u hj => ?_⟩
  obtain ⟨hjl, hju⟩ := List.getElem?_eq_some_iff.1 hj
  have hadd : (⟨g2, o2, none⟩ : Addr).add j = ⟨g2, o2 + j, none⟩ := by unfold Addr.add; split <;> simp_all
  rw [hadd, hc2 j hjl, hju]
theorem il_one {ys : List Int} : ∀ u ∈ il ys, u.oneCell' = true := fun u hu => by
  unfold il at hu
  rw [List.mem_map] at hu
  obtain ⟨x, -, rfl⟩ := hu
  rfl
def ilOut (xs : List Int) (w : World) : Ending → World → Prop := fun e w' => ∃ A c, e = .returned (.slice A xs.length c) ∧ w'.ownsRow w.heap.size 2 1 (.slice A xs.length c) xs.length (il xs) ∧ Below w.heap.size w w'
end Go.Proofs.Ytbpigeipjeegiaa

