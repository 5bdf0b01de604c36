/-
  spec.l06Ranks, l06First, l06Joined, impl.total.
-/
import Derived.Test.YtfkjnaaplhcheaaRj
namespace Go.Proofs.Ytfkjnaaplhcheaa
open Go Go.RowKit

def sumTo (l : List Nat) (k : Nat) : Nat := (l.take k).sum
theorem sumTo_succ {l : List Nat} {k : Nat} (h : k < l.length) : sumTo l (k + 1) = sumTo l k + l[k] := by
  unfold sumTo
  rw [List.take_succ_eq_append_getElem h, List.sum_append]
  simp
theorem sum_le_len {l : List Nat} {b : Nat} (h : ∀ x ∈ l, x ≤ b) : l.sum ≤ b * l.length := by
  induction l with
  | nil => simp
  | cons x l ih =>
    rw [List.sum_cons, List.length_cons, Nat.mul_add, Nat.mul_one]
    have h1 := h x (by simp)
    have h2 := ih fun y hy => h y (by simp [hy])
    omega
theorem sumTo_le (l : List Nat) (k : Nat) : sumTo l k ≤ l.sum := by
  unfold sumTo
  have e : l.sum = (l.take k).sum + (l.drop k).sum := by rw [← List.sum_append, List.take_append_drop]
  omega
theorem sumTo_all (l : List Nat) : sumTo l l.length = l.sum := by unfold sumTo; rw [List.take_length]
set_option maxHeartbeats 800000 in
theorem total_any (A : Option Addr) (l : List Nat) (c : Nat) (w : World) (hx : l.length ≤ 1048576) (hs : l.sum ≤ 1048576) (h : Rd w w.heap.size A (nlv l)) : Calls Try.prog 49 #[.slice A l.length c] w (fun e w' => e = .returned (.int .i64 (l.sum : Nat)) ∧ w = w') := by
  have HT : Hid (∀ k, sumTo l k ≤ l.sum) := Lib.hid (sumTo_le l)
  have HA : Hid (sumTo l l.length = l.sum) := Lib.hid (sumTo_all l)
  have H0 : Hid (sumTo l 0 = 0) := Lib.hid rfl
  go_enter Try.func49, Try.ntmps49
  go_wp2_with fail
  go_loopw [3, 8] (fun sv kv wk => ∃ k : Nat, k ≤ l.length ∧ kv = .int .i64 k ∧ sv = .int .i64 (sumTo l k : Nat) ∧ wk = w) (fun _ kv _ => l.length - (intOf kv).toNat)
  case atStart => exact ⟨0, Nat.zero_le _, rfl, by rw [H0.out]; rfl, rfl⟩
  case round =>
    obtain ⟨k, hk, rfl, rfl, rfl⟩ := hrel
    by_cases hkn : k < l.length
    · obtain ⟨b, off, rfl, hb, hc⟩ := h.nlvAt hkn
      have hst := sumTo_succ hkn
      have h1 := HT.out k
      have h2 := HT.out (k + 1)
      clear h
      generalize hs2 : sumTo l (k + 1) = s2 at *
      have HS2 := Lib.hid hs2
      clear hs2
      generalize sumTo l k = s1 at *
      generalize l[k] = x at *
      have hw1 : IntKind.i64.wrap ((s1 : Int) + (x : Int)) = (s2 : Int) := by
        rw [hst, show (s1 : Int) + (x : Int) = ((s1 + x : Nat) : Int) by push_cast; rfl]
        exact IntWalk.i64_in _ (by omega)
      clear hst
      go_wp2_with fail
      exact ⟨⟨k + 1, by omega, by go_num, by rw [HS2.out], trivial⟩, by simp [intOf]; omega⟩
    · obtain rfl : k = l.length := by omega
      go_wp2_with fail
      go_ret
      rw [HA.out]
      exact ⟨rfl, rfl⟩
set_option maxHeartbeats 800000 in
theorem l06First_any (A : Option Addr) (l : List Nat) (n c : Nat) (w : World) (hn : n ≤ l.length) (hx : l.length ≤ 1048576) (hs : l.sum ≤ 1048576) (h : Rd w w.heap.size A (nlv l)) : Calls Try.prog 84 #[.slice A l.length c, .int .i64 n] w (fun e w' => e = .returned (.int .i64 (sumTo l n : Nat)) ∧ w = w') := by
  have HT : Hid (∀ k, sumTo l k ≤ l.sum) := Lib.hid (sumTo_le l)
  have H0 : Hid (sumTo l 0 = 0) := Lib.hid rfl
  go_enter Try.func84, Try.ntmps84
  go_wp2_with fail
  go_loopw [5, 6] (fun sv kv wk => ∃ k : Nat, k ≤ n ∧ kv = .int .i64 k ∧ sv = .int .i64 (sumTo l k : Nat) ∧ wk = w) (fun _ kv _ => n - (intOf kv).toNat)
  case atStart => exact ⟨0, Nat.zero_le _, rfl, by rw [H0.out]; rfl, rfl⟩
  case round =>
    obtain ⟨k, hk, rfl, rfl, rfl⟩ := hrel
    by_cases hkn : k < n
    · have hkl : k < l.length := by omega
      obtain ⟨b, off, rfl, hb, hc⟩ := h.nlvAt hkl
      have hst := sumTo_succ hkl
      have h1 := HT.out k
      have h2 := HT.out (k + 1)
      clear h
      generalize hs2 : sumTo l (k + 1) = s2 at *
      have HS2 := Lib.hid hs2
      clear hs2
      generalize sumTo l k = s1 at *
      generalize l[k] = x at *
      have hw1 : IntKind.i64.wrap ((s1 : Int) + (x : Int)) = (s2 : Int) := by
        rw [hst, show (s1 : Int) + (x : Int) = ((s1 + x : Nat) : Int) by push_cast; rfl]
        exact IntWalk.i64_in _ (by omega)
      clear hst
      go_wp2_with fail
      exact ⟨⟨k + 1, by omega, by go_num, by rw [HS2.out], trivial⟩, by simp [intOf]; omega⟩
    · obtain rfl : k = n := by omega
      go_wp2_with fail
      go_ret
      exact ⟨rfl, rfl⟩
theorem rd_news {W : World} {B : Nat} {A : Option Addr} {ys : List Int} (h : Rd W B A (il ys)) (h0 : 0 < ys.length) : ∃ g o, A = some ⟨g, o, none⟩ ∧ ∀ j u, (il ys)[j]? = some u → W.cell? ((⟨g, o, none⟩ : Addr).add j) = some u := by
  obtain ⟨g2, o2, rfl, hg2, hc2⟩ := h (by rw [il_len]; omega)
  refine ⟨g2, o2, rfl, fun j u hj => ?_⟩
  obtain ⟨hjl, hju⟩ := List.getElem?_eq_some_iff.1 hj
  have hadd : (⟨g2, o2, none⟩ : Addr).add j = ⟨g2, o2 + j, none⟩ := by unfold Addr.add; split <;> simp_all
  rw [hadd, hc2 j hjl, hju]
theorem il_one {ys : List Int} : ∀ u ∈ il ys, u.oneCell' = true := fun u hu => by
  unfold il at hu
  rw [List.mem_map] at hu
  obtain ⟨x, -, rfl⟩ := hu
  rfl
def ilOut (xs : List Int) (w : World) : Ending → World → Prop := fun e w' => ∃ A c, e = .returned (.slice A xs.length c) ∧ w'.ownsRow w.heap.size 2 1 (.slice A xs.length c) xs.length (il xs) ∧ Below w.heap.size w w'
set_option maxRecDepth 100000 in
set_option maxHeartbeats 800000 in
theorem l06Joined_any (A B : Option Addr) (xs ys : List Int) (c d : Nat) (w : World) (hx : 1 ≤ xs.length ∧ xs.length ≤ 40) (hy : 1 ≤ ys.length ∧ ys.length ≤ 40) (h : Rd w w.heap.size A (il xs)) (h' : Rd w w.heap.size B (il ys)) : Calls Try.prog 83 #[.slice A xs.length c, .slice B ys.length d] w (ilOut (xs ++ ys) w) := by
  obtain ⟨i0, hi0, hz0, hz1, hz2⟩ := info_parts info_i64
  have B1 := Lib.hid (below_al (Below.refl w.heap.size w) (.cells #[] 2))
  have O1 : Hid ((w.alloc (.cells #[] 2)).ownsRow w.heap.size 2 1 (.slice (some ⟨w.heap.size, 0, none⟩) 0 0) 0 []) := Lib.hid (World.ownsRow_made w #[] 0 (base := w.heap.size) (e := 2) (size := 1) (Nat.le_refl _) (by unfold maxLen; omega) rfl)
  have HA := Lib.hid (h.at_ B1.out)
  have HB := Lib.hid h'
  obtain ⟨g, o, rfl, hnews⟩ := rd_news HA.out (by omega)
  have HNEWS := Lib.hid hnews
  clear h h' hnews
  obtain ⟨hx1, hx2⟩ := hx
  obtain ⟨hy1, hy2⟩ := hy
  have hzz := B1.out.size
  have HLX : Hid (il (xs ++ ys) = il xs ++ il ys) := Lib.hid (by simp [il])
  have HLL : Hid ((xs ++ ys).length = xs.length + ys.length) := Lib.hid List.length_append
  go_enter Try.func83, Try.ntmps83
  go_wp2_with (first
    | (refine wpList_append_lies _ rfl _ _ _ rfl w.heap.size 2 i0 _ 1 8 Try.underlying25 hi0 hz0 hz1 hz2 rfl (by omega) (.slice (some ⟨w.heap.size, 0, none⟩) 0 0) 0 [] (by rfl) O1.out ⟨g, o, none⟩ xs.length c (il xs) (by rfl) (by rw [il_len, Nat.mul_one]) HNEWS.out il_one (by omega) (by unfold maxLen; omega) (by omega) (by omega) (w.heap.size + 1) (by simp) ?_; intro g9 cap9 w9 hown9 hgrow hat hlt9; simp only [Nat.zero_add, List.nil_append] at hown9; have O9 := Lib.hid hown9; have B9 := Lib.hid (B1.out.grown hgrow B1.out.size (fun j hj => (O1.out.lt j hj).1)); clear hown9 hgrow hat; obtain ⟨g2, o2, hA2, hnews2⟩ := rd_news (HB.out.at_ B9.out) (by omega); have hz9 := B9.out.size; subst hA2)
    | (refine wpList_append_lies _ rfl _ _ _ rfl w.heap.size 2 i0 _ 1 8 Try.underlying25 hi0 hz0 hz1 hz2 rfl (by omega) (.slice (some ⟨g9, 0, none⟩) xs.length cap9) xs.length (il xs) (by rfl) O9.out ⟨g2, o2, none⟩ ys.length d (il ys) (by rfl) (by rw [il_len, Nat.mul_one]) hnews2 il_one (by omega) (by unfold maxLen; omega) (by omega) (by omega) w9.heap.size rfl ?_; intro g8 cap8 w8 hown8 hgrow8 hat8 hlt8; have O8 := Lib.hid hown8; have B8 := Lib.hid (B9.out.grown hgrow8 B9.out.size (fun j hj => (O9.out.lt j hj).1)); clear hown8 hgrow8 hat8))
  go_ret
  refine ⟨some ⟨g8, 0, none⟩, cap8, by rw [HLL.out]; rfl, ?_, B8.out⟩
  rw [HLL.out, HLX.out]
  exact O8.out
end Go.Proofs.Ytfkjnaaplhcheaa

