/-
  slices.Clone of integers.
-/
import Derived.Test.YtfkjnaaplhcheaaToi
import Derived.Test.YtfkjnaaplhcheaaOut
import Derived.Deep.AppendLies
namespace Go.Proofs.Ytfkjnaaplhcheaa
open Go Go.RowKit Ieee

set_option maxRecDepth 100000 in
set_option maxHeartbeats 1600000 in
theorem cloneI_any (A : Option Addr) (xs : List Int) (c : Nat) (w : World) (hx : xs.length ≤ 1048576) (h1 : 1 ≤ xs.length) (h : Rd w w.heap.size A (il xs)) :
    Calls Try.prog 60 #[.slice A xs.length c] w (fun e w' => ∃ A' c', e = .returned (.slice A' xs.length c') ∧ w'.ownsRow w.heap.size 2 1 (.slice A' xs.length c') xs.length (il xs) ∧ Below w.heap.size w w') := by
  obtain ⟨b, o, rfl, hb, hc⟩ := h (by rw [il_len]; omega)
  obtain ⟨i0, hi0, hz0, hz1, hz2⟩ := info_parts info_i64
  have HC : Hid (∀ j u, (il xs)[j]? = some u → (w.alloc (.cells #[] 2)).cell? ((⟨b, o, none⟩ : Addr).add j) = some u) := Lib.hid fun j u hj => by
    obtain ⟨hlt, rfl⟩ := List.getElem?_eq_some_iff.1 hj
    rw [show ((⟨b, o, none⟩ : Addr).add j) = ⟨b, o + j, none⟩ by unfold Addr.add; split <;> simp_all]
    exact (World.cell?_alloc_lt w _ ⟨b, o + j, none⟩ hb).trans (hc j hlt)
  have HL : Hid ((il xs).length = xs.length * 1) := Lib.hid (by rw [il_len, Nat.mul_one])
  have H1 : Hid (∀ u ∈ il xs, u.oneCell' = true) := Lib.hid fun u hu => by
    unfold il at hu
    rw [List.mem_map] at hu
    obtain ⟨x, -, rfl⟩ := hu
    rfl
  have HG : Hid (Grow w 2 0 [] (.slice (some ⟨w.heap.size, 0, none⟩) 0 0) (w.alloc (.cells #[] 2))) := Lib.hid (Grow.empty _ _)
  have HO : Hid ((w.alloc (.cells #[] 2)).ownsRow w.heap.size 2 1 (.slice (some ⟨w.heap.size, 0, none⟩) 0 0) 0 []) := Lib.hid (by
    obtain ⟨-, A', c', he, ho⟩ := HG.out
    injection he with e1 e2 e3
    subst e1 e3
    exact ho)
  have HNI := fun w => Lib.run_eql_slice_nil (P := Try.prog) w 25 2 (some ⟨b, o, none⟩) xs.length c 0 0 Try.underlying25
  clear h hc
  go_enter Try.func60, Try.ntmps60
  go_wp2_with (refine wpList_append_lies _ rfl _ _ _ rfl w.heap.size 2 i0 _ 1 8 Try.underlying25 hi0 hz0 hz1 hz2 rfl (by omega) (.slice (some ⟨w.heap.size, 0, none⟩) 0 0) 0 [] (by rfl) HO.out ⟨b, o, none⟩ xs.length c (il xs) (by rfl) HL.out HC.out H1.out (by omega) (by unfold maxLen; omega) (by omega) (by simp) (w.heap.size + 1) (by simp) ?_; intro g cap w3 hown3 hgrow hat hlt3; have HX : Hid (Below w.heap.size w w3) := Lib.hid ((below_al (Below.refl _ _) _).grown hgrow (by simp) (fun j hj => by (have hj' : some w.heap.size = some j := hj); injection hj' with hj'; omega)); clear hgrow hat hlt3)
  go_ret
  rw [Nat.zero_add, List.nil_append] at hown3
  exact ⟨_, _, rfl, hown3, HX.out⟩
end Go.Proofs.Ytfkjnaaplhcheaa

