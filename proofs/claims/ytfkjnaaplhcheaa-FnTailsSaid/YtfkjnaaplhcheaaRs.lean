/-
  impl.RankSum and spec.RankSum.
-/
import Derived.Test.YtfkjnaaplhcheaaRi
namespace Go.Proofs.Ytfkjnaaplhcheaa
open Go Go.RowKit

theorem own_cap {w : World} {base : Nat} {e : TypeId} {size n c : Nat} {A : Option Addr} {vs : List Value} (h : w.ownsRow base e size (.slice A n c) n vs) : n ≤ c ∧ c ≤ 9223372036854775807 := by
  rcases h.2 with ⟨hv, hn⟩ | ⟨g, cap, cur, hv, _, _, h1, h2, _⟩
  · cases hv; exact ⟨by omega, by omega⟩
  · cases hv; exact ⟨h1, by unfold maxLen at h2; omega⟩

def rsOut (v : Int) (ok : Bool) (w : World) : Ending → World → Prop := fun e w' => e = .returned (.tuple #[.int .i64 v, .bool ok]) ∧ Below w.heap.size w w'
def rankSumB (xs ys : List Int) : Nat := sumTo (ranksN (xs ++ ys)) xs.length
theorem sampsB_len {xs ys : List Int} (h : sampsB xs ys = true) : (1 ≤ xs.length ∧ xs.length ≤ 40) ∧ (1 ≤ ys.length ∧ ys.length ≤ 40) ∧ xs.length + ys.length ≤ 40 := by
  unfold sampsB sampB at h
  simp only [Bool.and_eq_true, decide_eq_true_eq] at h
  omega
theorem ranks_sum {xs : List Int} (h : xs.length ≤ 40) : (ranksN xs).sum ≤ 3240 := by
  have h1 := sum_le_len (l := ranksN xs) (b := 81) fun x hx => (ranksN_mem h hx).2
  rw [ranksN_len] at h1
  omega
/-- two lists, told by a fresh row of slices -/
theorem lq_two (w : World) (A B : Option Addr) (xs ys : List Int) (c d : Nat) (h : Rd w w.heap.size A (il xs)) (h' : Rd w w.heap.size B (il ys)) :
    LQ (w.alloc (.cells #[.slice A xs.length c, .slice B ys.length d] 25)) w.heap.size [(xs, (A, c)), (ys, (B, d))] := by
  have hb := below_al (Below.refl w.heap.size w) (.cells #[.slice A xs.length c, .slice B ys.length d] 25)
  refine ⟨fun k hk => ?_, fun k hk => ?_⟩
  · rw [World.cell?_alloc_new]
    match k, hk with
    | 0, _ => rfl
    | 1, _ => rfl
  · match k, hk with
    | 0, _ => exact h.at_ hb
    | 1, _ => exact h'.at_ hb
set_option maxRecDepth 100000 in
set_option maxHeartbeats 1600000 in
theorem RankSum_bad (A B : Option Addr) (xs ys : List Int) (c d : Nat) (w : World) (hx : xs.length ≤ 1048576) (hy : ys.length ≤ 1048576) (h : Rd w w.heap.size A (il xs)) (h' : Rd w w.heap.size B (il ys)) (hb : sampsB xs ys = false) : Calls Try.prog 11 #[.slice A xs.length c, .slice B ys.length d] w (rsOut 0 false w) := by
  have H := Lib.hid (areSamplesOf_any A B xs ys c d w hx hy h h')
  rw [hb] at H
  clear h h' hb
  go_enter Try.func11, Try.ntmps11
  go_wp2_with (go_at_call 48; refine H.out.mono ?_; rintro e w1 ⟨rfl, m, rfl⟩)
  go_ret2
  exact ⟨rfl, below_dn (Below.refl _ _) m⟩
set_option maxRecDepth 100000 in
set_option maxHeartbeats 1600000 in
theorem RankSum_ok (A B : Option Addr) (xs ys : List Int) (c d : Nat) (w : World) (hx : xs.length ≤ 1048576) (hy : ys.length ≤ 1048576) (h : Rd w w.heap.size A (il xs)) (h' : Rd w w.heap.size B (il ys)) (hb : sampsB xs ys = true) : Calls Try.prog 11 #[.slice A xs.length c, .slice B ys.length d] w (rsOut (rankSumB xs ys : Nat) true w) := by
  obtain ⟨⟨x1, x2⟩, ⟨y1, y2⟩, xy⟩ := sampsB_len hb
  have H := Lib.hid (areSamplesOf_any A B xs ys c d w hx hy h h')
  rw [hb] at H
  have hlen : (xs ++ ys).length = xs.length + ys.length := List.length_append
  have HCC := Lib.hid fun W hA hB => Concat_any W.heap.size 2 [(xs, (A, c)), (ys, (B, d))] (W.alloc (.cells #[.slice A xs.length c, .slice B ys.length d] 25)) (lq_two W A B xs ys c d hA hB) (by simp [csO]; omega) (by simp)
  have HRK := Lib.hid fun A c W h => ranksOf_any A (xs ++ ys) c W (by omega) h
  have HTO := Lib.hid fun A c W h => total_any A ((ranksN (xs ++ ys)).take xs.length) c W (by rw [List.length_take]; omega) (by have := sumTo_le (ranksN (xs ++ ys)) xs.length; have := ranks_sum (xs := xs ++ ys) (by omega); unfold sumTo at *; omega) h
  have hcs : (csO [(xs, (A, c)), (ys, (B, d))]).flatten = xs ++ ys := by simp [csO]
  rw [hcs] at HCC
  have HTL : Hid (((ranksN (xs ++ ys)).take xs.length).length = xs.length) := Lib.hid (by rw [List.length_take, ranksN_len]; omega)
  have HTS : Hid (((ranksN (xs ++ ys)).take xs.length).sum = rankSumB xs ys) := Lib.hid rfl
  rw [HTL.out, HTS.out] at HTO
  have HR1 := Lib.hid h
  have HR2 := Lib.hid h'
  have HZ := Lib.hid hlen
  unfold rkOut at HRK
  rw [hlen] at HRK HCC
  clear h h' hb hlen hcs
  generalize rankSumB xs ys = v at *
  generalize hzs : xs ++ ys = zs at *
  have HZS := Lib.hid hzs
  clear hzs
  go_enter Try.func11, Try.ntmps11
  go_wp2_with (first
    | (go_at_call 48; refine H.out.mono ?_; rintro e w1 ⟨rfl, m, rfl⟩)
    | (go_at_call 50; refine (HCC.out (w.drewN m) (HR1.out.drewN m) (HR2.out.drewN m)).mono ?_; rintro e w2 ⟨A2, c2, rfl, ho2, hb2⟩; have O2 := Lib.hid ho2; have B2 := Lib.hid (below_next (below_al (below_dn (Below.refl _ _) m) _) hb2); clear ho2 hb2)
    | (go_at_call 47; refine (HRK.out _ _ _ (Rd.of_own O2.out)).mono ?_; rintro e w3 ⟨A3, c3, rfl, ho3, hb3⟩; have O3 := Lib.hid ho3; have B3 := Lib.hid (below_next B2.out hb3); obtain ⟨k1, k2⟩ := own_cap ho3; have k3 : (xs.length : Int) ≤ (c3 : Int) := by omega; have k4 : xs.length ≤ c3 := by omega; clear ho3 hb3)
    | (go_at_call 49; refine (HTO.out _ _ _ ((Rd.of_own O3.out).nlvTake _)).mono ?_; rintro e w4 ⟨rfl, rfl⟩))
  refine (HRK.out _ _ _ (Rd.of_own O2.out)).mono ?_
  rintro e w3 ⟨A3, c3, rfl, ho3, hb3⟩
  have O3 := Lib.hid ho3; have B3 := Lib.hid (below_next B2.out hb3); obtain ⟨k1, k2⟩ := own_cap ho3; have k3 : (xs.length : Int) ≤ (c3 : Int) := by omega
  have k4 : xs.length ≤ c3 := by omega
  clear ho3 hb3
  go_wp2_with (go_at_call 49; refine (HTO.out _ _ _ ((Rd.of_own O3.out).nlvTake _)).mono ?_; rintro e w4 ⟨rfl, rfl⟩)
  go_ret2
  exact ⟨rfl, B3.out⟩

end Go.Proofs.Ytfkjnaaplhcheaa

