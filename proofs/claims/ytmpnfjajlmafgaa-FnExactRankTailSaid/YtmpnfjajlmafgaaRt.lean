/-
  impl.RankTail.
-/
import Derived.Test.YtmpnfjajlmafgaaCw
namespace Go.Proofs.Ytmpnfjajlmafgaa
open Go Go.RowKit Go.Maps Go.WideShapes

def rankTailB (xs ys : List Int) : Int := IntKind.i64.wrap (sumF (way (ranksN (xs ++ ys)) (ranksN (xs ++ ys)).length xs.length) (rankSumB xs ys + 1))
def rtOut (p q : Int) (ok : Bool) (w : World) : Ending → World → Prop := fun e w' => e = .returned (.tuple #[.int .i64 p, .int .i64 q, .bool ok]) ∧ Below w.heap.size w w'
set_option maxRecDepth 100000 in
set_option maxHeartbeats 1600000 in
theorem RankTail_bad (A B : Option Addr) (xs ys : List Int) (c d : Nat) (w : World) (hx : xs.length ≤ 1048576) (hy : ys.length ≤ 1048576) (h : Rd w w.heap.size A (il xs)) (h' : Rd w w.heap.size B (il ys)) (hb : sampsB xs ys = false) : Calls Try.prog 20 #[.slice A xs.length c, .slice B ys.length d] w (rtOut 0 0 false w) := by
  have H := Lib.hid (RankSum_bad A B xs ys c d w hx hy h h' hb)
  clear h h' hb
  unfold rsOut at H
  go_enter Try.func20, Try.ntmps20
  go_wp2_with (go_at_call 48; refine H.out.mono ?_; rintro e w1 ⟨rfl, hb1⟩; have B1 := Lib.hid hb1; clear hb1)
  go_ret3
  exact ⟨rfl, below_al B1.out _⟩
set_option maxRecDepth 100000 in
set_option maxHeartbeats 1600000 in
theorem RankTail_ok (A B : Option Addr) (xs ys : List Int) (c d : Nat) (w : World) (hx : xs.length ≤ 1048576) (hy : ys.length ≤ 1048576) (h : Rd w w.heap.size A (il xs)) (h' : Rd w w.heap.size B (il ys)) (hb : sampsB xs ys = true) : Calls Try.prog 20 #[.slice A xs.length c, .slice B ys.length d] w (rtOut (rankTailB xs ys) (pas (xs.length + ys.length) xs.length : Nat) true w) := by
  obtain ⟨⟨x1, x2⟩, ⟨y1, y2⟩, xy⟩ := sampsB_len hb
  have H := Lib.hid (RankSum_ok A B xs ys c d w hx hy h h' hb)
  unfold rsOut at H
  have hlen : (xs ++ ys).length = xs.length + ys.length := List.length_append
  have HCC := Lib.hid fun W hA hB => Concat_any W.heap.size 2 [(xs, (A, c)), (ys, (B, d))] (W.alloc (.cells #[.slice A xs.length c, .slice B ys.length d] 22)) (lq_two W A B xs ys c d hA hB) (by simp [csO]; omega) (by simp)
  have HRK := Lib.hid fun A c W h => ranksOf_any A (xs ++ ys) c W (by omega) h
  have hrl : (ranksN (xs ++ ys)).length = xs.length + ys.length := by rw [ranksN_len, hlen]
  have hrs := ranks_sum (xs := xs ++ ys) (by omega)
  have hown : rankSumB xs ys ≤ 3240 := Nat.le_trans (sumTo_le _ _) hrs
  have HWT := Lib.hid fun A c W h => waysTo_any A (ranksN (xs ++ ys)) xs.length c W (by omega) (by omega) (by omega) h
  have HCW := Lib.hid fun b bx D W hm hi hx => countWhere_any (way (ranksN (xs ++ ys)) (ranksN (xs ++ ys)).length xs.length) (ranksN (xs ++ ys)).sum (rankSumB xs ys) b (2 ^ (ranksN (xs ++ ys)).length) bx D W hm hi (by omega) (by omega) hx
  have hcs : (csO [(xs, (A, c)), (ys, (B, d))]).flatten = xs ++ ys := by simp [csO]
  have HT : Hid (IntKind.i64.wrap (sumF (way (ranksN (xs ++ ys)) (ranksN (xs ++ ys)).length xs.length) (rankSumB xs ys + 1)) = rankTailB xs ys) := Lib.hid rfl
  rw [hcs] at HCC
  rw [HT.out] at HCW
  have HR1 := Lib.hid h
  have HR2 := Lib.hid h'
  unfold rkOut at HRK
  unfold wtOut at HWT
  rw [hlen] at HRK HCC
  rw [hrl] at HWT HCW
  have HCH : Hid (∀ W, Calls Try.prog 54 #[.int .i64 ((xs.length : Int) + (ys.length : Int)), .int .i64 (xs.length : Int)] W (fun e w' => e = .returned (.int .i64 (pas (xs.length + ys.length) xs.length : Nat)) ∧ Below W.heap.size W w')) := Lib.hid fun W => by
    have := choices_any (xs.length + ys.length) xs.length (by omega) (by omega) W
    rw [Int.natCast_add] at this
    exact this
  have hw : IntKind.i64.wrap ((xs.length : Int) + (ys.length : Int)) = (xs.length : Int) + (ys.length : Int) := IntWalk.i64_in _ (by omega)
  clear h h' hb hlen hcs HT hrs hown hrl
  generalize rankTailB xs ys = tail at *
  generalize rankSumB xs ys = own at *
  generalize pas (xs.length + ys.length) xs.length = ch at *
  generalize ranksN (xs ++ ys) = rs at *
  generalize xs ++ ys = zs at *
  go_enter Try.func20, Try.ntmps20
  go_upto_region 2 with (go_at_call 48; refine H.out.mono ?_; rintro e w1 ⟨rfl, hb1⟩; have B1 := Lib.hid hb1; clear hb1)
  have B2 := Lib.hid (below_al B1.out (.cells #[.int .i64 own] 2))
  have y0 : (w1.alloc (.cells #[.int .i64 own] 2)).cell? ⟨w1.heap.size, 0, none⟩ = some (.int .i64 own) := by
    rw [World.cell?_alloc_new]
    rfl
  have HRA := Lib.hid (HR1.out.at_ B2.out)
  have HRB := Lib.hid (HR2.out.at_ B2.out)
  have HBX := Lib.hid y0
  clear y0 B1
  generalize hW2 : w1.alloc (.cells #[.int .i64 own] 2) = W2 at *
  generalize w1.heap.size = bx at *
  have hmf : ∀ (fn : Fn) (first cap : Array Value) (w : World), (Instr.makeFunc fn first cap).run Try.prog w = .ok (.func fn first cap) w := fun _ _ _ _ => rfl
  clear hW2
  go_wp2_with (first
    | (go_at_call 52; refine (HCC.out _ HRA.out HRB.out).mono ?_; rintro e w2 ⟨A2, c2, rfl, ho2, hb2⟩; have O2 := Lib.hid ho2; have B3 := Lib.hid (below_next (below_al (Below.refl _ _) _) hb2); clear ho2 hb2)
    | (go_at_call 51; refine (HRK.out _ _ _ (Rd.of_own O2.out)).mono ?_; rintro e w3 ⟨A3, c3, rfl, ho3, hb3⟩; have O3 := Lib.hid ho3; have B4 := Lib.hid (below_next B3.out hb3); clear ho3 hb3)
    | (go_at_call 50; refine (HWT.out _ _ _ (Rd.of_own O3.out)).mono ?_; rintro e w4 ⟨b4, D4, rfl, hm4, hi4, hb4⟩; have M4 := Lib.hid hm4; have I4 := Lib.hid hi4; have B5 := Lib.hid (below_next B4.out hb4); clear hm4 hi4 hb4)
    | (go_at_call 49; refine (HCW.out _ _ _ _ M4.out I4.out (keepC B5.out HBX.out)).mono ?_; rintro e w5 ⟨rfl, hb5⟩; have B6 := Lib.hid (below_next B5.out hb5); clear hb5)
    | (go_at_call 54; refine (HCH.out _).mono ?_; rintro e w6 ⟨rfl, hb6⟩; have B7 := Lib.hid (below_next B6.out hb6); clear hb6))
  go_ret3
  exact ⟨rfl, below_next B2.out B7.out⟩
end Go.Proofs.Ytmpnfjajlmafgaa
