/-
  impl.IsOrder: a copy, sorted, is compared with all numbers below the length.
-/
import Derived.Test.YtadkpmmbnenemaaGreatDoorSo
import Derived.Test.YtadkpmmbnenemaaGreatDoorOr1
import Derived.Test.YtadkpmmbnenemaaGreatDoorCl
import Derived.Test.YtadkpmmbnenemaaGreatDoorSd1
import Derived.Sort.OwnSortedInts
namespace Go.Proofs.YtadkpmmbnenemaaGreatDoor
open Go Go.RowKit Go.Sort

theorem sort_len (xs : List Int) : (xs.mergeSort leB).length = xs.length := (List.mergeSort_perm xs leB).length_eq
theorem Sort_own (xs : List Int) (base g cap : Nat) (w : World) (ho : w.ownsRow base 2 1 (.slice (some ⟨g, 0, none⟩) xs.length cap) xs.length (il xs)) (h1 : xs.length ≤ 134217728) :
    Calls Tryz.prog 41 #[.slice (some ⟨g, 0, none⟩) xs.length cap] w (fun e w' => e = .returned (.tuple #[]) ∧ w'.ownsRow base 2 1 (.slice (some ⟨g, 0, none⟩) xs.length cap) xs.length (il (xs.mergeSort leB)) ∧ w.grownBy w' (some g)) := by
  have hlt := (ho.lt g rfl).2
  rcases ho.2 with ⟨hv, _⟩ | ⟨g', cap', cur, hv, hb, hh, hn, hc, hs, ht⟩
  · cases hv
  · cases hv
    rw [Nat.mul_one] at ht
    refine (AnyG.slices_Sort_int Tryz.sortI g 0 cap xs w (holds_of_blockI hh ht) hlt (by omega)).mono ?_
    rintro e w' ⟨rfl, n, os, rfl⟩
    exact ⟨rfl, ownsRow_sortedI (sort_len xs) hb hh hn hc hs, grownBy_sortedI _⟩
theorem Sort_none (A : Option Addr) (cap : Nat) (w : World) : Calls Tryz.prog 41 #[.slice A 0 cap] w (fun e w' => e = .returned (.tuple #[]) ∧ w' = w) := AnyG.slices_Sort_int_none Tryz.sortI A cap w

theorem isSize_any (n : Int) (w : World) : Calls Tryz.prog 42 #[.int .i64 n] w (fun e w' => e = .returned (.bool (inB n 1 64)) ∧ w = w') := by
  have H := Lib.hid (within_any n 1 64 w)
  generalize inB n 1 64 = r at *
  go_enter Tryz.func42, Tryz.ntmps42
  go_wp2_with (go_at_call 58; refine H.out.mono ?_; rintro e w1 ⟨rfl, rfl⟩)
  go_ret
  exact ⟨rfl, rfl⟩

set_option maxRecDepth 100000 in
theorem numbersFrom_any (n : Nat) (hn : 1 ≤ n ∧ n ≤ 64) (w : World) : Calls Tryz.prog 44 #[.int .i64 0, .int .i64 ((n : Int) - 1)] w (fun e w' => ∃ A c, e = .returned (.slice A n c) ∧ w'.ownsRow w.heap.size 2 1 (.slice A n c) n (il (ups n)) ∧ Below w.heap.size w w') := by
  obtain ⟨j0, hj0, hy0, hy1, hy2⟩ := info_parts info_i64
  obtain ⟨n1, n2⟩ := hn
  have START : Hid (Grow w 2 0 [] (.slice (some ⟨w.heap.size, 0, none⟩) 0 0) (w.alloc (.cells #[] 2))) := Lib.hid (Grow.empty _ _)
  have HUP : Hid (∀ k, il (ups (k + 1)) = il (ups k) ++ [.int .i64 (k : Nat)]) := Lib.hid fun k => by rw [ups_succ]; simp [il]
  go_enter Tryz.func44, Tryz.ntmps44
  go_wp2_with fail
  go_loopw [5, 6] (fun v kv wr => ∃ k : Nat, k ≤ n ∧ kv = .int .i64 k ∧ Grow w 2 k (il (ups k)) v wr) (fun _ kv _ => n - (intOf kv).toNat)
  case atStart => exact ⟨0, Nat.zero_le _, rfl, START.out⟩
  case round =>
    obtain ⟨k, hk, rfl, hb, A, c, rfl, ho⟩ := hrel
    rename World => wr
    have HB := Lib.hid hb
    have HO := Lib.hid ho
    have hz := hb.size
    clear hb ho START
    by_cases hlt : k < n
    · have hle : (k : Int) ≤ (n : Int) - 1 := by omega
      go_wp2_with (refine wpList_append_lies _ rfl _ _ _ rfl w.heap.size 2 j0 _ 1 8 Tryz.underlying22 hj0 hy0 hy1 hy2 rfl (by omega) (.slice A k c) k (il (ups k)) (by rfl) (HO.out.alloc _) ⟨wr.heap.size, 0, none⟩ 1 1 [.int .i64 (k : Nat)] (by rfl) (by rfl) (World.news_of_block (cs := #[.int .i64 (k : Nat)]) (t := 2) (fr := (0, 0)) (heap_alloc_new wr _)) (by simp [Value.oneCell']) (by omega) (by unfold maxLen; omega) (by omega) (by simp; omega) (wr.heap.size + 1) (by simp) ?_; intro g9 cap9 w9 hown9 hgrow hat hlt9; have G9 := Lib.hid (Grow.step HB.out HO.out (Below.refl _ _) hgrow hown9); clear hown9 hgrow hat)
      go_roundw
      case rel => exact ⟨k + 1, by omega, by go_num, by rw [HUP.out]; exact G9.out⟩
      case measure => simp [intOf]; omega
    · obtain rfl : k = n := by omega
      go_wp2_with fail
      go_ret
      exact ⟨A, c, rfl, HO.out, HB.out⟩

set_option maxRecDepth 100000 in
theorem clone0_any (A : Option Addr) (c : Nat) (w : World) : Calls Tryz.prog 40 #[.slice A 0 c] w (fun e w' => ∃ A' c', e = .returned (.slice A' 0 c') ∧ Below w.heap.size w w') := by
  have HB := Lib.hid (below_al (Below.refl w.heap.size w) (.cells #[] 2))
  cases A with
  | none =>
    have HNI := fun w => Lib.run_eql_slice_nil (P := Tryz.prog) w 22 2 none 0 c 0 0 Tryz.underlying22
    go_enter Tryz.func40, Tryz.ntmps40
    go_wp2_with fail
    go_ret
    exact ⟨_, _, rfl, Below.refl _ _⟩
  | some a =>
    have HNI := fun w => Lib.run_eql_slice_nil (P := Tryz.prog) w 22 2 (some a) 0 c 0 0 Tryz.underlying22
    go_enter Tryz.func40, Tryz.ntmps40
    go_wp2_with fail
    go_ret
    exact ⟨_, _, rfl, HB.out⟩
/-- an order -/
def ordB (xs : List Int) : Bool := inB xs.length 1 64 && okTo xs xs.length xs.length
theorem ord_sort {xs : List Int} (h : inB xs.length 1 64 = true) : sameI (xs.mergeSort leB) (ups xs.length) = ordB xs := by
  unfold ordB
  rw [h, Bool.true_and]
  unfold sameI
  cases ho : okTo xs xs.length xs.length with
  | true => exact decide_eq_true ((order_sort xs).2 ho)
  | false => exact decide_eq_false fun e => by rw [(order_sort xs).1 e] at ho; cases ho
set_option maxRecDepth 100000 in
set_option maxHeartbeats 1600000 in
theorem IsOrder_any (A : Option Addr) (xs : List Int) (c : Nat) (w : World) (hx : xs.length ≤ 134217728) (h : Rd w w.heap.size A (il xs)) : Calls Tryz.prog 22 #[.slice A xs.length c] w (BoolOut (ordB xs) w) := by
  unfold BoolOut
  by_cases h0 : xs.length = 0
  · obtain rfl : xs = [] := List.length_eq_zero_iff.1 h0
    have HS := Lib.hid fun A c w => Sort_none A c w
    have HZ := Lib.hid fun w => isSize_any 0 w
    rw [show inB 0 1 64 = false by decide] at HZ
    rw [show ordB [] = false by decide]
    have HC := Lib.hid (clone0_any A c w)
    go_enter Tryz.func22, Tryz.ntmps22
    go_wp2_with fail
    refine HC.out.mono ?_
    rintro e w1 ⟨A', c', rfl, hb1⟩
    have B1 := Lib.hid hb1
    clear hb1
    go_wp2_with (first
      | (go_at_call 41; refine (HS.out _ _ _).mono ?_; rintro e w2 ⟨rfl, rfl⟩)
      | (go_at_call 42; refine (HZ.out _).mono ?_; rintro e w3 ⟨rfl, rfl⟩))
    go_ret
    exact ⟨rfl, B1.out⟩
  · have HC := Lib.hid (cloneI_any A xs c w hx (by omega) h)
    have HSO := Lib.hid fun base g cap w h => Sort_own xs base g cap w h hx
    have HZ := Lib.hid fun w => isSize_any xs.length w
    by_cases hs : inB xs.length 1 64 = true
    · have hb := inB_of hs
      have HN := Lib.hid fun w => numbersFrom_any xs.length (by omega) w
      have HE := Lib.hid fun A B c d w h1 h2 => Equal_any A B (xs.mergeSort leB) (ups xs.length) c d w (by rw [sort_len]; omega) (by rw [ups_len]; omega) h1 h2
      rw [ord_sort hs, sort_len, ups_len] at HE
      rw [hs] at HZ
      clear hs hb h
      generalize xs.mergeSort leB = ys at *
      go_enter Tryz.func22, Tryz.ntmps22
      go_wp2_with fail
      refine HC.out.mono ?_
      rintro e w1 ⟨A', c', rfl, ho1, hb1⟩
      obtain ⟨g, cap, hv, hg, hlt⟩ := ho1.form (by omega)
      injection hv with hA hB hC
      subst hA
      clear hB hC
      have O1 := Lib.hid ho1
      have B1 := Lib.hid hb1
      clear ho1 hb1
      go_wp2_with fail
      refine (HSO.out _ _ _ _ O1.out).mono ?_
      rintro e w2 ⟨rfl, ho2, hgr⟩
      have O2 := Lib.hid ho2
      have B2 := Lib.hid (B1.out.grown hgr B1.out.size (fun j hj => by have : g = j := Option.some.inj hj; omega))
      clear ho2 hgr
      go_wp2_with (first
        | (go_at_call 42; refine (HZ.out _).mono ?_; rintro e w3 ⟨rfl, rfl⟩)
        | (go_at_call 44; refine (HN.out _).mono ?_; rintro e w4 ⟨A4, c4, rfl, ho4, hb4⟩; have O4 := Lib.hid ho4; have B4 := Lib.hid hb4; clear ho4 hb4)
        | (go_at_call 43; refine (HE.out _ _ _ _ _ (Rd.of_own (own_below O2.out B4.out)) (Rd.of_own O4.out)).mono ?_; rintro e w5 ⟨rfl, m5, rfl⟩))
      go_ret
      exact ⟨rfl, below_dn (below_next B2.out B4.out) _⟩
    · have hf : inB xs.length 1 64 = false := by simpa using hs
      have HO : Hid (ordB xs = false) := Lib.hid (by unfold ordB; rw [hf]; rfl)
      rw [hf] at HZ
      clear hs hf h
      go_enter Tryz.func22, Tryz.ntmps22
      go_wp2_with fail
      refine HC.out.mono ?_
      rintro e w1 ⟨A', c', rfl, ho1, hb1⟩
      obtain ⟨g, cap, hv, hg, hlt⟩ := ho1.form (by omega)
      injection hv with hA hB hC
      subst hA
      clear hB hC
      have O1 := Lib.hid ho1
      have B1 := Lib.hid hb1
      clear ho1 hb1
      go_wp2_with fail
      refine (HSO.out _ _ _ _ O1.out).mono ?_
      rintro e w2 ⟨rfl, ho2, hgr⟩
      have B2 := Lib.hid (B1.out.grown hgr B1.out.size (fun j hj => by have : g = j := Option.some.inj hj; omega))
      clear ho2 hgr
      go_wp2_with (go_at_call 42; refine (HZ.out _).mono ?_; rintro e w3 ⟨rfl, rfl⟩)
      go_ret
      rw [HO.out]
      exact ⟨rfl, B2.out⟩
end Go.Proofs.YtadkpmmbnenemaaGreatDoor
