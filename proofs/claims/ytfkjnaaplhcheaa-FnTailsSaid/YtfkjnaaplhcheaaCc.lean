/-
  slices.Grow at nil, slices.Concat of lists of integers that are only read.
-/
import Derived.Test.YtfkjnaaplhcheaaCo
import Derived.Lib.AppendZeros
import Derived.Deep.Upon
namespace Go.Proofs.Ytfkjnaaplhcheaa
open Go Go.RowKit

/-- the numbers of the first so many cycles -/
def flatTo (cs : List (List Int)) (k : Nat) : List Int := (cs.take k).flatten
theorem flatTo_zero (cs : List (List Int)) : flatTo cs 0 = [] := rfl
theorem flatTo_succ {cs : List (List Int)} {k : Nat} (h : k < cs.length) : flatTo cs (k + 1) = flatTo cs k ++ cs[k] := by
  unfold flatTo
  rw [List.take_succ_eq_append_getElem h, List.flatten_append]
  simp
theorem flatTo_end (cs : List (List Int)) : flatTo cs cs.length = cs.flatten := by unfold flatTo; rw [List.take_length]
theorem flatTo_len_le (cs : List (List Int)) {k : Nat} (_h : k ≤ cs.length) : (flatTo cs k).length ≤ cs.flatten.length := by
  unfold flatTo
  have e : cs = cs.take k ++ cs.drop k := (List.take_append_drop k cs).symm
  have h2 : cs.flatten.length = ((cs.take k).flatten ++ (cs.drop k).flatten).length := by rw [← List.flatten_append, ← e]
  rw [h2, List.length_append]
  omega
set_option maxRecDepth 100000 in
theorem Grow_nil (n : Nat) (hn : n ≤ 134217728) (w : World) : Calls Try.prog 94 #[.slice none 0 0, .int .i64 n] w (fun e w' => ∃ A c, e = .returned (.slice A 0 c) ∧ w'.ownsRow w.heap.size 2 1 (.slice A 0 c) 0 [] ∧ Below w.heap.size w w') := by
  obtain ⟨i0, hi0, hz0, hz1, hz2⟩ := info_parts info_i64
  by_cases h0 : n = 0
  · subst h0
    go_enter Try.func94, Try.ntmps94
    go_wp2_with fail
    go_ret
    exact ⟨none, 0, rfl, World.ownsRow_nil _ _ _ _, Below.refl _ _⟩
  · have hpos : (0 : Int) < (n : Int) := by omega
    have hng : ¬ (n : Int) < 0 := by omega
    have hsub : IntKind.i64.wrap ((n : Int) - 0) = (n : Int) := by rw [Int.sub_zero]; exact IntWalk.i64_in _ (by omega)
    have HR : Hid (∀ W, (Builtin.append_ #[25, 3] 25 #[.slice none 0 0, .int .i64 n]).run Try.prog W = .ok (.slice (some ⟨W.heap.size, 0, none⟩) n (grownCap W n 0 2)) (W.drew.alloc (.cells (Builtin.zeroCells #[.int .i64 0] n ++ Builtin.zeroCells #[.int .i64 0] (grownCap W n 0 2 - n)) 2))) := Lib.hid fun W => by
      have h := Lib.run_append_nil_zeros (P := Try.prog) W 25 3 25 2 i0 (.int .i64 0) .i64 .i64 Try.underlying25 Try.underlying3 hi0 hz0 n (by omega) (by rw [hz1]; decide) (by omega) (by rw [hz2]; omega)
      exact h
    have HC1 : Hid (∀ W, n ≤ grownCap W n 0 2) := Lib.hid fun W => grownCap_ge _ _ _ _
    have HC2 : Hid (∀ W, grownCap W n 0 2 ≤ maxLen) := Lib.hid fun W => grownCap_le_maxLen _ _ _ _ (by unfold maxLen; omega)
    go_enter Try.func94, Try.ntmps94
    go_wp2_with (refine Lib.wpList_append_run _ rfl _ _ _ _ rfl _ _ rfl rfl _ _ (HR.out _) ?_)
    go_ret
    refine ⟨some ⟨w.heap.size, 0, none⟩, _, rfl, ⟨rfl, .inr ⟨w.heap.size, _, _, rfl, Nat.le_refl _, heap_alloc_new w _, Nat.zero_le _, HC2.out w, ?_, rfl⟩⟩, below_dr (below_al (Below.refl _ _) _)⟩
    have := HC1.out w
    rw [Array.size_append, size_zeroCells, size_zeroCells]
    simp
    omega
theorem run_append_zero (P : Program) (t e : TypeId) (i : TypeInfo) (ht : P.underlying t = some (.slice e)) (hi : P.info? e = some i) (A A2 : Option Addr) (n c c2 : Nat) (hle : n ≤ c) (w : World) :
    (Builtin.append_ #[t, t] t #[.slice A n c, .slice A2 0 c2]).run P w = .ok (.slice A n c) w := by
  refine run_append_nothing w t t t e i ht hi A n c hle _ ?_
  cases A2 with
  | none => exact Src.ofNil w ht c2
  | some a => exact Src.ofSlice w ht a 0 c2 [] (by simp) (by simp) (by simp)
/-- lists that lie wherever, told by a row of slices -/
structure LQ (W : World) (R : Nat) (rs : List (List Int × (Option Addr × Nat))) : Prop where
  o : ∀ k (h : k < rs.length), W.cell? ⟨R, k, none⟩ = some (.slice rs[k].2.1 rs[k].1.length rs[k].2.2)
  r : ∀ k (h : k < rs.length), Rd W W.heap.size rs[k].2.1 (il rs[k].1)
theorem LQ.keep {W W' : World} {R : Nat} {rs : List (List Int × (Option Addr × Nat))} (h : LQ W R rs) (hb : Below W.heap.size W W') : LQ W' R rs := ⟨fun k hk => keepC hb (h.o k hk), fun k hk => (h.r k hk).at_ hb⟩
def csO (rs : List (List Int × (Option Addr × Nat))) : List (List Int) := rs.map (·.1)
theorem csO_len (rs : List (List Int × (Option Addr × Nat))) : (csO rs).length = rs.length := by simp [csO]
theorem csO_get {rs : List (List Int × (Option Addr × Nat))} {k : Nat} (h : k < rs.length) (h' : k < (csO rs).length) : (csO rs)[k] = rs[k].1 := by simp [csO]
theorem flat_step {rs : List (List Int × (Option Addr × Nat))} {k : Nat} (h : k < rs.length) : flatTo (csO rs) (k + 1) = flatTo (csO rs) k ++ rs[k].1 := by
  rw [flatTo_succ (by rw [csO_len]; exact h), csO_get h]
set_option maxRecDepth 100000 in
set_option maxHeartbeats 3200000 in
theorem Concat_any (R c : Nat) (rs : List (List Int × (Option Addr × Nat))) (w : World) (h : LQ w R rs) (hl : (csO rs).flatten.length ≤ 134217728) (hn : rs.length ≤ 134217728) :
    Calls Try.prog 50 #[.slice (some ⟨R, 0, none⟩) rs.length c] w (fun e w' => ∃ A' c', e = .returned (.slice A' (csO rs).flatten.length c') ∧ w'.ownsRow w.heap.size 2 1 (.slice A' (csO rs).flatten.length c') (csO rs).flatten.length (il (csO rs).flatten) ∧ Below w.heap.size w w') := by
  obtain ⟨i0, hi0, hz0, hz1, hz2⟩ := info_parts info_i64
  have HG := Lib.hid fun n hn w => Grow_nil n hn w
  have L1 := Lib.hid h
  have HST : Hid (∀ k (h : k < rs.length), flatTo (csO rs) (k + 1) = flatTo (csO rs) k ++ rs[k].1) := Lib.hid fun k h => flat_step h
  have HLE : Hid (∀ k, k ≤ rs.length → (flatTo (csO rs) k).length ≤ (csO rs).flatten.length) := Lib.hid fun k h => flatTo_len_le _ (by rw [csO_len]; exact h)
  have HF0 : Hid (flatTo (csO rs) 0 = []) := Lib.hid rfl
  have HEND : Hid (flatTo (csO rs) rs.length = (csO rs).flatten) := Lib.hid (by rw [← csO_len rs]; exact flatTo_end _)
  have HZ : Hid (∀ (A A2 : Option Addr) (n c c2 : Nat) (w : World), n ≤ c → (Builtin.append_ #[25, 25] 25 #[.slice A n c, .slice A2 0 c2]).run Try.prog w = .ok (.slice A n c) w) := Lib.hid fun A A2 n c c2 w hle => run_append_zero Try.prog 25 2 i0 Try.underlying25 hi0 A A2 n c c2 hle w
  clear h
  generalize (csO rs).flatten = FL at *
  generalize flatTo (csO rs) = FT at *
  have HTOT := Lib.hid hl
  go_enter Try.func50, Try.ntmps50
  go_wp2_with fail
  go_loop [3, 11] (fun sv kv => ∃ k : Nat, k ≤ rs.length ∧ kv = .int .i64 k ∧ sv = .int .i64 ((FT k).length : Nat)) (fun _ kv => rs.length - (intOf kv).toNat)
  case atStart => exact ⟨0, Nat.zero_le _, rfl, by rw [HF0.out]; rfl⟩
  case round =>
    obtain ⟨k, hk, rfl, rfl⟩ := hrel
    have h1 := HLE.out k hk
    by_cases hlt : k < rs.length
    · have hcl := L1.out.o k hlt
      have h2 := HLE.out (k + 1) hlt
      have HS := Lib.hid (HST.out k hlt)
      have hsl : (FT (k + 1)).length = (FT k).length + rs[k].1.length := by rw [HS.out, List.length_append]
      have HSL := Lib.hid hsl
      have hs1 : (((FT k).length : Nat) : Int) + ((rs[k].1.length : Nat) : Int) = (((FT k).length + rs[k].1.length : Nat) : Int) := by push_cast; rfl
      have hw1 : IntKind.i64.wrap ((((FT k).length : Nat) : Int) + ((rs[k].1.length : Nat) : Int)) = (((FT k).length + rs[k].1.length : Nat) : Int) := by rw [hs1]; exact IntWalk.i64_in _ (by omega)
      have hng : ¬ (((FT k).length + rs[k].1.length : Nat) : Int) < 0 := by omega
      have hlt' : (k : Int) < (rs.length : Int) := by omega
      clear hsl hs1
      generalize hM : (FT k).length + rs[k].1.length = M at *
      go_wp2_with fail
      go_round
      case rel => exact ⟨k + 1, by omega, by go_num, by rw [HSL.out]⟩
      case measure => simp [intOf]; omega
    · obtain rfl : k = rs.length := by omega
      have HGN := Lib.hid (HG.out (FT rs.length).length (by omega))
      clear HG
      go_wp2_with fail
      refine (HGN.out _).mono ?_
      rintro e w1 ⟨A1, c1, rfl, ho1, hb1⟩
      have O1 := Lib.hid ho1
      have B1 := Lib.hid hb1
      clear ho1 hb1 HGN h1
      go_wp2_with fail
      go_loopw [6, 27] (fun nv kv wr => ∃ (k : Nat) (A3 : Option Addr) (c3 : Nat), k ≤ rs.length ∧ kv = .int .i64 k ∧ nv = .slice A3 (FT k).length c3 ∧ wr.ownsRow w.heap.size 2 1 (.slice A3 (FT k).length c3) (FT k).length (il (FT k)) ∧ Below w.heap.size w wr) (fun _ kv _ => rs.length - (intOf kv).toNat)
      case atStart => exact ⟨0, A1, c1, Nat.zero_le _, rfl, by rw [HF0.out]; rfl, by rw [HF0.out]; exact O1.out, B1.out⟩
      case round =>
        obtain ⟨k, A3, c3, hk, rfl, rfl, hown, hbw⟩ := hrel
        rename World => wr
        have O := Lib.hid hown
        have B := Lib.hid hbw
        clear hown hbw O1 B1
        by_cases hlt : k < rs.length
        · have hcl := (L1.out.keep B.out).o k hlt
          have hrow := (L1.out.keep B.out).r k hlt
          have h2 := HLE.out (k + 1) hlt
          have HS := Lib.hid (HST.out k hlt)
          have hsl : (FT (k + 1)).length = (FT k).length + rs[k].1.length := by rw [HS.out, List.length_append]
          have HSL := Lib.hid hsl
          have RW := Lib.hid hrow
          have hlt' : (k : Int) < (rs.length : Int) := by omega
          have hz := B.out.size
          have hsum : (FT k).length + rs[k].1.length ≤ 134217728 := by omega
          clear hrow hsl
          generalize hrk : rs[k].1 = ys at *
          clear hrk
          generalize rs[k].2.1 = A2 at *
          generalize rs[k].2.2 = c2 at *
          by_cases hm : ys.length = 0
          · have hc3 : (FT k).length ≤ c3 := by
              rcases O.out.2 with ⟨h1, h2⟩ | ⟨g', cap', cur, hv, _, _, h1, _⟩
              · omega
              · injection hv with _ _ e
                omega
            obtain rfl : ys = [] := List.length_eq_zero_iff.1 hm
            have HFS : Hid (FT (k + 1) = FT k) := Lib.hid (by rw [HS.out, List.append_nil])
            clear hm HS HSL RW hsum h2
            go_wp2_with (refine Lib.wpList_append_run _ rfl _ _ _ _ rfl _ _ rfl rfl _ _ (HZ.out _ _ _ _ _ _ hc3) ?_)
            go_roundw
            case rel => exact ⟨k + 1, A3, c3, by omega, by go_num, by rw [HFS.out], by rw [HFS.out]; exact O.out, B.out⟩
            case measure => simp [intOf]; omega
          · obtain ⟨g2, o2, rfl, hg2, hc2⟩ := RW.out (by rw [il_len]; omega)
            have HNEWS : Hid (∀ j u, (il ys)[j]? = some u → wr.cell? ((⟨g2, o2, none⟩ : Addr).add j) = some u) := Lib.hid fun j u hj => by
              obtain ⟨hjl, hju⟩ := List.getElem?_eq_some_iff.1 hj
              have hadd : (⟨g2, o2, none⟩ : Addr).add j = ⟨g2, o2 + j, none⟩ := by unfold Addr.add; split <;> simp_all
              rw [hadd, hc2 j hjl, hju]
            clear hc2
            have HONE : Hid (∀ u ∈ il ys, u.oneCell' = true) := Lib.hid fun u hu => by
              unfold il at hu
              rw [List.mem_map] at hu
              obtain ⟨x, -, rfl⟩ := hu
              rfl
            go_wp2_with (refine wpList_append_lies _ rfl _ _ _ rfl w.heap.size 2 i0 _ 1 8 Try.underlying25 hi0 hz0 hz1 hz2 rfl (by omega) (.slice A3 (FT k).length c3) (FT k).length (il (FT k)) (by rfl) O.out ⟨g2, o2, none⟩ ys.length c2 (il ys) (by rfl) (by rw [il_len, Nat.mul_one]) HNEWS.out HONE.out (by omega) (by unfold maxLen; omega) (by omega) (by omega) wr.heap.size rfl ?_; intro g9 cap9 w9 hown9 hgrow hat hlt9; have O9 := Lib.hid hown9; have B9 := Lib.hid (B.out.grown hgrow hz (fun j hj => (O.out.lt j hj).1)); clear hown9 hgrow hat hlt9)
            go_roundw
            case rel => exact ⟨k + 1, some ⟨g9, 0, none⟩, cap9, by omega, by go_num, by rw [HSL.out], by rw [HSL.out, HS.out]; simpa [il] using O9.out, B9.out⟩
            case measure => simp [intOf]; omega
        · obtain rfl : k = rs.length := by omega
          go_wp2_with fail
          go_ret
          exact ⟨A3, c3, by rw [← HEND.out]; rfl, by rw [← HEND.out]; exact O.out, B.out⟩
end Go.Proofs.Ytfkjnaaplhcheaa

