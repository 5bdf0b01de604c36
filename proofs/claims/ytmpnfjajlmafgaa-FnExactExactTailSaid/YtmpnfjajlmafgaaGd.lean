/-
  spec.l06Ways, spec.l06Weight.
-/
import Derived.Test.YtmpnfjajlmafgaaGc
import Derived.Test.YtmpnfjajlmafgaaGb
namespace Go.Proofs.Ytmpnfjajlmafgaa
open Go Go.RowKit

/-- in how many ways a column can be filled -/
def wyTo (xs : List Nat) : Nat → Int
  | 0 => 1
  | i + 1 => IntKind.i64.wrap (wyTo xs i * (pas (preSum xs (i + 1)) xs[i]! : Nat))
set_option maxRecDepth 100000 in
set_option maxHeartbeats 1600000 in
theorem l06Ways_any (g o n c : Nat) (xs : List Nat) (w : World) (hn : n ≤ 60) (hs : ∀ i, i ≤ n → preSum xs i ≤ 60) (hc : ∀ i, i < n → w.cell? ⟨g, o + i, none⟩ = some (.int .i64 (xs[i]! : Nat))) :
    Calls Try.prog 73 #[.slice (some ⟨g, o, none⟩) n c] w (fun e w' => e = .returned (.int .i64 (wyTo xs n)) ∧ Below w.heap.size w w') := by
  have HC := Lib.hid hc
  have HS := Lib.hid hs
  have HP : Hid (∀ i, preSum xs (i + 1) = preSum xs i + xs[i]!) := Lib.hid fun i => rfl
  have HP0 : Hid (preSum xs 0 = 0) := Lib.hid rfl
  have HW0 : Hid (wyTo xs 0 = 1) := Lib.hid rfl
  have HWS : Hid (∀ i, wyTo xs (i + 1) = IntKind.i64.wrap (wyTo xs i * (pas (preSum xs (i + 1)) xs[i]! : Nat))) := Lib.hid fun i => rfl
  have HCH : Hid (∀ a b W, b ≤ a → a ≤ 60 → Calls Try.prog 47 #[.int .i64 ((a : Nat) : Int), .int .i64 ((b : Nat) : Int)] W (fun e w' => e = .returned (.int .i64 (pas a b : Nat)) ∧ Below W.heap.size W w')) := Lib.hid fun a b W h1 h2 => l06Choose_any a b h2 h1 W
  clear hs hc
  generalize wyTo xs = wy at *
  generalize preSum xs = ps at *
  go_enter Try.func73, Try.ntmps73
  go_wp2_with fail
  go_loopw [3, 4, 5] (fun av tv iv wr => ∃ i : Nat, i ≤ n ∧ iv = .int .i64 i ∧ av = .int .i64 (wy i) ∧ tv = .int .i64 (ps i : Nat) ∧ Below w.heap.size w wr) (fun _ _ iv _ => n - (intOf iv).toNat)
  case atStart => exact ⟨0, Nat.zero_le _, rfl, by rw [HW0.out], by rw [HP0.out]; rfl, Below.refl _ _⟩
  case round =>
    obtain ⟨i, hi, rfl, rfl, rfl, hb⟩ := hrel
    rename World => wr
    have B := Lib.hid hb
    clear hb
    by_cases hin : i < n
    · have y0 := keepC B.out (HC.out i hin)
      have hiI : (i : Int) < (n : Int) := by omega
      have h1 := HS.out (i + 1) (by omega)
      have h2 := HP.out i
      have hw : IntKind.i64.wrap (((ps i : Nat) : Int) + ((xs[i]! : Nat) : Int)) = ((ps (i + 1) : Nat) : Int) := by
        rw [h2, Int.natCast_add]
        exact IntWalk.i64_in _ (by omega)
      have HX := Lib.hid fun W => HCH.out (ps (i + 1)) xs[i]! W (by omega) h1
      have HV := Lib.hid (HWS.out i)
      clear HCH HWS HS HP h2 HC
      generalize hp1 : ps (i + 1) = p1 at *
      have HP1 := Lib.hid hp1
      clear hp1
      generalize ps i = p0 at *
      generalize xs[i]! = x at *
      generalize pas p1 x = pv at *
      go_wp2_with (go_at_call 47; (with_reducible refine (HX.out _).mono ?_); rintro e w2 ⟨rfl, hb2⟩; have B2 := Lib.hid (below_next B.out hb2); clear hb2)
      go_roundw
      case rel => exact ⟨i + 1, by omega, by go_num, by rw [HV.out, ← w64y], by rw [HP1.out, ← hw, ← w64y], B2.out⟩
      case measure => simp [intOf]; omega
    · obtain rfl : i = n := by omega
      go_wp2_with fail
      go_ret
      exact ⟨rfl, B.out⟩
/-- a column of a table -/
def colF (xs : List Nat) (C c r : Nat) : Nat := xs[r * C + c]!
def colV (xs : List Nat) (R C c : Nat) : List Nat := (List.range R).map (colF xs C c)
theorem colV_at {xs : List Nat} {R C c r : Nat} (h : r < R) : (colV xs R C c)[r]! = colF xs C c r := by
  unfold colV
  rw [getElem!_pos _ _ (by simpa using h)]
  simp
theorem preSum_small {xs : List Nat} {m : Nat} : ∀ i, (∀ j, j < i → xs[j]! ≤ m) → preSum xs i ≤ m * i
  | 0, _ => Nat.zero_le _
  | i + 1, h => by
    have h1 := preSum_small i fun j hj => h j (by omega)
    have h2 := h i (by omega)
    show preSum xs i + xs[i]! ≤ _
    rw [Nat.mul_succ]
    omega
/-- the weight of a table by its columns -/
def lwTo (xs : List Nat) (R C : Nat) : Nat → Int
  | 0 => 1
  | c + 1 => IntKind.i64.wrap (lwTo xs R C c * wyTo (colV xs R C c) R)
set_option maxRecDepth 100000 in
set_option maxHeartbeats 1600000 in
theorem l06Weight_any (p g o R C ct : Nat) (xs : List Nat) (w : World) (hR : 1 ≤ R ∧ R ≤ 3) (hC : 1 ≤ C ∧ C ≤ 3) (hs : ∀ i : Nat, xs[i]! ≤ 20) (hp : TbAt w p R C (some ⟨g, o, none⟩) (R * C) ct) (hc : ∀ i, i < R * C → w.cell? ⟨g, o + i, none⟩ = some (.int .i64 (xs[i]! : Nat))) :
    Calls Try.prog 41 #[.pointer (some ⟨p, 0, none⟩)] w (fun e w' => e = .returned (.int .i64 (lwTo xs R C C)) ∧ Below w.heap.size w w') := by
  obtain ⟨i0, hi0, hz0, hz1, hz2⟩ := info_parts info_i64
  have hRC : R * C ≤ 9 := by
    have := Nat.mul_le_mul hR.2 hC.2
    omega
  have HC := Lib.hid hc
  have P := Lib.hid hp
  have HL0 : Hid (lwTo xs R C 0 = 1) := Lib.hid rfl
  have HLS : Hid (∀ c, lwTo xs R C (c + 1) = IntKind.i64.wrap (lwTo xs R C c * wyTo (colV xs R C c) R)) := Lib.hid fun c => rfl
  have HIX : Hid (∀ c r, c < C → r < R → r * C + c < R * C) := Lib.hid fun c r h1 h2 => by
    have : (r + 1) * C ≤ R * C := Nat.mul_le_mul_right _ h2
    rw [Nat.succ_mul] at this
    omega
  have HF : Hid (∀ c r, xs[r * C + c]! = colF xs C c r) := Lib.hid fun c r => rfl
  have HWY : Hid (∀ (c g9 c9 : Nat) (W : World), W.ownsRow w.heap.size 2 1 (.slice (some ⟨g9, 0, none⟩) R c9) R (wl (colF xs C c) R) → Calls Try.prog 73 #[.slice (some ⟨g9, 0, none⟩) R c9] W (fun e w' => e = .returned (.int .i64 (wyTo (colV xs R C c) R)) ∧ Below W.heap.size W w')) := Lib.hid fun c g9 c9 W ho => by
    refine l06Ways_any g9 0 R c9 (colV xs R C c) W (by omega) (fun i hi => ?_) fun i hi => ?_
    · have := preSum_small (xs := colV xs R C c) (m := 20) i fun j hj => by rw [colV_at (by omega)]; exact hs _
      omega
    · rw [colV_at hi, Nat.zero_add]
      exact own_cellAt ho (wl_at hi)
  have HLG : Hid (g < w.heap.size) := Lib.hid (lt_of_cell (hc 0 (by have := Nat.mul_le_mul hR.1 hC.1; omega)))
  clear hs hc
  generalize hN : R * C = N at *
  clear hN
  go_enter Try.func41, Try.ntmps41
  go_wp2_with fail
  go_loopw [3, 4] (fun av iv wr => ∃ c : Nat, c ≤ C ∧ iv = .int .i64 c ∧ av = .int .i64 (lwTo xs R C c) ∧ Below w.heap.size w wr) (fun _ iv _ => C - (intOf iv).toNat)
  case atStart => exact ⟨0, Nat.zero_le _, rfl, by rw [HL0.out], Below.refl _ _⟩
  case round =>
    obtain ⟨c, hcC, rfl, rfl, hb⟩ := hrel
    rename World => wr
    have B := Lib.hid hb
    obtain ⟨p0, p1, p2⟩ := P.out.keep hb
    have hbs := hb.size
    clear hb
    by_cases hcc : c < C
    · have hcI : (c : Int) < (C : Int) := by omega
      have HV := Lib.hid (HLS.out c)
      have HWC := Lib.hid (HWY.out c)
      have HCC : Hid (∀ r W, r < R → Below w.heap.size w W → W.cell? ⟨g, o + (r * C + c), none⟩ = some (.int .i64 (colF xs C c r : Nat))) := Lib.hid fun r W hr hW => keepC hW (HC.out _ (HIX.out c r hcc hr))
      have HIC : Hid (∀ r, r < R → r * C + c < N) := Lib.hid fun r hr => HIX.out c r hcc hr
      have START : Hid ((wr.alloc (.cells #[] 2)).ownsRow w.heap.size 2 1 (.slice (some ⟨wr.heap.size, 0, none⟩) 0 0) 0 (wl (colF xs C c) 0) ∧ Below w.heap.size w (wr.alloc (.cells #[] 2))) := Lib.hid ⟨own_base (World.ownsRow_made wr #[] 0 (Nat.le_refl _) (by unfold maxLen; omega) rfl) hbs, below_al B.out _⟩
      clear HLS HWY HIX HF HC
      generalize lwTo xs R C c = l0 at *
      generalize wyTo (colV xs R C c) R = wy at *
      generalize colF xs C c = f at *
      go_upto_region 6 with fail
      generalize World.alloc wr _ = w4 at *
      go_wp2_with fail
      go_loopw [5, 6] (fun rv iv wk => ∃ (r g9 c9 : Nat), r ≤ R ∧ iv = .int .i64 r ∧ rv = .slice (some ⟨g9, 0, none⟩) r c9 ∧ wk.ownsRow w.heap.size 2 1 (.slice (some ⟨g9, 0, none⟩) r c9) r (wl f r) ∧ Below w.heap.size w wk) (fun _ iv _ => R - (intOf iv).toNat)
      case atStart => exact ⟨0, _, 0, Nat.zero_le _, rfl, rfl, START.out.1, START.out.2⟩
      case round =>
        clear START B p0 p1 p2
        obtain ⟨r, g9, c9, hr, rfl, rfl, ho, hb⟩ := hrel
        rename World => wk
        have O := Lib.hid ho
        have B := Lib.hid hb
        have hbs := hb.size
        obtain ⟨p0, p1, p2⟩ := P.out.keep hb
        clear ho hb
        by_cases hrR : r < R
        · have y0 := HCC.out r wk hrR B.out
          have hqN := HIC.out r hrR
          have hrI : (r : Int) < (R : Int) := by omega
          have hm1 : IntKind.i64.wrap ((r : Int) * (C : Int)) = ((r * C : Nat) : Int) := by
            rw [← Int.natCast_mul]
            exact IntWalk.i64_in _ (by omega)
          have hm2 : IntKind.i64.wrap (((r * C : Nat) : Int) + (c : Int)) = ((r * C + c : Nat) : Int) := by
            rw [← Int.natCast_add]
            exact IntWalk.i64_in _ (by omega)
          have hqI : ((r * C + c : Nat) : Int) < (N : Int) := by omega
          have HSU9 : Hid (wl f r ++ [.int .i64 (f r : Nat)] = wl f (r + 1)) := Lib.hid (wl_succ f r).symm
          have HM : Hid (∀ W, Below wk.heap.size wk W → W.cell? ⟨p, 1, none⟩ = some (.int .i64 C) ∧ W.cell? ⟨p, 2, none⟩ = some (.slice (some ⟨g, o, none⟩) N ct) ∧ W.cell? ⟨g, o + (r * C + c), none⟩ = some (.int .i64 (f r : Nat))) := Lib.hid fun W hW => ⟨keepC hW p1, keepC hW p2, keepC hW y0⟩
          have HKP : Hid (∀ (W0 W : World) (o' : Obj), Below wk.heap.size wk W0 → (W0.alloc o').grownBy W (some g9) → W.cell? ⟨p, 1, none⟩ = some (.int .i64 C) ∧ W.cell? ⟨p, 2, none⟩ = some (.slice (some ⟨g, o, none⟩) N ct) ∧ W.cell? ⟨g, o + (r * C + c), none⟩ = some (.int .i64 (f r : Nat))) := Lib.hid fun W0 W o' h0 hW => by
            have hg := (O.out.lt g9 rfl).1
            have l1 := P.out.lt
            have l2 := HLG.out
            have h1 := HM.out _ (below_al h0 o')
            have n1 : p ≠ g9 := by omega
            have n2 : g ≠ g9 := by omega
            exact ⟨by rw [hW.cell_far _ (lt_of_cell h1.1) (fun e => n1 (by injection e))]; exact h1.1, by rw [hW.cell_far _ (lt_of_cell h1.2.1) (fun e => n1 (by injection e))]; exact h1.2.1, by rw [hW.cell_far _ (lt_of_cell h1.2.2) (fun e => n2 (by injection e))]; exact h1.2.2⟩
          have hS := HM.out wk (Below.refl _ _)
          have HWL : Hid ((wl f r).length = r) := Lib.hid (wl_len f r)
          clear y0
          generalize f r = fr at *
          generalize r * C + c = q at *
          generalize r * C = rc at *
          go_wp2_with fail
          go_region_held3 (fun W => W.cell? ⟨p, 1, none⟩ = some (.int .i64 C) ∧ W.cell? ⟨p, 2, none⟩ = some (.slice (some ⟨g, o, none⟩) N ct) ∧ W.cell? ⟨g, o + q, none⟩ = some (.int .i64 (fr : Nat)))
            (first | exact hS | exact HM.out _ (Below.refl _ _) | exact HM.out _ (below_dr (Below.refl _ _)) | exact HM.out _ (below_al (below_dr (Below.refl _ _)) _) | exact KP3)
            (first
              | (refine step_append_lies _ (by rfl) _ _ _ (by rfl) w.heap.size 2 i0 _ 1 8 Try.underlying22 hi0 hz0 hz1 hz2 rfl (by omega) (.slice (some ⟨g9, 0, none⟩) r c9) r (wl f r) (by rfl) ((own_below O.out (below_dr (Below.refl _ _))).alloc _) ⟨_, 0, none⟩ 1 1 [.int .i64 (fr : Nat)] (by rfl) (by rfl) (World.news_of_block (cs := #[.int .i64 (fr : Nat)]) (t := 2) (fr := (0, 0)) (heap_alloc_new _ _)) (by simp [Value.oneCell']) (by omega) (by unfold maxLen; omega) (by omega) (by simp; omega) _ rfl ?_; intro g8 cap8 w8 hown8 hgrow8 hat8 hlt8; rw [HSU9.out] at hown8; have O8 := Lib.hid hown8; have G8 := Lib.hid hgrow8; have KP3 := HKP.out _ _ _ (below_dr (Below.refl _ _)) hgrow8; clear hgrow8 hat8 hown8))
          have B8 : Hid (Below w.heap.size w w8) := Lib.hid ((below_al (below_dr B.out) _).grown G8.out (below_al (below_dr B.out) _).size fun j hj => by have e : g9 = j := Option.some.inj hj; have := (O.out.lt g9 rfl).1; omega)
          go_wp2_with fail
          go_roundw
          case rel => exact ⟨r + 1, g8, cap8, by omega, by go_num, rfl, O8.out, B8.out⟩
          case measure => simp [intOf]; omega
        · obtain rfl : r = R := by omega
          go_wp2_with (go_at_call 73; (with_reducible refine (HWC.out _ _ _ O.out).mono ?_); rintro e w5 ⟨rfl, hb5⟩; have B5 := Lib.hid (below_next B.out hb5); clear hb5)
          go_roundw
          case rel => exact ⟨c + 1, by omega, by go_num, by rw [HV.out, ← w64y], B5.out⟩
          case measure => simp [intOf]; omega
    · obtain rfl : c = C := by omega
      go_wp2_with fail
      go_ret
      exact ⟨rfl, B.out⟩
end Go.Proofs.Ytmpnfjajlmafgaa
