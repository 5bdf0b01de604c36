/-
  Seeds: spec.l02Next and spec.l02Share move a seed where it lies; which seeds are valid.
  No valid seed gives 64 words in a row that lie among the top 6: from the plain facts on each kind to the program's words.
  An even number below n, n at most 40: impl.BelowSeed, spec.l02Tried, l02Below: the first word that is not among the top ones.
  The reference's even number below n: spec.l02Tried, l02Below.
-/
import Derived.Test.YtfkjnaaplhcheaaSee
import Derived.Test.YtfkjnaaplhcheaaCm
import Derived.Test.YtfkjnaaplhcheaaFQ
import Derived.Laws.Bits64
import Derived.Laws.Bits64b
import Derived.Test.YtfkjnaaplhcheaaMono
import Derived.RegionTactic
import Derived.BigRegion
import Derived.Deep.Cut
import Derived.Deep.DeepCutAuto
namespace Go.Proofs.Ytfkjnaaplhcheaa
open Go Go.RowKit Ieee

/-- a seed has been moved where it lies; nothing else has changed -/
def SdTo (b : Nat) (k a c : Int) (w w' : World) : Prop := w.grownBy w' (some b) ∧ SdAt w' b k a c
theorem grown_dr {a w : World} {row : Option Nat} (h : a.grownBy w row) : a.grownBy w.drew row := ⟨h.os, h.tape, h.output, h.size, h.block⟩
theorem grown_dn {a w : World} {row : Option Nat} (h : a.grownBy w row) (n : Nat) : a.grownBy (w.drewN n) row := ⟨h.os, h.tape, h.output, h.size, h.block⟩
theorem SdAt.dr {w : World} {b : Nat} {k a c : Int} (h : SdAt w b k a c) : SdAt w.drew b k a c := h
theorem SdAt.dn {w : World} {b : Nat} {k a c : Int} (h : SdAt w b k a c) (n : Nat) : SdAt (w.drewN n) b k a c := h
theorem SdAt.setA {w : World} {b : Nat} {k a c : Int} (h : SdAt w b k a c) (a' : Int) : SdAt (w.setCell ⟨b, 1, none⟩ (.int .u64 a')) b k a' c := by
  obtain ⟨h0, h1, h2, h3⟩ := h
  exact ⟨(World.cell?_setCell_other _ _ _ _ (by simp)).trans h0, World.cell?_setCell_same _ _ _ h1, (World.cell?_setCell_other _ _ _ _ (by simp)).trans h2, fun o => by rw [World.frozen?_setCell]; exact h3 o⟩
theorem SdAt.setB {w : World} {b : Nat} {k a c : Int} (h : SdAt w b k a c) (c' : Int) : SdAt (w.setCell ⟨b, 2, none⟩ (.int .u64 c')) b k a c' := by
  obtain ⟨h0, h1, h2, h3⟩ := h
  exact ⟨(World.cell?_setCell_other _ _ _ _ (by simp)).trans h0, (World.cell?_setCell_other _ _ _ _ (by simp)).trans h1, World.cell?_setCell_same _ _ _ h2, fun o => by rw [World.frozen?_setCell]; exact h3 o⟩

def SNextOut (b : Nat) (k a c : Int) (w : World) (e : Ending) (w' : World) : Prop := e = .returned (.int .u32 (nW k a c)) ∧ SdTo b k (nA k a c) (nB k a c) w w'
theorem snext_out {b : Nat} {k a c a' c' W : Int} {w w' : World} (h1 : a' = nA k a c) (h2 : c' = nB k a c) (h3 : W = nW k a c) (hg : w.grownBy w' (some b)) (hs : SdAt w' b k a' c') : SNextOut b k a c w (.returned (.int .u32 W)) w' := by
  subst h1 h2 h3
  exact ⟨rfl, hg, hs⟩
theorem set_out {p q : Int} (h : p = q) : Ending.returned (.int .u32 p) = .returned (.int .u32 q) := by rw [h]

theorem high_mod {r : Int} (h : 0 ≤ r ∧ r < 18446744073709551616) : r / 4294967296 % 4294967296 = r / 4294967296 := by
  have : 0 ≤ r / 4294967296 ∧ r / 4294967296 < 4294967296 := by omega
  omega
set_option maxHeartbeats 800000 in
theorem l02Next_0 (b : Nat) (a c : Int) (w : World) (h : SdAt w b 0 a c) : Calls Try.prog 129 #[.pointer (some ⟨b, 0, none⟩)] w (SNextOut b 0 a c w) := by
  have H := Lib.hid h
  obtain ⟨h0, h1, h2, h3⟩ := h
  go_enter Try.func129, Try.ntmps129
  go_wp2
  go_region
  go_wp2
  go_ret
  exact snext_out (nA_0 a c) (nB_0 a c) ((high_mod (lineA_range a c)).trans (nW_0 a c)) (grown_dr (grown_set (grown_refl w _) 1 _)) (H.out.setA _).dr
set_option maxHeartbeats 1600000 in
theorem l02Next_1 (b : Nat) (a c : Int) (w : World) (h : SdAt w b 1 a c) : Calls Try.prog 129 #[.pointer (some ⟨b, 0, none⟩)] w (SNextOut b 1 a c w) := by
  have H := Lib.hid h
  obtain ⟨h0, h1, h2, h3⟩ := h
  go_enter Try.func129, Try.ntmps129
  go_wp2
  go_region
  go_wp2
  have hS := (H.out.setA (shiftX a)).dr
  have hG : w.grownBy (w.setCell ⟨b, 1, none⟩ (.int .u64 (shiftX a))).drew (some b) := grown_dr (grown_set (grown_refl w _) 1 _)
  unfold shiftX at hS hG
  generalize World.drew (World.setCell _ _ _) = W1 at hS hG ⊢
  have HG := Lib.hid hG
  have H1 := Lib.hid hS
  clear hG h0 h1 h2 h3
  obtain ⟨h0, h1, h2, h3⟩ := hS
  go_region
  go_wp2
  have hS := (H1.out.setA (shiftY (shiftX a))).dr
  have hG : w.grownBy (W1.setCell ⟨b, 1, none⟩ (.int .u64 (shiftY (shiftX a)))).drew (some b) := grown_dr (grown_set HG.out 1 _)
  unfold shiftY shiftX at hS hG
  generalize World.drew (World.setCell _ _ _) = W2 at hS hG ⊢
  have HG2 := Lib.hid hG
  have H2 := Lib.hid hS
  clear hG h0 h1 h2 h3
  obtain ⟨h0, h1, h2, h3⟩ := hS
  go_region
  have hS := (H2.out.setA (shiftZ (shiftY (shiftX a)))).dr
  have hG : w.grownBy (W2.setCell ⟨b, 1, none⟩ (.int .u64 (shiftZ (shiftY (shiftX a))))).drew (some b) := grown_dr (grown_set HG2.out 1 _)
  unfold shiftZ shiftY shiftX at hS hG
  generalize World.drew (World.setCell _ _ _) = W3 at hS hG ⊢
  have HG3 := Lib.hid hG
  have H3 := Lib.hid hS
  clear hG h0 h1 h2 h3
  obtain ⟨h0, h1, h2, h3⟩ := hS
  go_wp2
  go_ret
  exact snext_out (nA_1 a c) (nB_1 a c) ((high_mod (shiftR_range a)).trans (nW_1 a c)) HG3.out H3.out
set_option maxHeartbeats 1600000 in
theorem l02Next_2 (b : Nat) (a c : Int) (w : World) (h : SdAt w b 2 a c) : Calls Try.prog 129 #[.pointer (some ⟨b, 0, none⟩)] w (SNextOut b 2 a c w) := by
  have H := Lib.hid h
  obtain ⟨h0, h1, h2, h3⟩ := h
  go_enter Try.func129, Try.ntmps129
  go_wp2
  go_quiet ((go_at_call 95; exact Calls.quiet_of_same (l02Mix_any _ _)))
  go_wp2
  go_ret
  exact snext_out (nA_2 a c) (nB_2 a c) ((high_mod (countR_range a c)).trans (nW_2 a c)) (grown_dn (grown_set (grown_refl w _) 1 _) _) ((H.out.setA _).dn _)
set_option maxHeartbeats 1600000 in
theorem l02Next_3 (b : Nat) (a c : Int) (w : World) (h : SdAt w b 3 a c) : Calls Try.prog 129 #[.pointer (some ⟨b, 0, none⟩)] w (SNextOut b 3 a c w) := by
  have H := Lib.hid h
  obtain ⟨h0, h1, h2, h3⟩ := h
  go_enter Try.func129, Try.ntmps129
  go_wp2
  go_quiet (fail)
  go_wp2
  go_quiet (fail)
  go_wp2_with (first
    | (go_at_call 138; (with_reducible refine (l02Turn_24 _ _).mono ?_); rintro e w' ⟨rfl, rfl⟩)
    | (go_at_call 138; (with_reducible refine (l02Turn_37 _ _).mono ?_); rintro e w' ⟨rfl, rfl⟩))
  go_ret
  exact snext_out (nA_3 a c) (nB_3 a c) ((high_mod (pairR_range a c)).trans (nW_3 a c)) (grown_set (grown_set (grown_dn (grown_refl w _) _) 1 _) 2 _) (((H.out.dn _).setA _).setB _)
theorem l02Next_any (b : Nat) (k a c : Int) (hk : kindB k) (w : World) (h : SdAt w b k a c) : Calls Try.prog 129 #[.pointer (some ⟨b, 0, none⟩)] w (SNextOut b k a c w) := by
  rcases hk with rfl | rfl | rfl | rfl
  · exact l02Next_0 b a c w h
  · exact l02Next_1 b a c w h
  · exact l02Next_2 b a c w h
  · exact l02Next_3 b a c w h
def SShareOut (b : Nat) (k a c : Int) (w : World) (e : Ending) (w' : World) : Prop := e = .returned (.float .f32 (nU k a c)) ∧ SdTo b k (nA k a c) (nB k a c) w w'
/-- a seed is valid -/
def seedB (k a b : Int) : Bool := if k = 0 then b % 2 == 1 else if k = 1 then a != 0 else if k = 2 then true else if k = 3 then a != 0 || b != 0 else false
theorem seedB_kind {k a b : Int} (h : seedB k a b = true) : kindB k := by
  unfold seedB at h
  unfold kindB
  split at h
  · exact .inl ‹_›
  · split at h
    · exact .inr (.inl ‹_›)
    · split at h
      · exact .inr (.inr (.inl ‹_›))
      · split at h
        · exact .inr (.inr (.inr ‹_›))
        · cases h
set_option maxHeartbeats 800000 in
theorem ValidSeed_any (k a b : Int) (hb : 0 ≤ b ∧ b < 18446744073709551616) (w : World) : Calls Try.prog 18 #[.agg #[.int .i64 k, .int .u64 a, .int .u64 b]] w (fun e w' => e = .returned (.bool (seedB k a b)) ∧ Below w.heap.size w w') := by
  obtain ⟨b0, b1⟩ := hb
  by_cases h0 : k = 0
  · subst h0
    have hR : Hid (seedB 0 a b = (b % 2 == 1)) := Lib.hid (if_pos rfl)
    go_enter Try.func18, Try.ntmps18
    go_wp2
    go_ret
    rw [hR.out]
    exact ⟨rfl, below_al (Below.refl _ _) _⟩
  · by_cases h1 : k = 1
    · subst h1
      have hR : Hid (seedB 1 a b = (a != 0)) := Lib.hid (by unfold seedB; rw [if_neg (by decide), if_pos rfl])
      clear h0
      go_enter Try.func18, Try.ntmps18
      go_wp2
      go_ret
      rw [hR.out]
      exact ⟨rfl, below_al (Below.refl _ _) _⟩
    · by_cases h3 : k = 3
      · subst h3
        have hR : Hid (seedB 3 a b = (a != 0 || b != 0)) := Lib.hid (by unfold seedB; rw [if_neg (by decide), if_neg (by decide), if_neg (by decide), if_pos rfl])
        clear h0 h1
        cases ha : (a != 0) with
        | true =>
          rw [ha, Bool.true_or] at hR
          go_enter Try.func18, Try.ntmps18
          go_wp2
          go_ret
          rw [hR.out]
          exact ⟨rfl, below_al (Below.refl _ _) _⟩
        | false =>
          rw [ha, Bool.false_or] at hR
          go_enter Try.func18, Try.ntmps18
          go_wp2
          go_ret
          rw [hR.out]
          exact ⟨rfl, below_al (Below.refl _ _) _⟩
      · have hR : Hid (seedB k a b = (k == 2)) := Lib.hid (by
          unfold seedB
          rw [if_neg h0, if_neg h1]
          by_cases h2 : k = 2
          · rw [if_pos h2, h2]; rfl
          · rw [if_neg h2, if_neg h3, beq_false_of_ne h2])
        have g0 : (k == 0) = false := beq_false_of_ne h0
        have g1 : (k == 1) = false := beq_false_of_ne h1
        have g3 : (k == 3) = false := beq_false_of_ne h3
        clear h0 h1 h3
        go_enter Try.func18, Try.ntmps18
        go_wp2
        go_ret
        rw [hR.out]
        exact ⟨rfl, below_al (Below.refl _ _) _⟩
set_option maxHeartbeats 800000 in
theorem l02Is_any (p : Nat) (k a b : Int) (hb : 0 ≤ b ∧ b < 18446744073709551616) (w : World) (h : SdAt w p k a b) : Calls Try.prog 80 #[.pointer (some ⟨p, 0, none⟩)] w (fun e w' => e = .returned (.bool (seedB k a b)) ∧ w = w') := by
  obtain ⟨b0, b1⟩ := hb
  obtain ⟨c0, c1, c2, cf⟩ := h
  by_cases h0 : k = 0
  · subst h0
    have hR : Hid (seedB 0 a b = (b % 2 == 1)) := Lib.hid (if_pos rfl)
    go_enter Try.func80, Try.ntmps80
    go_wp2
    go_ret
    rw [hR.out]
    exact ⟨rfl, rfl⟩
  · by_cases h1 : k = 1
    · subst h1
      have hR : Hid (seedB 1 a b = (a != 0)) := Lib.hid (by unfold seedB; rw [if_neg (by decide), if_pos rfl])
      clear h0
      go_enter Try.func80, Try.ntmps80
      go_wp2
      go_ret
      rw [hR.out]
      exact ⟨rfl, rfl⟩
    · by_cases h3 : k = 3
      · subst h3
        have hR : Hid (seedB 3 a b = (a != 0 || b != 0)) := Lib.hid (by unfold seedB; rw [if_neg (by decide), if_neg (by decide), if_neg (by decide), if_pos rfl])
        clear h0 h1
        cases ha : (a != 0) with
        | true =>
          rw [ha, Bool.true_or] at hR
          go_enter Try.func80, Try.ntmps80
          go_wp2
          go_ret
          rw [hR.out]
          exact ⟨rfl, rfl⟩
        | false =>
          rw [ha, Bool.false_or] at hR
          go_enter Try.func80, Try.ntmps80
          go_wp2
          go_ret
          rw [hR.out]
          exact ⟨rfl, rfl⟩
      · by_cases h2 : k = 2
        · subst h2
          have hR : Hid (seedB 2 a b = true) := Lib.hid (by unfold seedB; rw [if_neg (by decide), if_neg (by decide), if_pos rfl])
          clear h0 h1 h3
          go_enter Try.func80, Try.ntmps80
          go_wp2
          go_ret
          rw [hR.out]
          exact ⟨rfl, rfl⟩
        · have hR : Hid (seedB k a b = false) := Lib.hid (by unfold seedB; rw [if_neg h0, if_neg h1, if_neg h2, if_neg h3])
          have g0 : (k == 0) = false := beq_false_of_ne h0
          have g1 : (k == 1) = false := beq_false_of_ne h1
          have g2 : (k == 2) = false := beq_false_of_ne h2
          have g3 : (k == 3) = false := beq_false_of_ne h3
          clear h0 h1 h2 h3
          go_enter Try.func80, Try.ntmps80
          go_wp2
          go_ret
          rw [hR.out]
          exact ⟨rfl, rfl⟩
end Go.Proofs.Ytfkjnaaplhcheaa
namespace Go.Proofs.Ytfkjnaaplhcheaa
open Go Go.RowKit Ieee SeedFact

def nxt (k : Int) (x : Int × Int) : Int × Int := (nA k x.1 x.2, nB k x.1 x.2)
theorem wrap_nat (n : Nat) : IntKind.u64.wrap (n : Int) = ((n % 18446744073709551616 : Nat) : Int) := by rw [IntKind.wrap_u64]; omega
theorem xor_nat {a b : Nat} (ha : a < 18446744073709551616) (hb : b < 18446744073709551616) : bits .xor .u64 (a : Int) (b : Int) = ((a ^^^ b : Nat) : Int) := bits_xor_u64_nat a b ha hb
theorem or_nat {a b : Nat} (ha : a < 18446744073709551616) (hb : b < 18446744073709551616) : bits .or .u64 (a : Int) (b : Int) = ((a ||| b : Nat) : Int) := bits_or_u64_nat a b ha hb
theorem xr_lt {a b : Nat} (ha : a < 18446744073709551616) (hb : b < 18446744073709551616) : a ^^^ b < 18446744073709551616 := Nat.xor_lt_two_pow (n := 64) ha hb
theorem dv_lt {a : Nat} (ha : a < 18446744073709551616) (d : Nat) : a / d < 18446744073709551616 := Nat.lt_of_le_of_lt (Nat.div_le_self _ _) ha
theorem md_lt (a : Nat) : a % 18446744073709551616 < 18446744073709551616 := Nat.mod_lt _ (by decide)
theorem mixY_nat {s : Nat} (hs : s < 18446744073709551616) : mixY (s : Int) = ((mixS s : Nat) : Int) := by
  rw [mixY, show ((s : Int) / 1073741824) = ((s / 1073741824 : Nat) : Int) by omega, xor_nat hs (dv_lt hs _), mixS, Nat.shiftRight_eq_div_pow, show 2^30 = 1073741824 from rfl]
  generalize s ^^^ s / 1073741824 = y
  rw [show ((y : Int) * 13787848793156543929) = ((y * 13787848793156543929 : Nat) : Int) by omega, wrap_nat]
theorem mixZ_nat {s : Nat} (hs : s < 18446744073709551616) : mixZ (s : Int) = ((mixT s : Nat) : Int) := by
  rw [mixZ, show ((s : Int) / 134217728) = ((s / 134217728 : Nat) : Int) by omega, xor_nat hs (dv_lt hs _), mixT, Nat.shiftRight_eq_div_pow, show 2^27 = 134217728 from rfl]
  generalize s ^^^ s / 134217728 = y
  rw [show ((y : Int) * 10723151780598845931) = ((y * 10723151780598845931 : Nat) : Int) by omega, wrap_nat]
theorem mixF_word {s : Nat} (hs : s < 18446744073709551616) : mixF (s : Int) / 4294967296 = ((wordS s : Nat) : Int) := by
  have h1 : mixS s < 18446744073709551616 := md_lt _
  have h2 : mixT (mixS s) < 18446744073709551616 := md_lt _
  rw [mixF, mixY_nat hs, mixZ_nat h1, show (((mixT (mixS s) : Nat) : Int) / 2147483648) = ((mixT (mixS s) / 2147483648 : Nat) : Int) by omega, xor_nat h2 (dv_lt h2 _), wordS, postL, Nat.shiftRight_eq_div_pow, show 2^31 = 2147483648 from rfl]
  generalize mixT (mixS s) ^^^ mixT (mixS s) / 2147483648 = y
  omega
/-- a count's numbers behind so many words -/
theorem count_it (b : Int) : ∀ (i : Nat) (a : Int), 0 ≤ a ∧ a < 18446744073709551616 → iter (nxt 2) i (a, b) = ((a + 11400714819323198485 * i) % 18446744073709551616, b)
  | 0, a, h => by
    rw [iter_zero, Int.emod_eq_of_lt (by omega) (by omega)]
    simp
  | i+1, a, h => by
    have e : nxt 2 (a, b) = (countA a, b) := by
      rw [nxt, ← nA_2, ← nB_2]
    have hr : 0 ≤ countA a ∧ countA a < 18446744073709551616 := u64_range _
    rw [iter_succ, e, count_it b i _ hr, countA, IntKind.wrap_u64]
    congr 1
    omega
theorem cnt1 (a : Int) {k : Nat} (h : 1 ≤ k) : ((a + 11400714819323198485 * ((k - 1 : Nat) : Int)) % 18446744073709551616 + 11400714819323198485) % 18446744073709551616 = (a + 11400714819323198485 * (k : Int)) % 18446744073709551616 := by omega
theorem cnt2 {a b : Int} (k : Nat) (ha : 0 ≤ a) (hb : 0 ≤ b) : ((a + 11400714819323198485 * (k : Int)) % 18446744073709551616 + b) % 18446744073709551616 = ((((a + b).toNat + k * 11400714819323198485) % 18446744073709551616 : Nat) : Int) := by
  have e : (((a + b).toNat + k * 11400714819323198485 : Nat) : Int) = a + 11400714819323198485 * (k : Int) + b := by omega
  rw [Int.natCast_emod, e]
  generalize a + 11400714819323198485 * (k : Int) = y
  exact Int.emod_add_emod y 18446744073709551616 b
theorem count_no {a b : Int} (ha : 0 ≤ a ∧ a < 18446744073709551616) (hb : 0 ≤ b ∧ b < 18446744073709551616) : ¬ ∀ i : Nat, i < 64 → 4294967296 - 6 ≤ nW 2 (iter (nxt 2) i (a, b)).1 (iter (nxt 2) i (a, b)).2 := by
  intro h
  refine C6.no_run (a + b).toNat (fun k h1 h2 => ?_)
  have hk := h (k-1) (by omega)
  rw [count_it b _ a ha, ← nW_2, countR, countA, IntKind.wrap_u64, IntKind.wrap_u64, cnt1 a h1, cnt2 k ha.1 hb.1, mixF_word (md_lt _)] at hk
  generalize wordS (((a + b).toNat + k * 11400714819323198485) % 18446744073709551616) = x at *
  clear h h1 h2 ha hb
  omega
theorem line_next (a b : Int) : nxt 0 (a, b) = ((6364136223846793005 * a + b) % 18446744073709551616, b) := by
  rw [nxt, ← nA_0, ← nB_0, lineA, IntKind.wrap_u64, IntKind.wrap_u64]
  congr 1
  omega
theorem line_word (a b : Int) (h : 4294967296 - 6 ≤ nW 0 a b) : 18446743798831644672 ≤ (nxt 0 (a, b)).1 ∧ (nxt 0 (a, b)).1 < 18446744073709551616 := by
  rw [← nW_0] at h
  have e : (nxt 0 (a, b)).1 = lineA a b := by rw [nxt, ← nA_0]
  have hr := lineA_range a b
  rw [e]
  omega
theorem line_no {a b : Int} (hb : b % 2 = 1) : ¬ ∀ i : Nat, i < 64 → 4294967296 - 6 ≤ nW 0 (iter (nxt 0) i (a, b)).1 (iter (nxt 0) i (a, b)).2 := by
  intro h
  have s1 := line_next a b
  have s2 := line_next ((6364136223846793005 * a + b) % 18446744073709551616) b
  have s3 := line_next ((6364136223846793005 * ((6364136223846793005 * a + b) % 18446744073709551616) + b) % 18446744073709551616) b
  have s4 := line_next ((6364136223846793005 * ((6364136223846793005 * ((6364136223846793005 * a + b) % 18446744073709551616) + b) % 18446744073709551616) + b) % 18446744073709551616) b
  have h0 := line_word a b (by have := h 0 (by decide); rw [iter_zero] at this; exact this)
  have h1 := line_word _ b (by have := h 1 (by decide); rw [iter_succ, iter_zero, s1] at this; exact this)
  have h2 := line_word _ b (by have := h 2 (by decide); rw [iter_succ, iter_succ, iter_zero, s1, s2] at this; exact this)
  have h3 := line_word _ b (by have := h 3 (by decide); rw [iter_succ, iter_succ, iter_succ, iter_zero, s1, s2, s3] at this; exact this)
  rw [s1] at h0
  rw [s2] at h1
  rw [s3] at h2
  rw [s4] at h3
  exact line_run hb rfl rfl rfl h0.1 h0.2 h1.1 h2.1 h3.1
theorem hi_bit {a j : Nat} (ha : a < 18446744073709551616) (hj : ¬ j < 64) : a.testBit j = false := Nat.testBit_lt_two_pow (Nat.lt_of_lt_of_le (show a < 2^64 from ha) (Nat.pow_le_pow_right (by decide) (Nat.le_of_not_lt hj)))
theorem shift_nat {x : Nat} (hx : x < 18446744073709551616) : shiftA (x : Int) = ((stL x : Nat) : Int) := by
  have e1 : shiftX (x : Int) = ((stX x : Nat) : Int) := by
    rw [shiftX, show ((x : Int) * 8192) = ((x * 8192 : Nat) : Int) by omega, wrap_nat, xor_nat hx (md_lt _)]
    congr 1
    apply Nat.eq_of_testBit_eq
    intro j
    by_cases hj : j < 64
    · exact (tb_xorshl (k := 13) hj).symm
    · rw [hi_bit (xr_lt hx (md_lt _)) hj, hi_bit (a := stX x) (md_lt _) hj]
  have lX : stX x < 18446744073709551616 := md_lt _
  have e2 : shiftY ((stX x : Nat) : Int) = ((stY (stX x) : Nat) : Int) := by
    generalize stX x = y at lX
    rw [shiftY, show ((y : Int) / 128) = ((y / 128 : Nat) : Int) by omega, xor_nat lX (dv_lt lX _), stY, Nat.shiftRight_eq_div_pow]
  have lY : stY (stX x) < 18446744073709551616 := by
    rw [stY, Nat.shiftRight_eq_div_pow]
    exact xr_lt lX (dv_lt lX _)
  have e3 : shiftZ ((stY (stX x) : Nat) : Int) = ((stZ (stY (stX x)) : Nat) : Int) := by
    generalize stY (stX x) = y at lY
    rw [shiftZ, show ((y : Int) * 131072) = ((y * 131072 : Nat) : Int) by omega, wrap_nat, xor_nat lY (md_lt _)]
    congr 1
    apply Nat.eq_of_testBit_eq
    intro j
    by_cases hj : j < 64
    · exact (tb_xorshl (k := 17) hj).symm
    · rw [hi_bit (xr_lt lY (md_lt _)) hj, hi_bit (a := stZ y) (md_lt _) hj]
  rw [shiftA, e1, e2, e3, stL]
theorem shift_it (b : Int) : ∀ (i : Nat) (x : Nat), x < 18446744073709551616 → iter (nxt 1) i ((x : Int), b) = (((iter stL i x : Nat) : Int), b)
  | 0, x, _ => rfl
  | i+1, x, hx => by
    have e : nxt 1 ((x : Int), b) = (((stL x : Nat) : Int), b) := by
      rw [nxt, ← nA_1, ← nB_1, shift_nat hx]
    rw [iter_succ, e, shift_it b i _ (stL_lt x), iter_succ]
theorem z_zero {k z : Nat} (hk : 0 < k) (hz : z < 2^64) (h : (z ^^^ z * 2^k) % 18446744073709551616 = 0) : z = 0 := by
  have hb : ∀ j, j < 64 → z.testBit j = false := by
    intro j
    induction j using Nat.strongRecOn with
    | _ j ih =>
      intro hj
      have h1 := tb_xorshl (x := z) (k := k) hj
      rw [h, Nat.zero_testBit, Nat.testBit_xor, tb_mulmod z k j hj] at h1
      by_cases hkj : k ≤ j
      · rw [ih (j - k) (by omega) (by omega)] at h1
        simpa using h1.symm
      · rw [decide_eq_false hkj] at h1
        simpa using h1.symm
  apply Nat.eq_of_testBit_eq
  intro j
  rw [Nat.zero_testBit]
  by_cases hj : j < 64
  · exact hb j hj
  · exact Nat.testBit_lt_two_pow (Nat.lt_of_lt_of_le hz (Nat.pow_le_pow_right (by omega) (by omega)))
theorem eq_of_xor {a c : Nat} (hz : a ^^^ c = 0) : a = c := by
  apply Nat.eq_of_testBit_eq
  intro j
  have h4 := congrArg (Nat.testBit · j) hz
  simp only [Nat.testBit_xor, Nat.zero_testBit] at h4
  revert h4
  cases a.testBit j <;> cases c.testBit j <;> simp
theorem stL_zero {x : Nat} (hx : x < 18446744073709551616) (h : stL x = 0) : x = 0 := by
  have lX : stX x < 2^64 := md_lt _
  have lY : stY (stX x) < 2^64 := by
    rw [stY, Nat.shiftRight_eq_div_pow]
    exact xr_lt lX (dv_lt lX _)
  have h1 : stY (stX x) = 0 := z_zero (k := 17) (by decide) lY h
  have h2 : stX x = 0 := by
    have h3 : stX x = (stX x) >>> 7 := eq_of_xor h1
    rw [Nat.shiftRight_eq_div_pow, show 2^7 = 128 from rfl] at h3
    generalize stX x = y at *
    omega
  exact z_zero (k := 13) (by decide) hx h2
theorem shift_no {x : Nat} (b : Int) (hx : x < 18446744073709551616) (h0 : x ≠ 0) : ¬ ∀ i : Nat, i < 64 → 4294967296 - 6 ≤ nW 1 (iter (nxt 1) i ((x : Int), b)).1 (iter (nxt 1) i ((x : Int), b)).2 := by
  intro h
  refine S6.no_run (x := stL x) (stL_lt x) (fun e => h0 (stL_zero hx e)) (fun i hi => ?_)
  have h1 := h i hi
  rw [shift_it b i x hx, ← nW_1, shiftR, shift_nat (S6.it_lt hx i)] at h1
  have e : iter stL i (stL x) = stL (iter stL i x) := by
    have e1 : iter stL (i + 1) x = iter stL i (stL x) := iter_succ _ _ _
    rw [← e1, show i + 1 = 1 + i by omega, S6.iter_at]
    rfl
  rw [e]
  generalize stL (iter stL i x) = y at *
  rw [show ((y : Int) * 2685821657736338717) = ((y * 2685821657736338717 : Nat) : Int) by omega, wrap_nat] at h1
  omega
theorem pair_nat {a b : Nat} (ha : a < 18446744073709551616) (hb : b < 18446744073709551616) : nxt 3 ((a : Int), (b : Int)) = (((pA a b : Nat) : Int), ((pB a b : Nat) : Int)) := by
  have hx := xr_lt hb ha
  have e0 : pairX (a : Int) (b : Int) = ((b ^^^ a : Nat) : Int) := by rw [pairX, xor_nat hb ha]
  have e1 : turnA (a : Int) = ((a * 16777216 % 18446744073709551616 ||| a / 1099511627776 : Nat) : Int) := by
    rw [turnA, show ((a : Int) * 16777216) = ((a * 16777216 : Nat) : Int) by omega, wrap_nat, show ((a : Int) / 1099511627776) = ((a / 1099511627776 : Nat) : Int) by omega, or_nat (md_lt _) (dv_lt ha _)]
  have l1 : (a * 16777216 % 18446744073709551616 ||| a / 1099511627776) < 18446744073709551616 := Nat.or_lt_two_pow (n := 64) (md_lt _) (dv_lt ha _)
  have e2 : ∀ y : Nat, y < 18446744073709551616 → turnB (y : Int) = ((y * 137438953472 % 18446744073709551616 ||| y / 134217728 : Nat) : Int) := by
    intro y hy
    rw [turnB, show ((y : Int) * 137438953472) = ((y * 137438953472 : Nat) : Int) by omega, wrap_nat, show ((y : Int) / 134217728) = ((y / 134217728 : Nat) : Int) by omega, or_nat (md_lt _) (dv_lt hy _)]
  rw [nxt, ← nA_3, ← nB_3, pairA, pairB, e0, e1, e2 _ hx, pA, pB, xor_nat l1 hx]
  generalize b ^^^ a = y at *
  rw [show ((y : Int) * 65536) = ((y * 65536 : Nat) : Int) by omega, wrap_nat, xor_nat (xr_lt l1 hx) (md_lt _)]
theorem pair_it : ∀ (i : Nat) (a b : Nat), a < 18446744073709551616 → b < 18446744073709551616 → iter (nxt 3) i ((a : Int), (b : Int)) = ((((iter stP i (a, b)).1 : Nat) : Int), (((iter stP i (a, b)).2 : Nat) : Int))
  | 0, a, b, _, _ => rfl
  | i+1, a, b, ha, hb => by
    rw [iter_succ, pair_nat ha hb, pair_it i _ _ (pA_lt a b ha hb) (pB_lt a b ha hb), iter_succ, stP_mk]
theorem pair_no {a b : Nat} (ha : a < 18446744073709551616) (hb : b < 18446744073709551616) : ¬ ∀ i : Nat, i < 64 → 4294967296 - 6 ≤ nW 3 (iter (nxt 3) i ((a : Int), (b : Int))).1 (iter (nxt 3) i ((a : Int), (b : Int))).2 := by
  intro h
  refine pair_run ha hb (fun i hi => ?_)
  have h1 := h i (by omega)
  rw [pair_it i a b ha hb, ← nW_3, pairR] at h1
  rw [top]
  generalize (iter stP i (a, b)).1 = x at *
  generalize (iter stP i (a, b)).2 = y at *
  rw [show ((x : Int) + (y : Int)) = ((x + y : Nat) : Int) by omega, wrap_nat] at h1
  omega
/-- no valid seed gives 64 words in a row among the top 6 -/
theorem seed_no {k a b : Int} (hk : seedB k a b = true) (ha : 0 ≤ a ∧ a < 18446744073709551616) (hb : 0 ≤ b ∧ b < 18446744073709551616) : ¬ ∀ i : Nat, i < 64 → 4294967296 - 6 ≤ nW k (iter (nxt k) i (a, b)).1 (iter (nxt k) i (a, b)).2 := by
  rcases seedB_kind hk with rfl | rfl | rfl | rfl
  · refine line_no ?_
    have h : (b % 2 == 1) = true := hk
    exact eq_of_beq h
  · obtain ⟨x, rfl⟩ := Int.eq_ofNat_of_zero_le ha.1
    have h : ((x : Int) != 0) = true := hk
    refine shift_no b (by omega) (fun e => ?_)
    rw [e] at h
    exact absurd h (by decide)
  · exact count_no ha hb
  · obtain ⟨x, rfl⟩ := Int.eq_ofNat_of_zero_le ha.1
    obtain ⟨y, rfl⟩ := Int.eq_ofNat_of_zero_le hb.1
    exact pair_no (by omega) (by omega)
/-- behind a word a valid seed is valid -/
theorem seed_next {k a b : Int} (hk : seedB k a b = true) (ha : 0 ≤ a ∧ a < 18446744073709551616) (hb : 0 ≤ b ∧ b < 18446744073709551616) : seedB k (nA k a b) (nB k a b) = true := by
  rcases seedB_kind hk with rfl | rfl | rfl | rfl
  · rw [← nA_0, ← nB_0]
    exact hk
  · rw [← nA_1, ← nB_1]
    obtain ⟨x, rfl⟩ := Int.eq_ofNat_of_zero_le ha.1
    rw [shift_nat (by omega)]
    have h : ((x : Int) != 0) = true := hk
    show (((stL x : Nat) : Int) != 0) = true
    have h2 : stL x ≠ 0 := fun e => by
      have h3 := stL_zero (by omega) e
      rw [h3] at h
      exact absurd h (by decide)
    simp
    omega
  · rfl
  · obtain ⟨x, rfl⟩ := Int.eq_ofNat_of_zero_le ha.1
    obtain ⟨y, rfl⟩ := Int.eq_ofNat_of_zero_le hb.1
    have hx : x < 18446744073709551616 := by omega
    have hy : y < 18446744073709551616 := by omega
    have e := pair_nat hx hy
    have e1 : nA 3 (x : Int) (y : Int) = ((pA x y : Nat) : Int) := congrArg Prod.fst e
    have e2 : nB 3 (x : Int) (y : Int) = ((pB x y : Nat) : Int) := congrArg Prod.snd e
    rw [e1, e2]
    show (((pA x y : Nat) : Int) != 0 || ((pB x y : Nat) : Int) != 0) = true
    have h : ((x : Int) != 0 || (y : Int) != 0) = true := hk
    by_cases hz : pA x y = 0 ∧ pB x y = 0
    · exfalso
      have h1 : y ^^^ x = 0 := by
        apply Nat.eq_of_testBit_eq
        intro j
        rw [Nat.zero_testBit]
        by_cases hj : j < 64
        · have h2 := rep_rot (x := y ^^^ x) (k := 37) (i := (j + 37) % 64) (xr_lt hy hx) (by decide) (Nat.mod_lt _ (by decide))
          have h3 : ((y ^^^ x) * 2^37 % 18446744073709551616 ||| (y ^^^ x) / 2^(64-37)) = 0 := hz.2
          rw [h3, Nat.zero_testBit, show ((j + 37) % 64 + (64 - 37)) % 64 = j by omega] at h2
          exact h2.symm
        · exact hi_bit (xr_lt hy hx) hj
      have h4 : x = 0 := by
        have h5 := hz.1
        simp only [pA, h1, Nat.zero_mul, Nat.zero_mod, Nat.xor_zero] at h5
        apply Nat.eq_of_testBit_eq
        intro j
        rw [Nat.zero_testBit]
        by_cases hj : j < 64
        · have h2 := rep_rot (x := x) (k := 24) (i := (j + 24) % 64) hx (by decide) (Nat.mod_lt _ (by decide))
          have h3 : (x * 2^24 % 18446744073709551616 ||| x / 2^(64-24)) = 0 := h5
          rw [h3, Nat.zero_testBit, show ((j + 24) % 64 + (64 - 24)) % 64 = j by omega] at h2
          exact h2.symm
        · exact hi_bit hx hj
      rw [h4, Nat.xor_zero] at h1
      rw [h4, h1] at h
      exact absurd h (by decide)
    · simp
      omega
end Go.Proofs.Ytfkjnaaplhcheaa
namespace Go.Proofs.Ytfkjnaaplhcheaa
open Go Go.RowKit Ieee SeedFact

def sd (k a b : Int) (m : Nat) : Int × Int := iter (nxt k) m (a, b)
def wd (k a b : Int) (m : Nat) : Int := nW k (sd k a b m).1 (sd k a b m).2
theorem sd_zero (k a b : Int) : sd k a b 0 = (a, b) := iter_zero _ _
theorem sd_succ (k a b : Int) (m : Nat) : sd k a b (m + 1) = (nA k (sd k a b m).1 (sd k a b m).2, nB k (sd k a b m).1 (sd k a b m).2) := by
  show iter (nxt k) (m + 1) (a, b) = nxt k (iter (nxt k) m (a, b))
  rw [show m + 1 = 1 + m by omega, S6.iter_at, iter_succ, iter_zero]
theorem sd_add (k a b : Int) (m q : Nat) : sd k (sd k a b q).1 (sd k a b q).2 m = sd k a b (m + q) := by
  show iter (nxt k) m (iter (nxt k) q (a, b)) = iter (nxt k) (m + q) (a, b)
  rw [S6.iter_at]
def mostW (n : Nat) : Int := ((4294967296 / n * n : Nat) : Int)
/-- which word is the first that is not too great -/
def jW (k a b : Int) (n : Nat) : Nat := ((List.range 64).find? fun m => decide (wd k a b m < mostW n)).getD 0
def sdOk (k a b : Int) : Prop := seedB k a b = true ∧ (0 ≤ a ∧ a < 18446744073709551616) ∧ (0 ≤ b ∧ b < 18446744073709551616)
theorem sdOk.next {k a b : Int} (h : sdOk k a b) : sdOk k (nA k a b) (nB k a b) := ⟨seed_next h.1 h.2.1 h.2.2, nA_range k a b, nB_range h.2.2⟩
theorem sdOk.at_ {k a b : Int} (h : sdOk k a b) : ∀ m, sdOk k (sd k a b m).1 (sd k a b m).2
  | 0 => h
  | m+1 => by
    rw [sd_succ]
    exact (h.at_ m).next
set_option maxRecDepth 100000 in
theorem rests : ∀ n, n < 11 → 1 ≤ n → 4294967296 - 6 ≤ 4294967296 / n * n := by decide +kernel
theorem jW_spec {k a b : Int} {n : Nat} (h : sdOk k a b) (h1 : 1 ≤ n) (h2 : n < 11) : jW k a b n < 64 ∧ wd k a b (jW k a b n) < mostW n ∧ ∀ q, q < jW k a b n → ¬ wd k a b q < mostW n := by
  have hr := rests n h2 h1
  cases hf : (List.range 64).find? (fun m => decide (wd k a b m < mostW n)) with
  | none =>
    exfalso
    refine seed_no h.1 h.2.1 h.2.2 (fun i hi => ?_)
    have h3 := List.find?_eq_none.mp hf i (List.mem_range.2 hi)
    have h4 : ¬ wd k a b i < mostW n := by simpa using h3
    have h5 : 4294967296 - 6 ≤ mostW n := by
      unfold mostW
      omega
    show 4294967296 - 6 ≤ wd k a b i
    omega
  | some j =>
    have e : jW k a b n = j := by unfold jW; rw [hf]; rfl
    rw [e]
    obtain ⟨h3, h4, h5⟩ := List.find?_range_eq_some.mp hf
    refine ⟨List.mem_range.1 h4, by simpa using h3, fun q hq => ?_⟩
    have := h5 q hq
    simpa using this
/-- the number -/
def xW (k a b : Int) (n : Nat) : Nat := (wd k a b (jW k a b n)).toNat % n
theorem wd_range (k a b : Int) (m : Nat) : 0 ≤ wd k a b m ∧ wd k a b m < 4294967296 := nW_range _ _ _
theorem xW_is (k a b : Int) (n : Nat) : ((xW k a b n : Nat) : Int) = wd k a b (jW k a b n) % n := by
  obtain ⟨y, hy⟩ := Int.eq_ofNat_of_zero_le (wd_range k a b (jW k a b n)).1
  unfold xW
  rw [hy]
  rfl
theorem xW_lt (k a b : Int) {n : Nat} (h : 1 ≤ n) : xW k a b n < n := Nat.mod_lt _ h
/-- the seed behind it -/
def sW (k a b : Int) (n : Nat) : Int × Int := sd k a b (jW k a b n + 1)
theorem sW_ok {k a b : Int} (n : Nat) (h : sdOk k a b) : sdOk k (sW k a b n).1 (sW k a b n).2 := h.at_ _

/-- the boxes of a seed and of a seed that is to be given -/
def Dx (g : Nat) (k a b : Int) (W : World) : Prop := SdAt W g k a b ∧ SdAt W (g + 1) 0 0 0
theorem Dx.keep {g : Nat} {k a b : Int} {W W' : World} (h : Dx g k a b W) (hb : Below W.heap.size W W') : Dx g k a b W' := ⟨h.1.keep hb, h.2.keep hb⟩
theorem Dx.lt {g : Nat} {k a b : Int} {W : World} (h : Dx g k a b W) : g + 1 < W.heap.size := lt_of_cell (a := ⟨g + 1, 0, none⟩) h.2.1
theorem Dx.set {g : Nat} {k a b : Int} {W : World} (h : Dx g k a b W) (k' a' b' : Int) : Dx g k' a' b' (((W.setCell ⟨g, 0, none⟩ (.int .i64 k')).setCell ⟨g, 1, none⟩ (.int .u64 a')).setCell ⟨g, 2, none⟩ (.int .u64 b')) := by
  have hg : W.grownBy (((W.setCell ⟨g, 0, none⟩ (.int .i64 k')).setCell ⟨g, 1, none⟩ (.int .u64 a')).setCell ⟨g, 2, none⟩ (.int .u64 b')) (some g) := grown_set (grown_set (grown_set (grown_refl W _) 0 _) 1 _) 2 _
  exact ⟨h.1.set k' a' b', h.2.far hg (by omega)⟩
def BelowOut (k a b : Int) (n : Nat) (w : World) (e : Ending) (w' : World) : Prop :=
  e = .returned (.tuple #[.agg #[.int .i64 k, .int .u64 (sW k a b n).1, .int .u64 (sW k a b n).2], .int .i64 (xW k a b n : Nat), .bool true]) ∧ Below w.heap.size w w'
theorem div_i64 (n : Nat) : wrap64 (4294967296 / (n : Int) * (n : Int)) = mostW n := by
  have h4 : 4294967296 / n * n ≤ 4294967296 := Nat.div_mul_le_self _ _
  have e : (4294967296 : Int) / (n : Int) * (n : Int) = mostW n := by
    unfold mostW
    rw [Int.natCast_mul, Int.natCast_ediv]
    rfl
  have h5 : 0 ≤ mostW n ∧ mostW n ≤ 4294967296 := by unfold mostW; omega
  rw [e]
  have w2 : IntKind.i64.wrap (mostW n) = mostW n := IntWalk.i64_in _ (by omega)
  rw [IntWalk.i64_left] at w2
  exact w2
set_option maxRecDepth 100000 in
set_option maxHeartbeats 6400000 in
theorem BelowSeed_any (k a b : Int) (n : Nat) (w : World) (h : sdOk k a b) (h1 : 1 ≤ n) (h2 : n < 11) :
    Calls Try.prog 96 #[.agg #[.int .i64 k, .int .u64 a, .int .u64 b], .int .i64 n] w (BelowOut k a b n w) := by
  have HV : Hid (∀ w, Calls Try.prog 18 #[.agg #[.int .i64 k, .int .u64 a, .int .u64 b]] w (fun e w' => e = .returned (.bool true) ∧ Below w.heap.size w w')) := Lib.hid fun w => by
    have h3 := ValidSeed_any k a b h.2.2 w
    rw [h.1] at h3
    exact h3
  have HN : Hid (∀ m w, Calls Try.prog 118 #[.agg #[.int .i64 k, .int .u64 (sd k a b m).1, .int .u64 (sd k a b m).2]] w (fun e w' => e = .returned (.tuple #[.agg #[.int .i64 k, .int .u64 (sd k a b (m+1)).1, .int .u64 (sd k a b (m+1)).2], .int .i64 (wd k a b m)]) ∧ Below w.heap.size w w')) := Lib.hid fun m w => by
    rw [sd_succ]
    exact next_any k _ _ (seedB_kind h.1) w
  obtain ⟨j0, j1, j2⟩ := jW_spec h h1 h2
  have d1 := div_i64 n
  have hx := xW_is k a b n
  have HW : Hid (∀ m, 0 ≤ wd k a b m ∧ wd k a b m < 4294967296) := Lib.hid fun m => wd_range k a b m
  have hOut : BelowOut k a b n w = fun e w' => e = .returned (.tuple #[.agg #[.int .i64 k, .int .u64 (sd k a b (jW k a b n + 1)).1, .int .u64 (sd k a b (jW k a b n + 1)).2], .int .i64 (xW k a b n : Nat), .bool true]) ∧ Below w.heap.size w w' := rfl
  rw [hOut]
  clear hOut
  have hs0 := sd_zero k a b
  generalize jW k a b n = j at *
  generalize xW k a b n = x at *
  generalize mostW n = most at *
  have HJ1 := Lib.hid j1
  have HJ2 := Lib.hid j2
  have HX := Lib.hid hx
  have HS0 := Lib.hid hs0
  have hin : inB (n : Int) 1 4294967296 = true := by unfold inB; exact decide_eq_true ⟨by omega, by omega⟩
  have HIN : Hid (∀ w, Calls Try.prog 55 #[.int .i64 (n : Int), .int .i64 1, .int .i64 4294967296] w (Quiet (.bool true) w)) := Lib.hid fun w => by
    have h3 := within_any (n : Int) 1 4294967296 w
    rw [hin] at h3
    exact h3
  clear hin j1 j2 hx hs0 h
  have hn0 : ((n : Int) == 0) = false := by simp; omega
  go_enter Try.func96, Try.ntmps96
  go_wp2_with fail
  generalize hW1 : World.alloc (World.alloc w _) _ = W1
  have hx1 : Dx w.heap.size k a b W1 := by rw [← hW1]; simp [Dx, SdAt, go_sem]
  have HB1 : Hid (Below w.heap.size w W1) := by rw [← hW1]; exact Lib.hid (below_al (below_al (Below.refl _ _) _) _)
  clear hW1
  have HX1 := Lib.hid hx1
  obtain ⟨⟨s0, s1, s2, sf⟩, ⟨z0, z1, z2, zf⟩⟩ := hx1
  refine (HV.out _).mono ?_
  rintro e w2 ⟨rfl, hb2⟩
  have HX2 := Lib.hid (HX1.out.keep hb2)
  have HB2 := Lib.hid (below_next HB1.out hb2)
  clear hb2 s0 s1 s2 sf z0 z1 z2 zf HX1 HB1
  go_wp2_with (go_at_call 55; refine (HIN.out _).mono ?_; rintro e w3 ⟨rfl, m3, rfl⟩)
  have HX3 : Hid (Dx w.heap.size k a b (w2.drewN m3)) := Lib.hid HX2.out
  have HB3 : Hid (Below w.heap.size w (w2.drewN m3)) := Lib.hid (below_dn HB2.out _)
  clear HX2 HB2
  generalize w2.drewN m3 = W3 at *
  go_loopw [7, 8, 18] (fun _ _ ct wr => ∃ m : Nat, m ≤ j ∧ ct = .int .i64 m ∧ Dx w.heap.size k (sd k a b m).1 (sd k a b m).2 wr ∧ Below w.heap.size w wr) (fun _ _ ct _ => 64 - (intOf ct).toNat)
  case atStart => exact ⟨0, by omega, rfl, by rw [HS0.out]; exact HX3.out, HB3.out⟩
  case round =>
    obtain ⟨m, hm, rfl, hx, hbw⟩ := hrel
    rename World => wr
    have HX' := Lib.hid hx
    have HB := Lib.hid hbw
    have hlt := HX'.out.lt
    obtain ⟨⟨s0, s1, s2, sf⟩, ⟨z0, z1, z2, zf⟩⟩ := hx
    clear hbw
    have hm64 : m < 64 := by omega
    have hw := HW.out m
    have HNm := Lib.hid (HN.out m)
    have hcase : m = j ∨ m < j := by omega
    rcases hcase with rfl | hlj
    · have hlw := HJ1.out
      have hxx := HX.out
      generalize hst' : sd k a b (m + 1) = st' at *
      generalize sd k a b m = st at *
      generalize wd k a b m = wv at *
      have HST := Lib.hid hst'
      clear hst'
      obtain ⟨aT, bT⟩ := st
      obtain ⟨a', b'⟩ := st'
      go_wp2_with (go_at_call 118; refine (HNm.out _).mono ?_; rintro e w6 ⟨rfl, hb6⟩; have HX6 := Lib.hid (HX'.out.keep hb6); have HB6 := Lib.hid (below_next HB.out hb6); clear hb6 s0 s1 s2 sf z0 z1 z2 zf; obtain ⟨⟨s0, s1, s2, sf⟩, ⟨z0, z1, z2, zf⟩⟩ := HX6.out; have hlt6 := HX6.out.lt; have hlt7 : w.heap.size < w6.heap.size := by omega)
      have hX7 := (HX6.out.set k a' b').keep (below_al (Below.refl _ _) (.cells #[.int .i64 k, .int .u64 a', .int .u64 b'] 37))
      have hB7 := below_al (below_set (below_set (below_set HB6.out ⟨w.heap.size, 0, none⟩ (.int .i64 k) (by simp)) ⟨w.heap.size, 1, none⟩ (.int .u64 a') (by simp)) ⟨w.heap.size, 2, none⟩ (.int .u64 b') (by simp)) (.cells #[.int .i64 k, .int .u64 a', .int .u64 b'] 37)
      generalize World.alloc (World.setCell (World.setCell (World.setCell _ _ _) _ _) _ _) _ = W7 at hX7 hB7 ⊢
      have HX7 := Lib.hid hX7
      have HB7 := Lib.hid hB7
      clear hB7 s0 s1 s2 sf z0 z1 z2 zf hlt6 hlt7 HX6 HB6
      obtain ⟨⟨s0, s1, s2, sf⟩, ⟨z0, z1, z2, zf⟩⟩ := hX7
      go_region
      have hX8 := (HX7.out.2.set k a' b').dr
      have hB8 := below_dn (below_set (below_set (below_set HB7.out ⟨w.heap.size + 1, 0, none⟩ (.int .i64 k) (by simp)) ⟨w.heap.size + 1, 1, none⟩ (.int .u64 a') (by simp)) ⟨w.heap.size + 1, 2, none⟩ (.int .u64 b') (by simp)) 1
      have hB9 : Below w.heap.size w (((W7.setCell ⟨w.heap.size + 1, 0, none⟩ (.int .i64 k)).setCell ⟨w.heap.size + 1, 1, none⟩ (.int .u64 a')).setCell ⟨w.heap.size + 1, 2, none⟩ (.int .u64 b')).drew := hB8
      clear hB8
      generalize World.drew (World.setCell (World.setCell (World.setCell _ _ _) _ _) _ _) = W8 at hX8 hB9 ⊢
      clear s0 s1 s2 sf z0 z1 z2 zf
      obtain ⟨y0, y1, y2, -⟩ := hX8
      go_wp2_with fail
      refine bodyPost_ret (v := .tuple #[.agg #[.int .i64 k, .int .u64 a', .int .u64 b'], .int .i64 (wv % (n : Int)), .bool true]) (by simp [results, Try.results96, go_sem, y0, y1, y2]) rfl ⟨by rw [hxx, HST.out], hB9⟩
    · have hlw := HJ2.out m hlj
      generalize hst' : sd k a b (m + 1) = st' at *
      generalize sd k a b m = st at *
      generalize wd k a b m = wv at *
      have HST := Lib.hid hst'
      clear hst'
      obtain ⟨aT, bT⟩ := st
      obtain ⟨a', b'⟩ := st'
      go_wp2_with (go_at_call 118; refine (HNm.out _).mono ?_; rintro e w6 ⟨rfl, hb6⟩; have HX6 := Lib.hid (HX'.out.keep hb6); have HB6 := Lib.hid (below_next HB.out hb6); clear hb6 s0 s1 s2 sf z0 z1 z2 zf; obtain ⟨⟨s0, s1, s2, sf⟩, ⟨z0, z1, z2, zf⟩⟩ := HX6.out; have hlt6 := HX6.out.lt; have hlt7 : w.heap.size < w6.heap.size := by omega)
      have hX7 := (HX6.out.set k a' b').keep (below_al (Below.refl _ _) (.cells #[.int .i64 k, .int .u64 a', .int .u64 b'] 37))
      have hB7 := below_al (below_set (below_set (below_set HB6.out ⟨w.heap.size, 0, none⟩ (.int .i64 k) (by simp)) ⟨w.heap.size, 1, none⟩ (.int .u64 a') (by simp)) ⟨w.heap.size, 2, none⟩ (.int .u64 b') (by simp)) (.cells #[.int .i64 k, .int .u64 a', .int .u64 b'] 37)
      exact ⟨⟨m + 1, hlj, rfl, by rw [HST.out]; exact hX7, hB7⟩, by simp [intOf]; omega⟩
end Go.Proofs.Ytfkjnaaplhcheaa
namespace Go.Proofs.Ytfkjnaaplhcheaa
open Go Go.RowKit Ieee SeedFact

def TriedOut (p : Nat) (k a b : Int) (n : Nat) (w : World) (e : Ending) (w' : World) : Prop :=
  e = .returned (.tuple #[.int .i64 (xW k a b n : Nat), .bool true]) ∧ SdTo p k (sW k a b n).1 (sW k a b n).2 w w'
theorem grown_tr {a b c : World} {r : Option Nat} (h1 : a.grownBy b r) (h2 : b.grownBy c r) : a.grownBy c r := h1.trans h2
set_option maxRecDepth 100000 in
set_option maxHeartbeats 6400000 in
theorem l02Tried_any (p : Nat) (k a b : Int) (n : Nat) (w : World) (h : sdOk k a b) (h1 : 1 ≤ n) (h2 : n < 11) (hp : SdAt w p k a b) :
    Calls Try.prog 116 #[.pointer (some ⟨p, 0, none⟩), .int .i64 n] w (TriedOut p k a b n w) := by
  have HN : Hid (∀ m w, SdAt w p k (sd k a b m).1 (sd k a b m).2 → Calls Try.prog 129 #[.pointer (some ⟨p, 0, none⟩)] w (fun e w' => e = .returned (.int .u32 (wd k a b m)) ∧ SdTo p k (sd k a b (m+1)).1 (sd k a b (m+1)).2 w w')) := Lib.hid fun m w hs => by
    rw [sd_succ]
    exact l02Next_any p k _ _ (seedB_kind h.1) w hs
  obtain ⟨j0, j1, j2⟩ := jW_spec h h1 h2
  have d1 := div_i64 n
  have hx := xW_is k a b n
  have HW : Hid (∀ m, 0 ≤ wd k a b m ∧ wd k a b m < 4294967296) := Lib.hid fun m => wd_range k a b m
  have hOut : TriedOut p k a b n w = fun e w' => e = .returned (.tuple #[.int .i64 (xW k a b n : Nat), .bool true]) ∧ SdTo p k (sd k a b (jW k a b n + 1)).1 (sd k a b (jW k a b n + 1)).2 w w' := rfl
  rw [hOut]
  clear hOut
  have hs0 := sd_zero k a b
  generalize jW k a b n = j at *
  generalize xW k a b n = x at *
  generalize mostW n = most at *
  have HJ1 := Lib.hid j1
  have HJ2 := Lib.hid j2
  have HX := Lib.hid hx
  have HS0 := Lib.hid hs0
  have HP := Lib.hid hp
  clear j1 j2 hx hs0 h hp
  have hn0 : ((n : Int) == 0) = false := by simp; omega
  go_enter Try.func116, Try.ntmps116
  go_wp2_with fail
  go_loopw [7, 8] (fun ct _ wr => ∃ m : Nat, m ≤ j ∧ ct = .int .i64 m ∧ SdAt wr p k (sd k a b m).1 (sd k a b m).2 ∧ w.grownBy wr (some p)) (fun ct _ _ => 64 - (intOf ct).toNat)
  case atStart => exact ⟨0, by omega, rfl, by rw [HS0.out]; exact HP.out, grown_refl w _⟩
  case round =>
    obtain ⟨m, hm, rfl, hx, hg⟩ := hrel
    rename World => wr
    have HG := Lib.hid hg
    have HNm := Lib.hid (HN.out m wr hx)
    clear hx hg
    have hm64 : m < 64 := by omega
    have hw := HW.out m
    have hcase : m = j ∨ m < j := by omega
    rcases hcase with rfl | hlj
    · have hlw := HJ1.out
      have hxx := HX.out
      generalize hst' : sd k a b (m + 1) = st' at *
      generalize wd k a b m = wv at *
      have HST := Lib.hid hst'
      clear hst'
      obtain ⟨a', b'⟩ := st'
      go_wp2_with (go_at_call 129; refine HNm.out.mono ?_; rintro e w6 ⟨rfl, hg6, hs6⟩; have HG6 := Lib.hid (HG.out.trans hg6); have HS6 := Lib.hid hs6; clear hg6 hs6)
      refine bodyPost_ret (v := .tuple #[.int .i64 (wv % (n : Int)), .bool true]) (by simp [results, Try.results116, go_sem]) rfl ⟨by rw [hxx], HG6.out, by rw [HST.out]; exact HS6.out⟩
    · have hlw := HJ2.out m hlj
      generalize wd k a b m = wv at *
      go_wp2_with (go_at_call 129; refine HNm.out.mono ?_; rintro e w6 ⟨rfl, hg6, hs6⟩; have HG6 := Lib.hid (HG.out.trans hg6); have HS6 := Lib.hid hs6; clear hg6 hs6)
      exact ⟨⟨m + 1, hlj, rfl, HS6.out, HG6.out⟩, by simp [intOf]; omega⟩
def SBelowOut (p : Nat) (k a b : Int) (n : Nat) (w : World) (e : Ending) (w' : World) : Prop :=
  e = .returned (.int .i64 (xW k a b n : Nat)) ∧ SdTo p k (sW k a b n).1 (sW k a b n).2 w w'
set_option maxHeartbeats 1600000 in
theorem l02Below_any (p : Nat) (k a b : Int) (n : Nat) (w : World) (h : sdOk k a b) (h1 : 1 ≤ n) (h2 : n < 11) (hp : SdAt w p k a b) :
    Calls Try.prog 87 #[.pointer (some ⟨p, 0, none⟩), .int .i64 n] w (SBelowOut p k a b n w) := by
  have HT := Lib.hid (l02Tried_any p k a b n w h h1 h2 hp)
  unfold TriedOut at HT
  unfold SBelowOut
  generalize xW k a b n = x at *
  generalize sW k a b n = s at *
  clear h hp
  go_enter Try.func87, Try.ntmps87
  go_wp2_with (go_at_call 116; refine HT.out.mono ?_; rintro e w6 ⟨rfl, hs⟩; have HS := Lib.hid hs; clear hs)
  go_ret
  exact ⟨rfl, HS.out⟩
end Go.Proofs.Ytfkjnaaplhcheaa
