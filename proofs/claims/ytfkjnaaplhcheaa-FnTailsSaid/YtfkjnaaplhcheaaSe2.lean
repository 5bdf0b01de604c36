/-
  Seeds: spec.l02Next and spec.l02Share move a seed where it lies; which seeds are valid.
-/
import Derived.Test.YtfkjnaaplhcheaaSee
import Derived.Test.YtfkjnaaplhcheaaCh
namespace Go.Proofs.Ytfkjnaaplhcheaa
open Go Go.RowKit Ieee

/-- a seed has been moved where it lies; nothing else has changed -/
def SdTo (b : Nat) (k a c : Int) (w w' : World) : Prop := w.grownBy w' (some b) ∧ SdAt w' b k a c
theorem grown_dr {a w : World} {row : Option Nat} (h : a.grownBy w row) : a.grownBy w.drew row := ⟨h.os, h.tape, h.output, h.size, h.block⟩
theorem grown_dn {a w : World} {row : Option Nat} (h : a.grownBy w row) (n : Nat) : a.grownBy (w.drewN n) row := ⟨h.os, h.tape, h.output, h.size, h.block⟩
theorem SdAt.dr {w : World} {b : Nat} {k a c : Int} (h : SdAt w b k a c) : SdAt w.drew b k a c := h
theorem SdAt.dn {w : World} {b : Nat} {k a c : Int} (h : SdAt w b k a c) (n : Nat) : SdAt (w.drewN n) b k a c := h
theorem SdAt.setA {w : World} {b : Nat} {k a c : Int} (h : SdAt w b k a c) (a' : Int) : SdAt (w.setCell ⟨b, 1, none⟩ (.int .u64 a')) b k a' c := by
  obtain ⟨h0, h1, h2, h3⟩ := h
  exact ⟨(World.cell?_setCell_other _ _ _ _ (by simp)).trans h0, World.cell?_setCell_same _ _ _ h1, (World.cell?_setCell_other _ _ _ _ (by simp)).trans h2, fun o => by rw [World.frozen?_setCell]; exact h3 o⟩
theorem SdAt.setB {w : World} {b : Nat} {k a c : Int} (h : SdAt w b k a c) (c' : Int) : SdAt (w.setCell ⟨b, 2, none⟩ (.int .u64 c')) b k a c' := by
  obtain ⟨h0, h1, h2, h3⟩ := h
  exact ⟨(World.cell?_setCell_other _ _ _ _ (by simp)).trans h0, (World.cell?_setCell_other _ _ _ _ (by simp)).trans h1, World.cell?_setCell_same _ _ _ h2, fun o => by rw [World.frozen?_setCell]; exact h3 o⟩

def SNextOut (b : Nat) (k a c : Int) (w : World) (e : Ending) (w' : World) : Prop := e = .returned (.int .u32 (nW k a c)) ∧ SdTo b k (nA k a c) (nB k a c) w w'
theorem snext_out {b : Nat} {k a c a' c' W : Int} {w w' : World} (h1 : a' = nA k a c) (h2 : c' = nB k a c) (h3 : W = nW k a c) (hg : w.grownBy w' (some b)) (hs : SdAt w' b k a' c') : SNextOut b k a c w (.returned (.int .u32 W)) w' := by
  subst h1 h2 h3
  exact ⟨rfl, hg, hs⟩
theorem set_out {p q : Int} (h : p = q) : Ending.returned (.int .u32 p) = .returned (.int .u32 q) := by rw [h]

theorem high_mod {r : Int} (h : 0 ≤ r ∧ r < 18446744073709551616) : r / 4294967296 % 4294967296 = r / 4294967296 := by
  have : 0 ≤ r / 4294967296 ∧ r / 4294967296 < 4294967296 := by omega
  omega
set_option maxHeartbeats 800000 in
theorem l02Next_0 (b : Nat) (a c : Int) (w : World) (h : SdAt w b 0 a c) : Calls Try.prog 129 #[.pointer (some ⟨b, 0, none⟩)] w (SNextOut b 0 a c w) := by
  have H := Lib.hid h
  obtain ⟨h0, h1, h2, h3⟩ := h
  go_enter Try.func129, Try.ntmps129
  go_wp2
  go_region
  go_wp2
  go_ret
  exact snext_out (nA_0 a c) (nB_0 a c) ((high_mod (lineA_range a c)).trans (nW_0 a c)) (grown_dr (grown_set (grown_refl w _) 1 _)) (H.out.setA _).dr
set_option maxHeartbeats 1600000 in
theorem l02Next_1 (b : Nat) (a c : Int) (w : World) (h : SdAt w b 1 a c) : Calls Try.prog 129 #[.pointer (some ⟨b, 0, none⟩)] w (SNextOut b 1 a c w) := by
  have H := Lib.hid h
  obtain ⟨h0, h1, h2, h3⟩ := h
  go_enter Try.func129, Try.ntmps129
  go_wp2
  go_region
  go_wp2
  have hS := (H.out.setA (shiftX a)).dr
  have hG : w.grownBy (w.setCell ⟨b, 1, none⟩ (.int .u64 (shiftX a))).drew (some b) := grown_dr (grown_set (grown_refl w _) 1 _)
  unfold shiftX at hS hG
  generalize World.drew (World.setCell _ _ _) = W1 at hS hG ⊢
  have HG := Lib.hid hG
  have H1 := Lib.hid hS
  clear hG h0 h1 h2 h3
  obtain ⟨h0, h1, h2, h3⟩ := hS
  go_region
  go_wp2
  have hS := (H1.out.setA (shiftY (shiftX a))).dr
  have hG : w.grownBy (W1.setCell ⟨b, 1, none⟩ (.int .u64 (shiftY (shiftX a)))).drew (some b) := grown_dr (grown_set HG.out 1 _)
  unfold shiftY shiftX at hS hG
  generalize World.drew (World.setCell _ _ _) = W2 at hS hG ⊢
  have HG2 := Lib.hid hG
  have H2 := Lib.hid hS
  clear hG h0 h1 h2 h3
  obtain ⟨h0, h1, h2, h3⟩ := hS
  go_region
  have hS := (H2.out.setA (shiftZ (shiftY (shiftX a)))).dr
  have hG : w.grownBy (W2.setCell ⟨b, 1, none⟩ (.int .u64 (shiftZ (shiftY (shiftX a))))).drew (some b) := grown_dr (grown_set HG2.out 1 _)
  unfold shiftZ shiftY shiftX at hS hG
  generalize World.drew (World.setCell _ _ _) = W3 at hS hG ⊢
  have HG3 := Lib.hid hG
  have H3 := Lib.hid hS
  clear hG h0 h1 h2 h3
  obtain ⟨h0, h1, h2, h3⟩ := hS
  go_wp2
  go_ret
  exact snext_out (nA_1 a c) (nB_1 a c) ((high_mod (shiftR_range a)).trans (nW_1 a c)) HG3.out H3.out
set_option maxHeartbeats 1600000 in
theorem l02Next_2 (b : Nat) (a c : Int) (w : World) (h : SdAt w b 2 a c) : Calls Try.prog 129 #[.pointer (some ⟨b, 0, none⟩)] w (SNextOut b 2 a c w) := by
  have H := Lib.hid h
  obtain ⟨h0, h1, h2, h3⟩ := h
  go_enter Try.func129, Try.ntmps129
  go_wp2
  go_quiet ((go_at_call 95; exact Calls.quiet_of_same (l02Mix_any _ _)))
  go_wp2
  go_ret
  exact snext_out (nA_2 a c) (nB_2 a c) ((high_mod (countR_range a c)).trans (nW_2 a c)) (grown_dn (grown_set (grown_refl w _) 1 _) _) ((H.out.setA _).dn _)
set_option maxHeartbeats 1600000 in
theorem l02Next_3 (b : Nat) (a c : Int) (w : World) (h : SdAt w b 3 a c) : Calls Try.prog 129 #[.pointer (some ⟨b, 0, none⟩)] w (SNextOut b 3 a c w) := by
  have H := Lib.hid h
  obtain ⟨h0, h1, h2, h3⟩ := h
  go_enter Try.func129, Try.ntmps129
  go_wp2
  go_quiet (fail)
  go_wp2
  go_quiet (fail)
  go_wp2_with (first
    | (go_at_call 138; (with_reducible refine (l02Turn_24 _ _).mono ?_); rintro e w' ⟨rfl, rfl⟩)
    | (go_at_call 138; (with_reducible refine (l02Turn_37 _ _).mono ?_); rintro e w' ⟨rfl, rfl⟩))
  go_ret
  exact snext_out (nA_3 a c) (nB_3 a c) ((high_mod (pairR_range a c)).trans (nW_3 a c)) (grown_set (grown_set (grown_dn (grown_refl w _) _) 1 _) 2 _) (((H.out.dn _).setA _).setB _)
theorem l02Next_any (b : Nat) (k a c : Int) (hk : kindB k) (w : World) (h : SdAt w b k a c) : Calls Try.prog 129 #[.pointer (some ⟨b, 0, none⟩)] w (SNextOut b k a c w) := by
  rcases hk with rfl | rfl | rfl | rfl
  · exact l02Next_0 b a c w h
  · exact l02Next_1 b a c w h
  · exact l02Next_2 b a c w h
  · exact l02Next_3 b a c w h
def SShareOut (b : Nat) (k a c : Int) (w : World) (e : Ending) (w' : World) : Prop := e = .returned (.float .f32 (nU k a c)) ∧ SdTo b k (nA k a c) (nB k a c) w w'
/-- a seed is valid -/
def seedB (k a b : Int) : Bool := if k = 0 then b % 2 == 1 else if k = 1 then a != 0 else if k = 2 then true else if k = 3 then a != 0 || b != 0 else false
theorem seedB_kind {k a b : Int} (h : seedB k a b = true) : kindB k := by
  unfold seedB at h
  unfold kindB
  split at h
  · exact .inl ‹_›
  · split at h
    · exact .inr (.inl ‹_›)
    · split at h
      · exact .inr (.inr (.inl ‹_›))
      · split at h
        · exact .inr (.inr (.inr ‹_›))
        · cases h
set_option maxHeartbeats 800000 in
theorem ValidSeed_any (k a b : Int) (hb : 0 ≤ b ∧ b < 18446744073709551616) (w : World) : Calls Try.prog 18 #[.agg #[.int .i64 k, .int .u64 a, .int .u64 b]] w (fun e w' => e = .returned (.bool (seedB k a b)) ∧ Below w.heap.size w w') := by
  obtain ⟨b0, b1⟩ := hb
  by_cases h0 : k = 0
  · subst h0
    have hR : Hid (seedB 0 a b = (b % 2 == 1)) := Lib.hid (if_pos rfl)
    go_enter Try.func18, Try.ntmps18
    go_wp2
    go_ret
    rw [hR.out]
    exact ⟨rfl, below_al (Below.refl _ _) _⟩
  · by_cases h1 : k = 1
    · subst h1
      have hR : Hid (seedB 1 a b = (a != 0)) := Lib.hid (by unfold seedB; rw [if_neg (by decide), if_pos rfl])
      clear h0
      go_enter Try.func18, Try.ntmps18
      go_wp2
      go_ret
      rw [hR.out]
      exact ⟨rfl, below_al (Below.refl _ _) _⟩
    · by_cases h3 : k = 3
      · subst h3
        have hR : Hid (seedB 3 a b = (a != 0 || b != 0)) := Lib.hid (by unfold seedB; rw [if_neg (by decide), if_neg (by decide), if_neg (by decide), if_pos rfl])
        clear h0 h1
        cases ha : (a != 0) with
        | true =>
          rw [ha, Bool.true_or] at hR
          go_enter Try.func18, Try.ntmps18
          go_wp2
          go_ret
          rw [hR.out]
          exact ⟨rfl, below_al (Below.refl _ _) _⟩
        | false =>
          rw [ha, Bool.false_or] at hR
          go_enter Try.func18, Try.ntmps18
          go_wp2
          go_ret
          rw [hR.out]
          exact ⟨rfl, below_al (Below.refl _ _) _⟩
      · have hR : Hid (seedB k a b = (k == 2)) := Lib.hid (by
          unfold seedB
          rw [if_neg h0, if_neg h1]
          by_cases h2 : k = 2
          · rw [if_pos h2, h2]; rfl
          · rw [if_neg h2, if_neg h3, beq_false_of_ne h2])
        have g0 : (k == 0) = false := beq_false_of_ne h0
        have g1 : (k == 1) = false := beq_false_of_ne h1
        have g3 : (k == 3) = false := beq_false_of_ne h3
        clear h0 h1 h3
        go_enter Try.func18, Try.ntmps18
        go_wp2
        go_ret
        rw [hR.out]
        exact ⟨rfl, below_al (Below.refl _ _) _⟩
set_option maxHeartbeats 800000 in
theorem l02Is_any (p : Nat) (k a b : Int) (hb : 0 ≤ b ∧ b < 18446744073709551616) (w : World) (h : SdAt w p k a b) : Calls Try.prog 80 #[.pointer (some ⟨p, 0, none⟩)] w (fun e w' => e = .returned (.bool (seedB k a b)) ∧ w = w') := by
  obtain ⟨b0, b1⟩ := hb
  obtain ⟨c0, c1, c2, cf⟩ := h
  by_cases h0 : k = 0
  · subst h0
    have hR : Hid (seedB 0 a b = (b % 2 == 1)) := Lib.hid (if_pos rfl)
    go_enter Try.func80, Try.ntmps80
    go_wp2
    go_ret
    rw [hR.out]
    exact ⟨rfl, rfl⟩
  · by_cases h1 : k = 1
    · subst h1
      have hR : Hid (seedB 1 a b = (a != 0)) := Lib.hid (by unfold seedB; rw [if_neg (by decide), if_pos rfl])
      clear h0
      go_enter Try.func80, Try.ntmps80
      go_wp2
      go_ret
      rw [hR.out]
      exact ⟨rfl, rfl⟩
    · by_cases h3 : k = 3
      · subst h3
        have hR : Hid (seedB 3 a b = (a != 0 || b != 0)) := Lib.hid (by unfold seedB; rw [if_neg (by decide), if_neg (by decide), if_neg (by decide), if_pos rfl])
        clear h0 h1
        cases ha : (a != 0) with
        | true =>
          rw [ha, Bool.true_or] at hR
          go_enter Try.func80, Try.ntmps80
          go_wp2
          go_ret
          rw [hR.out]
          exact ⟨rfl, rfl⟩
        | false =>
          rw [ha, Bool.false_or] at hR
          go_enter Try.func80, Try.ntmps80
          go_wp2
          go_ret
          rw [hR.out]
          exact ⟨rfl, rfl⟩
      · by_cases h2 : k = 2
        · subst h2
          have hR : Hid (seedB 2 a b = true) := Lib.hid (by unfold seedB; rw [if_neg (by decide), if_neg (by decide), if_pos rfl])
          clear h0 h1 h3
          go_enter Try.func80, Try.ntmps80
          go_wp2
          go_ret
          rw [hR.out]
          exact ⟨rfl, rfl⟩
        · have hR : Hid (seedB k a b = false) := Lib.hid (by unfold seedB; rw [if_neg h0, if_neg h1, if_neg h2, if_neg h3])
          have g0 : (k == 0) = false := beq_false_of_ne h0
          have g1 : (k == 1) = false := beq_false_of_ne h1
          have g2 : (k == 2) = false := beq_false_of_ne h2
          have g3 : (k == 3) = false := beq_false_of_ne h3
          clear h0 h1 h2 h3
          go_enter Try.func80, Try.ntmps80
          go_wp2
          go_ret
          rw [hR.out]
          exact ⟨rfl, rfl⟩
end Go.Proofs.Ytfkjnaaplhcheaa

