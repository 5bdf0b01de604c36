/-
  Desks that are valid: impl.ValidDesk, spec.ValidDesk.
-/
import Derived.Test.YthkejpgffkahaaaOr3
import Derived.Test.YthkejpgffkahaaaTb1
import Derived.Test.YthkejpgffkahaaaSe2
import Derived.Test.YthkejpgffkahaaaSd4
namespace Go.Proofs.Ythkejpgffkahaaa
open Go Go.RowKit

/-- shares of tests -/
def shareB (xs : List Nat) : Bool := decide (1 ≤ xs.length) && (decide (xs.length ≤ 64) && xs.all partB)
set_option maxRecDepth 100000 in
theorem areShares_any (A : Option Addr) (xs : List Nat) (c : Nat) (w : World) (hx : xs.length ≤ 9223372036854775807) (h : Rd w w.heap.size A (fl xs)) : Calls Try.prog 20 #[.slice A xs.length c] w (BoolOut (shareB xs) w) := by
  have HP := Lib.hid fun w h => areParts_any A xs c w hx h
  have HS : Hid (shareB xs = (decide (1 ≤ xs.length) && (decide (xs.length ≤ 64) && xs.all partB))) := Lib.hid rfl
  unfold BoolOut
  rw [HS.out]
  generalize xs.all partB = r at *
  by_cases h1 : 1 ≤ xs.length
  · have h1' : (1 : Int) ≤ (xs.length : Int) := by omega
    rw [decide_eq_true h1, Bool.true_and]
    by_cases h2 : xs.length ≤ 64
    · have h2' : (xs.length : Int) ≤ 64 := by omega
      rw [decide_eq_true h2, Bool.true_and]
      go_enter Try.func20, Try.ntmps20
      go_wp2_with (go_at_call 38; refine (HP.out _ h).mono ?_; rintro e w1 ⟨rfl, m, rfl⟩)
      go_ret
      exact ⟨rfl, below_dn (Below.refl _ _) _⟩
    · have h2' : ¬ (xs.length : Int) ≤ 64 := by omega
      rw [decide_eq_false h2, Bool.false_and]
      go_enter Try.func20, Try.ntmps20
      go_wp2_with fail
      go_ret
      exact ⟨rfl, Below.refl _ _⟩
  · have h1' : ¬ (1 : Int) ≤ (xs.length : Int) := by omega
    rw [decide_eq_false h1, Bool.false_and]
    go_enter Try.func20, Try.ntmps20
    go_wp2_with fail
    go_ret
    exact ⟨rfl, Below.refl _ _⟩
set_option maxRecDepth 100000 in
set_option maxHeartbeats 1600000 in
theorem l06Shares_any (A : Option Addr) (xs : List Nat) (c : Nat) (w : World) (hx : xs.length ≤ 9223372036854775807) (h : Rd w w.heap.size A (fl xs)) : Calls Try.prog 43 #[.slice A xs.length c] w (BoolOut (shareB xs) w) := by
  have HP := Lib.hid fun x w => l02Part_any x w
  have HS : Hid (shareB xs = (decide (1 ≤ xs.length) && (decide (xs.length ≤ 64) && xs.all partB))) := Lib.hid rfl
  unfold BoolOut
  have HR := Lib.hid h
  clear h
  go_enter Try.func43, Try.ntmps43
  go_wp2_with fail
  go_loopw [3] (fun iv wr => ∃ i m : Nat, i ≤ xs.length ∧ iv = .int .i64 i ∧ (xs.take i).all partB = true ∧ wr = w.drewN m) (fun iv _ => xs.length - (intOf iv).toNat)
  case atStart => exact ⟨0, 0, Nat.zero_le _, rfl, rfl, rfl⟩
  case round =>
    obtain ⟨i, m, hi, rfl, hal, rfl⟩ := hrel
    have AL := Lib.hid hal
    clear hal
    by_cases hlt : i < xs.length
    · obtain ⟨b, o, rfl, hb, hc⟩ := HR.out.flAt hlt
      have hlt' : (i : Int) < (xs.length : Int) := by omega
      have HN : Hid ((xs.take (i + 1)).all partB = partB xs[i]) := Lib.hid (by rw [List.take_succ_eq_append_getElem hlt, List.all_append, AL.out]; simp)
      have HF : Hid (partB xs[i] = false → shareB xs = false) := Lib.hid fun hf => by
        rw [HS.out, show xs.all partB = false from List.all_eq_false.2 ⟨xs[i], List.getElem_mem hlt, by simp [hf]⟩]
        simp
      have HPi := Lib.hid fun w => HP.out xs[i] w
      generalize partB xs[i] = r at *
      generalize xs[i] = x at *
      cases r with
      | true =>
        go_wp2_with (go_at_call 49; refine (HPi.out _).mono ?_; rintro e w1 ⟨rfl, m1, rfl⟩)
        go_roundw
        case rel => exact ⟨i + 1, m + m1, by omega, by go_num, HN.out, by simp⟩
        case measure => simp [intOf]; omega
      | false =>
        go_wp2_with (go_at_call 49; refine (HPi.out _).mono ?_; rintro e w1 ⟨rfl, m1, rfl⟩)
        go_ret
        rw [HF.out (by trivial)]
        exact ⟨rfl, below_dn (Below.refl _ _) _⟩
    · obtain rfl : i = xs.length := by omega
      have hal := AL.out
      rw [List.take_length] at hal
      have HE : Hid (shareB xs = (decide (1 ≤ xs.length) && decide (xs.length ≤ 64))) := Lib.hid (by rw [HS.out, hal, Bool.and_true])
      clear hal
      by_cases h1 : 1 ≤ xs.length
      · have h1' : (1 : Int) ≤ (xs.length : Int) := by omega
        go_wp2_with fail
        go_ret
        rw [HE.out, decide_eq_true h1, Bool.true_and]
        exact ⟨retB (by simp; omega), below_dn (Below.refl _ _) _⟩
      · have h1' : ¬ (1 : Int) ≤ (xs.length : Int) := by omega
        go_wp2_with fail
        go_ret
        rw [HE.out, decide_eq_false h1, Bool.false_and]
        exact ⟨rfl, below_dn (Below.refl _ _) _⟩
theorem l08List_any (A : Option Addr) (xs : List Nat) (c : Nat) (w : World) (hx : xs.length ≤ 9223372036854775807) (h : Rd w w.heap.size A (fl xs)) : Calls Try.prog 28 #[.slice A xs.length c] w (BoolOut (shareB xs) w) := by
  have HS := Lib.hid (l06Shares_any A xs c w hx h)
  unfold BoolOut at HS ⊢
  generalize shareB xs = r at *
  go_enter Try.func28, Try.ntmps28
  go_wp2_with (go_at_call 43; refine HS.out.mono ?_; rintro e w1 ⟨rfl, hb1⟩)
  go_ret
  exact ⟨rfl, hb1⟩
def deskB (k a b r l : Int) (xs ys : List Int) (zs : List Nat) : Bool := seedB k a b && (tabB r l xs && (ordB ys && shareB zs))
/-- a box with a desk -/
def DkAt (w : World) (p : Nat) (k a b r l : Int) (A B C : Option Addr) (n1 n2 n3 c1 c2 c3 : Nat) : Prop :=
  w.cell? ⟨p, 0, none⟩ = some (.int .i64 k) ∧ w.cell? ⟨p, 1, none⟩ = some (.int .u64 a) ∧ w.cell? ⟨p, 2, none⟩ = some (.int .u64 b) ∧ w.cell? ⟨p, 3, none⟩ = some (.int .i64 r) ∧ w.cell? ⟨p, 4, none⟩ = some (.int .i64 l) ∧ w.cell? ⟨p, 5, none⟩ = some (.slice A n1 c1) ∧ w.cell? ⟨p, 6, none⟩ = some (.slice B n2 c2) ∧ w.cell? ⟨p, 7, none⟩ = some (.slice C n3 c3)
theorem DkAt.keep {w w' : World} {p : Nat} {k a b r l : Int} {A B C : Option Addr} {n1 n2 n3 c1 c2 c3 : Nat} (h : DkAt w p k a b r l A B C n1 n2 n3 c1 c2 c3) (hb : Below w.heap.size w w') : DkAt w' p k a b r l A B C n1 n2 n3 c1 c2 c3 := by
  obtain ⟨h0, h1, h2, h3, h4, h5, h6, h7⟩ := h
  exact ⟨keepC hb h0, keepC hb h1, keepC hb h2, keepC hb h3, keepC hb h4, keepC hb h5, keepC hb h6, keepC hb h7⟩
set_option maxRecDepth 100000 in
set_option maxHeartbeats 3200000 in
theorem ValidDesk_any (k a b r l : Int) (A B C : Option Addr) (xs ys : List Int) (zs : List Nat) (c1 c2 c3 : Nat) (w : World) (hb0 : 0 ≤ b ∧ b < 18446744073709551616) (hx : xs.length ≤ 1048576) (hy : ys.length ≤ 1048576) (hz : zs.length ≤ 1048576) (hA : Rd w w.heap.size A (il xs)) (hB : Rd w w.heap.size B (il ys)) (hC : Rd w w.heap.size C (fl zs)) :
    Calls Try.prog 7 #[dkA A B C xs.length ys.length zs.length c1 c2 c3 k a b r l] w (BoolOut (deskB k a b r l xs ys zs) w) := by
  have H1 := Lib.hid fun w => ValidSeed_any k a b hb0 w
  have H2 := Lib.hid fun w h => ValidTable_any r l A xs c1 w (by omega) h
  have H3 := Lib.hid fun w h => IsOrder_any B ys c2 w hy h
  have H4 := Lib.hid fun w h => areShares_any C zs c3 w (by omega) h
  have HA := Lib.hid hA
  have HB := Lib.hid hB
  have HC := Lib.hid hC
  have HD : Hid (deskB k a b r l xs ys zs = (seedB k a b && (tabB r l xs && (ordB ys && shareB zs)))) := Lib.hid rfl
  unfold BoolOut tbV at *
  rw [HD.out]
  unfold dkA
  clear hA hB hC HD
  generalize seedB k a b = r1 at *
  generalize tabB r l xs = r2 at *
  generalize ordB ys = r3 at *
  generalize shareB zs = r4 at *
  have hcase : r1 = false ∨ (r1 = true ∧ r2 = false) ∨ (r1 = true ∧ r2 = true ∧ r3 = false) ∨ (r1 = true ∧ r2 = true ∧ r3 = true) := by cases r1 <;> cases r2 <;> cases r3 <;> simp
  rcases hcase with rfl | ⟨rfl, rfl⟩ | ⟨rfl, rfl, rfl⟩ | ⟨rfl, rfl, rfl⟩
  all_goals
    go_enter Try.func7, Try.ntmps7
    go_wp2_with fail
    generalize hW1 : World.alloc w _ = w1
    have k1 : DkAt w1 w.heap.size k a b r l A B C xs.length ys.length zs.length c1 c2 c3 := by rw [← hW1]; simp [DkAt, go_sem]
    have b1 : Below w.heap.size w w1 := by rw [← hW1]; exact below_al (Below.refl _ _) _
    clear hW1
    refine (H1.out _).mono ?_
    rintro e w2 ⟨rfl, hb2⟩
    have K2 := k1.keep hb2
    have BQ := Lib.hid (below_next b1 hb2)
    clear hb2 k1 b1
    have KQ := Lib.hid K2
    obtain ⟨x0, x1, x2, x3, x4, x5, x6, x7⟩ := K2
    go_wp2_with (first
      | (go_at_call 18; refine (H2.out _ (HA.out.at_ BQ.out)).mono ?_; rintro e w3 ⟨rfl, hb3⟩; clear x0 x1 x2 x3 x4 x5 x6 x7; obtain ⟨x0, x1, x2, x3, x4, x5, x6, x7⟩ := KQ.out.keep hb3; have KQ := Lib.hid (KQ.out.keep hb3); have BQ := Lib.hid (below_next BQ.out hb3); clear hb3)
      | (go_at_call 19; refine (H3.out _ (HB.out.at_ BQ.out)).mono ?_; rintro e w3 ⟨rfl, hb3⟩; clear x0 x1 x2 x3 x4 x5 x6 x7; obtain ⟨x0, x1, x2, x3, x4, x5, x6, x7⟩ := KQ.out.keep hb3; have KQ := Lib.hid (KQ.out.keep hb3); have BQ := Lib.hid (below_next BQ.out hb3); clear hb3)
      | (go_at_call 20; refine (H4.out _ (HC.out.at_ BQ.out)).mono ?_; rintro e w3 ⟨rfl, hb3⟩; have BQ := Lib.hid (below_next BQ.out hb3); clear hb3))
    go_ret
    exact ⟨by simp, BQ.out⟩
set_option maxRecDepth 100000 in
set_option maxHeartbeats 3200000 in
theorem specValidDesk_any (k a b r l : Int) (A B C : Option Addr) (xs ys : List Int) (zs : List Nat) (c1 c2 c3 : Nat) (w : World) (hb0 : 0 ≤ b ∧ b < 18446744073709551616) (hx : xs.length ≤ 1048576) (hy : ys.length ≤ 1048576) (hz : zs.length ≤ 1048576) (hA : Rd w w.heap.size A (il xs)) (hB : Rd w w.heap.size B (il ys)) (hC : Rd w w.heap.size C (fl zs)) :
    Calls Try.prog 5 #[dkA A B C xs.length ys.length zs.length c1 c2 c3 k a b r l] w (BoolOut (deskB k a b r l xs ys zs) w) := by
  have HI : Hid (∀ p w1, Below w.heap.size w w1 → DkAt w1 p k a b r l A B C xs.length ys.length zs.length c1 c2 c3 → (∀ o, w1.frozen? ⟨p, o, none⟩ = false) → Calls Try.prog 12 #[.pointer (some ⟨p, 0, none⟩)] w1 (BoolOut (deskB k a b r l xs ys zs) w1)) := Lib.hid fun p w1 hb1 hk hfz => by
    have H1 := Lib.hid fun w h => l02Is_any p k a b hb0 w h
    have H2 := Lib.hid fun w hp h => l06Is_any p r l A xs c1 w (by omega) hp h
    have H3 := Lib.hid fun w h => l04Order_any B ys c2 w (by omega) h
    have H4 := Lib.hid fun w h => l08List_any C zs c3 w (by omega) h
    have HA := Lib.hid (hA.at_ hb1)
    have HB := Lib.hid (hB.at_ hb1)
    have HC := Lib.hid (hC.at_ hb1)
    have HD : Hid (deskB k a b r l xs ys zs = (seedB k a b && (tabB r l xs && (ordB ys && shareB zs)))) := Lib.hid rfl
    have KQ := Lib.hid hk
    have HSD : Hid (SdAt w1 p k a b) := Lib.hid ⟨hk.1, hk.2.1, hk.2.2.1, hfz⟩
    have BQ : Hid (Below w1.heap.size w1 w1) := Lib.hid (Below.refl _ _)
    unfold BoolOut at *
    rw [HD.out]
    clear hA hB hC HD hb1 hfz
    generalize seedB k a b = r1 at *
    generalize tabB r l xs = r2 at *
    generalize ordB ys = r3 at *
    generalize shareB zs = r4 at *
    obtain ⟨x0, x1, x2, x3, x4, x5, x6, x7⟩ := hk
    have hcase : r1 = false ∨ (r1 = true ∧ r2 = false) ∨ (r1 = true ∧ r2 = true ∧ r3 = false) ∨ (r1 = true ∧ r2 = true ∧ r3 = true) := by cases r1 <;> cases r2 <;> cases r3 <;> simp
    rcases hcase with rfl | ⟨rfl, rfl⟩ | ⟨rfl, rfl, rfl⟩ | ⟨rfl, rfl, rfl⟩
    all_goals
      go_enter Try.func12, Try.ntmps12
      go_wp2_with (first
        | (go_at_call 25; refine (H1.out _ HSD.out).mono ?_; rintro e w3 ⟨rfl, rfl⟩)
        | (go_at_call 26; refine (H2.out _ ⟨KQ.out.2.2.2.1, KQ.out.2.2.2.2.1, KQ.out.2.2.2.2.2.1⟩ (HA.out.at_ BQ.out)).mono ?_; rintro e w3 ⟨rfl, hb3⟩; clear x0 x1 x2 x3 x4 x5 x6 x7; obtain ⟨x0, x1, x2, x3, x4, x5, x6, x7⟩ := KQ.out.keep hb3; have KQ := Lib.hid (KQ.out.keep hb3); have BQ := Lib.hid (below_next BQ.out hb3); clear hb3)
        | (go_at_call 27; refine (H3.out _ (HB.out.at_ BQ.out)).mono ?_; rintro e w3 ⟨rfl, hb3⟩; clear x0 x1 x2 x3 x4 x5 x6 x7; obtain ⟨x0, x1, x2, x3, x4, x5, x6, x7⟩ := KQ.out.keep hb3; have KQ := Lib.hid (KQ.out.keep hb3); have BQ := Lib.hid (below_next BQ.out hb3); clear hb3)
        | (go_at_call 28; refine (H4.out _ (HC.out.at_ BQ.out)).mono ?_; rintro e w3 ⟨rfl, hb3⟩; have BQ := Lib.hid (below_next BQ.out hb3); clear hb3))
      go_ret
      exact ⟨by simp, BQ.out⟩
  unfold BoolOut at HI ⊢
  generalize deskB k a b r l xs ys zs = res at *
  unfold dkA
  go_enter Try.func5, Try.ntmps5
  go_wp2_with fail
  generalize hW1 : World.alloc w _ = w1
  have k1 : DkAt w1 w.heap.size k a b r l A B C xs.length ys.length zs.length c1 c2 c3 := by rw [← hW1]; simp [DkAt, go_sem]
  have kf : ∀ o, w1.frozen? ⟨w.heap.size, o, none⟩ = false := fun o => by rw [← hW1]; simp [go_sem]
  have b1 : Below w.heap.size w w1 := by rw [← hW1]; exact below_al (Below.refl _ _) _
  clear hW1
  refine (HI.out _ _ b1 k1 kf).mono ?_
  rintro e w2 ⟨rfl, hb2⟩
  have B2 := Lib.hid (below_next b1 hb2)
  clear hb2 k1 kf b1
  go_wp2_with fail
  go_ret
  exact ⟨rfl, B2.out⟩
end Go.Proofs.Ythkejpgffkahaaa
