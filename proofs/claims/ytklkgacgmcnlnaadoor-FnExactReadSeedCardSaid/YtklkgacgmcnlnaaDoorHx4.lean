/-
  Seeds as texts: impl.sixteen, spec.l08Seed.
-/
import Derived.Test.YtklkgacgmcnlnaaDoorHx3
import Derived.Test.YtklkgacgmcnlnaaDoorShelf
import Derived.Test.YtklkgacgmcnlnaaDoorSe3
import Derived.Deep.RegionHeld3
namespace Go.Proofs.YtklkgacgmcnlnaaDoor
open Go Go.RowKit

theorem rep_eq (c : Nat) : Lib.repeatL [48] c = List.replicate c 48 := by
  induction c with
  | zero => rfl
  | succ c ih => rw [Lib.repeatL, ih, List.replicate_succ]; rfl
theorem Repeat0 (z : Nat) (hz : z ≤ 15) (w : World) : Calls Tryd.prog 54 #[.string ⟨#[48]⟩, .int .i64 (z : Int)] w (StrOut (List.replicate z 48) w) := by
  match z, hz with
  | 0, _ => exact (Tryd.strings_Repeat_zero _ w).mono fun e w' ⟨he, hw⟩ => ⟨by rw [he]; rfl, by rw [hw]; exact Below.refl _ _⟩
  | 1, _ => exact (Tryd.strings_Repeat_one ⟨#[48]⟩ w).mono fun e w' ⟨he, hw⟩ => ⟨by rw [he]; rfl, by rw [hw]; exact Below.refl _ _⟩
  | z + 2, hz => exact (Tryd.strings_Repeat_main ⟨#[48]⟩ (z + 2) w (by omega) (by omega) (by show 1 * (z + 2) ≤ _; omega) (by decide)).mono fun e w' ⟨he, hw⟩ => ⟨by rw [he, ← rep_eq], hw⟩
def FmOut (x : Nat) (w : World) (e : Ending) (w' : World) : Prop := ∃ m, 1 ≤ m ∧ m ≤ 16 ∧ x < 16 ^ m ∧ e = .returned (.string ⟨(hexL x m).toArray⟩) ∧ Below w.heap.size w w'
theorem FormatUint0 (x : Nat) (hx : x < 18446744073709551616) (w : World) (hg : Bru w) : Calls Tryd.prog 85 #[.int .u64 x, .int .i64 16] w (FmOut x w) := by
  have H := Lib.hid (formatBits_16 x hx w hg)
  unfold FbOut at H
  unfold FmOut
  clear hg
  go_enter Tryd.func85, Tryd.ntmps85
  go_wp2_with fail
  refine H.out.mono ?_
  rintro e w1 ⟨m, h1, h2, h3, rfl, hb⟩
  have HH := Lib.hid (And.intro h1 (And.intro h2 (And.intro h3 hb)))
  clear h1 h2 h3 hb
  go_wp2_with fail
  go_ret
  exact ⟨m, HH.out.1, HH.out.2.1, HH.out.2.2.1, rfl, HH.out.2.2.2⟩
theorem FormatUint_16 (x : Nat) (hx : x < 18446744073709551616) (w : World) (hg : Bru w) : Calls Tryd.prog 53 #[.int .u64 x, .int .i64 16] w (FmOut x w) := by
  have H := Lib.hid (FormatUint0 x hx w hg)
  unfold FmOut at *
  clear hg
  go_enter Tryd.func53, Tryd.ntmps53
  go_wp2_with fail
  refine H.out.mono ?_
  rintro e w1 ⟨m, h1, h2, h3, rfl, hb⟩
  have HH := Lib.hid (And.intro h1 (And.intro h2 (And.intro h3 hb)))
  clear h1 h2 h3 hb
  go_wp2_with fail
  go_ret
  exact ⟨m, HH.out.1, HH.out.2.1, HH.out.2.2.1, rfl, HH.out.2.2.2⟩
theorem pad16 (x m : Nat) (hm : m ≤ 16) (hx : x < 16 ^ m) : (⟨(List.replicate (16 - m) 48).toArray⟩ : ByteArray) ++ ⟨(hexL x m).toArray⟩ = ⟨(hexL x 16).toArray⟩ := str_of (by
  rw [app_data]
  show List.replicate (16 - m) 48 ++ hexL x m = hexL x 16
  rw [← hexL_pad x m hx (16 - m), show m + (16 - m) = 16 by omega])
set_option maxHeartbeats 800000 in
theorem sixteen_any (x : Nat) (hx : x < 18446744073709551616) (w : World) (hg : Bru w) : Calls Tryd.prog 31 #[.int .u64 x] w (StrOut (hexL x 16) w) := by
  have H := Lib.hid (FormatUint_16 x hx w hg)
  unfold FmOut at H
  unfold StrOut
  clear hg
  go_enter Tryd.func31, Tryd.ntmps31
  go_wp2_with fail
  refine H.out.mono ?_
  rintro e w1 ⟨m, h1, h2, h3, rfl, hb⟩
  have HB := Lib.hid hb
  have HP := Lib.hid (pad16 x m h2 h3)
  have hsz : (⟨(hexL x m).toArray⟩ : ByteArray).size = m := by rw [Lib.size_eq]; exact hexL_len m x
  have hrs : (⟨(List.replicate (16 - m) 48).toArray⟩ : ByteArray).size = 16 - m := by rw [Lib.size_eq]; exact List.length_replicate
  have HR := Lib.hid (Repeat0 (16 - m) (by omega) w1)
  unfold StrOut at HR
  clear hb h3 H
  generalize (⟨(hexL x m).toArray⟩ : ByteArray) = o at *
  generalize (⟨(List.replicate (16 - m) 48).toArray⟩ : ByteArray) = r at *
  have hz : (16 : Int) - (o.size : Int) = ((16 - m : Nat) : Int) := by omega
  have hq : ¬ 9223372036854775807 < r.size + o.size := by omega
  clear hsz hrs
  generalize 16 - m = z at *
  go_wp2_with fail
  refine HR.out.mono ?_
  rintro e w2 ⟨rfl, hb2⟩
  have HB2 := Lib.hid (below_next HB.out hb2)
  clear hb2
  go_wp2_with fail
  go_ret
  exact ⟨by rw [← HP.out]; rfl, HB2.out⟩
/-- a seed lies in a block -/
def SdAt (w : World) (p : Nat) (k : Int) (a b : Nat) : Prop := w.cell? ⟨p, 0, none⟩ = some (.int .i64 k) ∧ w.cell? ⟨p, 1, none⟩ = some (.int .u64 a) ∧ w.cell? ⟨p, 2, none⟩ = some (.int .u64 b)
theorem SdAt.keep {w w' : World} {p : Nat} {k : Int} {a b : Nat} (h : SdAt w p k a b) (hb : Below w.heap.size w w') : SdAt w' p k a b := ⟨keepC hb h.1, keepC hb h.2.1, keepC hb h.2.2⟩
/-- the text of a seed -/
def seedL (k : Int) (a b : Nat) : List UInt8 := Lib.itoa k ++ [59] ++ hexL a 16 ++ [59] ++ hexL b 16
def seedS (k : Int) (a b : Nat) : ByteArray := if seedB k a b then ⟨(seedL k a b).toArray⟩ else ⟨#[]⟩
theorem seed_cat (k : Int) (a b : Nat) : ((((⟨(Lib.itoa k).toArray⟩ : ByteArray) ++ ⟨#[59]⟩) ++ ⟨(hexL a 16).toArray⟩) ++ ⟨#[59]⟩) ++ ⟨(hexL b 16).toArray⟩ = ⟨(seedL k a b).toArray⟩ := str_of (by simp only [app_data]; rfl)
set_option maxRecDepth 100000 in
set_option maxHeartbeats 3200000 in
theorem l08Seed_any (p : Nat) (k : Int) (a b : Nat) (w : World) (hk : -9223372036854775808 ≤ k ∧ k ≤ 9223372036854775807) (ha : a < 18446744073709551616) (hb : b < 18446744073709551616) (hp : SdAt w p k a b) :
    Calls Tryd.prog 28 #[.pointer (some ⟨p, 0, none⟩)] w (StrOut (seedL k a b) w) := by
  have HL := Lib.hid (seed_cat k a b)
  have HD := Lib.hid fun W => l01Dec_any k W hk.1 hk.2
  have HA := Lib.hid fun W => l08Hex_any a ha W
  have HB := Lib.hid fun W => l08Hex_any b hb W
  have hs1 : (⟨(Lib.itoa k).toArray⟩ : ByteArray).size ≤ 21 := by rw [Lib.size_eq]; exact (itoa_len hk).2
  have hs2 : (⟨(hexL a 16).toArray⟩ : ByteArray).size = 16 := by rw [Lib.size_eq]; exact hexL_len 16 a
  have hs3 : (⟨(hexL b 16).toArray⟩ : ByteArray).size = 16 := by rw [Lib.size_eq]; exact hexL_len 16 b
  have HM : Hid (∀ W, Below w.heap.size w W → W.cell? ⟨p, 0, none⟩ = some (.int .i64 k) ∧ W.cell? ⟨p, 1, none⟩ = some (.int .u64 a) ∧ W.cell? ⟨p, 2, none⟩ = some (.int .u64 b)) := Lib.hid fun W hW => hp.keep hW
  obtain ⟨p0, p1, p2⟩ := hp
  unfold DecOut at HD
  unfold StrOut at *
  generalize (⟨(Lib.itoa k).toArray⟩ : ByteArray) = o1 at *
  generalize (⟨(hexL a 16).toArray⟩ : ByteArray) = o2 at *
  generalize (⟨(hexL b 16).toArray⟩ : ByteArray) = o3 at *
  generalize (seedL k a b).toArray = T at *
  have q1 : ¬ 9223372036854775807 < o1.size + 1 := by omega
  have q2 : ¬ 9223372036854775807 < o1.size + 1 + o2.size := by omega
  have q3 : ¬ 9223372036854775807 < o1.size + 1 + o2.size + 1 := by omega
  have q4 : ¬ 9223372036854775807 < o1.size + 1 + o2.size + 1 + o3.size := by omega
  clear hs1 hs2 hs3 hk ha hb
  go_enter Tryd.func28, Tryd.ntmps28
  go_wp2_with fail
  go_region_held3 (fun W => W.cell? ⟨p, 0, none⟩ = some (.int .i64 k) ∧ W.cell? ⟨p, 1, none⟩ = some (.int .u64 a) ∧ W.cell? ⟨p, 2, none⟩ = some (.int .u64 b))
    (first | exact HM.out _ (by repeat (first | exact Below.refl _ _ | assumption | refine below_al ?_ _ | refine below_dr ?_)))
    (first
      | (go_at_call 51; (with_reducible refine (HB.out _).mono ?_); rintro e w5 ⟨rfl, hb5⟩; have bk5 : Below w.heap.size w w5 := below_next bk4 hb5; clear hb5)
      | (go_at_call 51; (with_reducible refine (HA.out _).mono ?_); rintro e w4 ⟨rfl, hb4⟩; have bk4 : Below w.heap.size w w4 := below_next bk3 hb4; clear hb4)
      | (go_at_call 50; refine (HD.out _).mono ?_; rintro e w3 ⟨rfl, hb3⟩; have bk3 : Below w.heap.size w w3 := below_next (below_dr (Below.refl _ _)) hb3; clear hb3))
  have HB5 := Lib.hid bk5
  clear bk3 bk4 bk5
  go_wp2_with fail
  go_ret
  exact ⟨by rw [← HL.out]; rfl, HB5.out⟩
def SxOut (k : Int) (a b : Nat) (w : World) (e : Ending) (w' : World) : Prop := e = .returned (.tuple #[.string (seedS k a b), .bool (seedB k a b)]) ∧ Below w.heap.size w w'
def sdV (k : Int) (a b : Nat) : Value := .agg #[.int .i64 k, .int .u64 a, .int .u64 b]
set_option maxHeartbeats 1600000 in
theorem specSeedText_any (k : Int) (a b : Nat) (w : World) (hk : -9223372036854775808 ≤ k ∧ k ≤ 9223372036854775807) (ha : a < 18446744073709551616) (hb : b < 18446744073709551616) :
    Calls Tryd.prog 8 #[sdV k a b] w (SxOut k a b w) := by
  have HR := Lib.hid fun p w (h : SdAt w p k a b) => l02Is_at p 0 k a b (by omega) w h
  have HS : Hid (seedS k a b = if seedB k a b then ⟨(seedL k a b).toArray⟩ else ⟨#[]⟩) := Lib.hid rfl
  have HL := Lib.hid fun p w h => l08Seed_any p k a b w hk ha hb h
  unfold sdV SxOut
  unfold StrOut at HL
  generalize seedL k a b = L at *
  generalize seedS k a b = S at *
  generalize seedB k a b = R at *
  cases R with
  | false =>
    have hS : S = ⟨#[]⟩ := HS.out
    subst hS
    go_enter Tryd.func8, Tryd.ntmps8
    go_wp2_with fail
    generalize hW1 : World.alloc w _ = W1
    have B1 : Below w.heap.size w W1 := by rw [← hW1]; exact below_al (Below.refl _ _) _
    have k1 : SdAt W1 w.heap.size k a b := by rw [← hW1]; simp [SdAt, go_sem]
    have HB1 := Lib.hid B1
    clear hW1 B1
    refine (HR.out _ _ k1).mono ?_
    rintro e w2 ⟨rfl, rfl⟩
    clear k1
    go_wp2_with fail
    go_ret2
    exact ⟨rfl, HB1.out⟩
  | true =>
    have hS : S = ⟨L.toArray⟩ := HS.out
    subst hS
    go_enter Tryd.func8, Tryd.ntmps8
    go_wp2_with fail
    generalize hW1 : World.alloc w _ = W1
    have B1 : Below w.heap.size w W1 := by rw [← hW1]; exact below_al (Below.refl _ _) _
    have k1 : SdAt W1 w.heap.size k a b := by rw [← hW1]; simp [SdAt, go_sem]
    have HB1 := Lib.hid B1
    have K1 := Lib.hid k1
    clear hW1 B1
    refine (HR.out _ _ k1).mono ?_
    rintro e w2 ⟨rfl, rfl⟩
    clear k1
    go_wp2_with fail
    refine (HL.out _ _ K1.out).mono ?_
    rintro e w3 ⟨rfl, hb3⟩
    have B3 := Lib.hid (below_next HB1.out hb3)
    clear hb3
    go_wp2_with fail
    go_ret2
    exact ⟨rfl, B3.out⟩
theorem seedB_k {k a b : Int} (h : seedB k a b = true) : -9223372036854775808 ≤ k ∧ k ≤ 9223372036854775807 := by
  have := seedB_kind h
  omega
set_option maxRecDepth 100000 in
set_option maxHeartbeats 3200000 in
theorem SeedText_any (k : Int) (a b : Nat) (w : World) (hk : -9223372036854775808 ≤ k ∧ k ≤ 9223372036854775807) (ha : a < 18446744073709551616) (hb : b < 18446744073709551616) (ht : Tab w) (hg : Bru w) :
    Calls Tryd.prog 10 #[sdV k a b] w (SxOut k a b w) := by
  have HR := Lib.hid fun w => ValidSeed_any k a b (by omega) w
  have HS : Hid (seedS k a b = if seedB k a b then ⟨(seedL k a b).toArray⟩ else ⟨#[]⟩) := Lib.hid rfl
  have HL := Lib.hid (seed_cat k a b)
  have HD := Lib.hid fun W (h : Tab W) => Tryd.strconv_FormatInt_10 k hk.1 hk.2 W h
  have HA := Lib.hid fun W h => sixteen_any a ha W h
  have HB := Lib.hid fun W h => sixteen_any b hb W h
  have HTB := Lib.hid ht
  have HG := Lib.hid hg
  have hs1 : (⟨(Lib.itoa k).toArray⟩ : ByteArray).size ≤ 21 := by rw [Lib.size_eq]; exact (itoa_len hk).2
  have hs2 : (⟨(hexL a 16).toArray⟩ : ByteArray).size = 16 := by rw [Lib.size_eq]; exact hexL_len 16 a
  have hs3 : (⟨(hexL b 16).toArray⟩ : ByteArray).size = 16 := by rw [Lib.size_eq]; exact hexL_len 16 b
  unfold sdV SxOut
  unfold StrOut at HA HB
  generalize (⟨(Lib.itoa k).toArray⟩ : ByteArray) = o1 at *
  generalize (⟨(hexL a 16).toArray⟩ : ByteArray) = o2 at *
  generalize (⟨(hexL b 16).toArray⟩ : ByteArray) = o3 at *
  generalize (seedL k a b).toArray = T at *
  generalize seedS k a b = S at *
  generalize seedB k a b = R at *
  have q1 : ¬ 9223372036854775807 < o1.size + 1 := by omega
  have q2 : ¬ 9223372036854775807 < o1.size + 1 + o2.size := by omega
  have q3 : ¬ 9223372036854775807 < o1.size + 1 + o2.size + 1 := by omega
  have q4 : ¬ 9223372036854775807 < o1.size + 1 + o2.size + 1 + o3.size := by omega
  clear hs1 hs2 hs3 hk ha hb ht hg
  cases R with
  | false =>
    have hS : S = ⟨#[]⟩ := HS.out
    subst hS
    go_enter Tryd.func10, Tryd.ntmps10
    go_wp2_with fail
    generalize hW1 : World.alloc w _ = W1
    have B1 : Below w.heap.size w W1 := by rw [← hW1]; exact below_al (Below.refl _ _) _
    clear hW1
    refine (HR.out _).mono ?_
    rintro e w2 ⟨rfl, hb2⟩
    have B2 := Lib.hid (below_next B1 hb2)
    clear hb2
    go_wp2_with fail
    go_ret2
    exact ⟨rfl, B2.out⟩
  | true =>
    have hS : S = ⟨T⟩ := HS.out
    subst hS
    go_enter Tryd.func10, Tryd.ntmps10
    go_wp2_with fail
    generalize hW1 : World.alloc w _ = W1
    have B1 : Below w.heap.size w W1 := by rw [← hW1]; exact below_al (Below.refl _ _) _
    have k1 : SdAt W1 w.heap.size k a b := by rw [← hW1]; simp [SdAt, go_sem]
    clear hW1
    refine (HR.out _).mono ?_
    rintro e w2 ⟨rfl, hb2⟩
    have k2 := k1.keep hb2
    have K2 := Lib.hid k2
    have B2 := Lib.hid (below_next B1 hb2)
    clear hb2 B1 k1
    have HM : Hid (∀ W, Below w2.heap.size w2 W → W.cell? ⟨w.heap.size, 0, none⟩ = some (.int .i64 k) ∧ W.cell? ⟨w.heap.size, 1, none⟩ = some (.int .u64 a) ∧ W.cell? ⟨w.heap.size, 2, none⟩ = some (.int .u64 b)) := Lib.hid fun W hW => K2.out.keep hW
    obtain ⟨p0, p1, p2⟩ := k2
    go_wp2_with fail
    go_region_held3 (fun W => W.cell? ⟨w.heap.size, 0, none⟩ = some (.int .i64 k) ∧ W.cell? ⟨w.heap.size, 1, none⟩ = some (.int .u64 a) ∧ W.cell? ⟨w.heap.size, 2, none⟩ = some (.int .u64 b))
      (first | exact HM.out _ (by repeat (first | exact Below.refl _ _ | assumption | refine below_al ?_ _ | refine below_dr ?_)))
      (first
        | (go_at_call 31; (with_reducible refine (HB.out _ (HG.out.keep (below_next B2.out bk4))).mono ?_); rintro e w5 ⟨rfl, hb5⟩; have bk5 : Below w2.heap.size w2 w5 := below_next bk4 hb5; clear hb5)
        | (go_at_call 31; (with_reducible refine (HA.out _ (HG.out.keep (below_next B2.out bk3))).mono ?_); rintro e w4 ⟨rfl, hb4⟩; have bk4 : Below w2.heap.size w2 w4 := below_next bk3 hb4; clear hb4)
        | (go_at_call 30; refine (HD.out _ (HTB.out.keep (below_dr B2.out))).mono ?_; rintro e w3 ⟨rfl, m, os, hw3⟩; have bk3 : Below w2.heap.size w2 w3 := (by rw [hw3]; exact below_next (below_dr (Below.refl _ _)) (grow_below m os)); clear hw3))
    have HB5 := Lib.hid (below_next B2.out bk5)
    clear bk3 bk4 bk5
    go_wp2_with fail
    go_ret2
    exact ⟨by rw [← HL.out]; rfl, HB5.out⟩
end Go.Proofs.YtklkgacgmcnlnaaDoor
