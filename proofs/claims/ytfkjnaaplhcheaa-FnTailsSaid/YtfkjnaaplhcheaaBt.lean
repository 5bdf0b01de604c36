/-
  The reference's even number below n: spec.l02Tried, l02Below.
-/
import Derived.Test.YtfkjnaaplhcheaaBw
namespace Go.Proofs.Ytfkjnaaplhcheaa
open Go Go.RowKit Ieee SeedFact

def TriedOut (p : Nat) (k a b : Int) (n : Nat) (w : World) (e : Ending) (w' : World) : Prop :=
  e = .returned (.tuple #[.int .i64 (xW k a b n : Nat), .bool true]) ∧ SdTo p k (sW k a b n).1 (sW k a b n).2 w w'
theorem grown_tr {a b c : World} {r : Option Nat} (h1 : a.grownBy b r) (h2 : b.grownBy c r) : a.grownBy c r := h1.trans h2
set_option maxRecDepth 100000 in
set_option maxHeartbeats 6400000 in
theorem l02Tried_any (p : Nat) (k a b : Int) (n : Nat) (w : World) (h : sdOk k a b) (h1 : 1 ≤ n) (h2 : n < 41) (hp : SdAt w p k a b) :
    Calls Try.prog 116 #[.pointer (some ⟨p, 0, none⟩), .int .i64 n] w (TriedOut p k a b n w) := by
  have HN : Hid (∀ m w, SdAt w p k (sd k a b m).1 (sd k a b m).2 → Calls Try.prog 129 #[.pointer (some ⟨p, 0, none⟩)] w (fun e w' => e = .returned (.int .u32 (wd k a b m)) ∧ SdTo p k (sd k a b (m+1)).1 (sd k a b (m+1)).2 w w')) := Lib.hid fun m w hs => by
    rw [sd_succ]
    exact l02Next_any p k _ _ (seedB_kind h.1) w hs
  obtain ⟨j0, j1, j2⟩ := jW_spec h h1 h2
  have d1 := div_i64 n
  have hx := xW_is k a b n
  have HW : Hid (∀ m, 0 ≤ wd k a b m ∧ wd k a b m < 4294967296) := Lib.hid fun m => wd_range k a b m
  have hOut : TriedOut p k a b n w = fun e w' => e = .returned (.tuple #[.int .i64 (xW k a b n : Nat), .bool true]) ∧ SdTo p k (sd k a b (jW k a b n + 1)).1 (sd k a b (jW k a b n + 1)).2 w w' := rfl
  rw [hOut]
  clear hOut
  have hs0 := sd_zero k a b
  generalize jW k a b n = j at *
  generalize xW k a b n = x at *
  generalize mostW n = most at *
  have HJ1 := Lib.hid j1
  have HJ2 := Lib.hid j2
  have HX := Lib.hid hx
  have HS0 := Lib.hid hs0
  have HP := Lib.hid hp
  clear j1 j2 hx hs0 h hp
  have hn0 : ((n : Int) == 0) = false := by simp; omega
  go_enter Try.func116, Try.ntmps116
  go_wp2_with fail
  go_loopw [7, 8] (fun ct _ wr => ∃ m : Nat, m ≤ j ∧ ct = .int .i64 m ∧ SdAt wr p k (sd k a b m).1 (sd k a b m).2 ∧ w.grownBy wr (some p)) (fun ct _ _ => 64 - (intOf ct).toNat)
  case atStart => exact ⟨0, by omega, rfl, by rw [HS0.out]; exact HP.out, grown_refl w _⟩
  case round =>
    obtain ⟨m, hm, rfl, hx, hg⟩ := hrel
    rename World => wr
    have HG := Lib.hid hg
    have HNm := Lib.hid (HN.out m wr hx)
    clear hx hg
    have hm64 : m < 64 := by omega
    have hw := HW.out m
    have hcase : m = j ∨ m < j := by omega
    rcases hcase with rfl | hlj
    · have hlw := HJ1.out
      have hxx := HX.out
      generalize hst' : sd k a b (m + 1) = st' at *
      generalize wd k a b m = wv at *
      have HST := Lib.hid hst'
      clear hst'
      obtain ⟨a', b'⟩ := st'
      go_wp2_with (go_at_call 129; refine HNm.out.mono ?_; rintro e w6 ⟨rfl, hg6, hs6⟩; have HG6 := Lib.hid (HG.out.trans hg6); have HS6 := Lib.hid hs6; clear hg6 hs6)
      refine bodyPost_ret (v := .tuple #[.int .i64 (wv % (n : Int)), .bool true]) (by simp [results, Try.results116, go_sem]) rfl ⟨by rw [hxx], HG6.out, by rw [HST.out]; exact HS6.out⟩
    · have hlw := HJ2.out m hlj
      generalize wd k a b m = wv at *
      go_wp2_with (go_at_call 129; refine HNm.out.mono ?_; rintro e w6 ⟨rfl, hg6, hs6⟩; have HG6 := Lib.hid (HG.out.trans hg6); have HS6 := Lib.hid hs6; clear hg6 hs6)
      exact ⟨⟨m + 1, hlj, rfl, HS6.out, HG6.out⟩, by simp [intOf]; omega⟩
def SBelowOut (p : Nat) (k a b : Int) (n : Nat) (w : World) (e : Ending) (w' : World) : Prop :=
  e = .returned (.int .i64 (xW k a b n : Nat)) ∧ SdTo p k (sW k a b n).1 (sW k a b n).2 w w'
set_option maxHeartbeats 1600000 in
theorem l02Below_any (p : Nat) (k a b : Int) (n : Nat) (w : World) (h : sdOk k a b) (h1 : 1 ≤ n) (h2 : n < 41) (hp : SdAt w p k a b) :
    Calls Try.prog 87 #[.pointer (some ⟨p, 0, none⟩), .int .i64 n] w (SBelowOut p k a b n w) := by
  have HT := Lib.hid (l02Tried_any p k a b n w h h1 h2 hp)
  unfold TriedOut at HT
  unfold SBelowOut
  generalize xW k a b n = x at *
  generalize sW k a b n = s at *
  clear h hp
  go_enter Try.func87, Try.ntmps87
  go_wp2_with (go_at_call 116; refine HT.out.mono ?_; rintro e w6 ⟨rfl, hs⟩; have HS := Lib.hid hs; clear hs)
  go_ret
  exact ⟨rfl, HS.out⟩
end Go.Proofs.Ytfkjnaaplhcheaa
