/-
  An even number below n, n at most 40: impl.BelowSeed, spec.l02Tried, l02Below: the first word that is not among the top ones.
-/
import Derived.Test.YtfkjnaaplhcheaaSg
import Derived.Test.YtfkjnaaplhcheaaVal
import Derived.RegionTactic
import Derived.BigRegion
import Derived.Deep.Cut
import Derived.Deep.DeepCutAuto
namespace Go.Proofs.Ytfkjnaaplhcheaa
open Go Go.RowKit Ieee SeedFact

def sd (k a b : Int) (m : Nat) : Int × Int := iter (nxt k) m (a, b)
def wd (k a b : Int) (m : Nat) : Int := nW k (sd k a b m).1 (sd k a b m).2
theorem sd_zero (k a b : Int) : sd k a b 0 = (a, b) := iter_zero _ _
theorem sd_succ (k a b : Int) (m : Nat) : sd k a b (m + 1) = (nA k (sd k a b m).1 (sd k a b m).2, nB k (sd k a b m).1 (sd k a b m).2) := by
  show iter (nxt k) (m + 1) (a, b) = nxt k (iter (nxt k) m (a, b))
  rw [show m + 1 = 1 + m by omega, S22.iter_at, iter_succ, iter_zero]
theorem sd_add (k a b : Int) (m q : Nat) : sd k (sd k a b q).1 (sd k a b q).2 m = sd k a b (m + q) := by
  show iter (nxt k) m (iter (nxt k) q (a, b)) = iter (nxt k) (m + q) (a, b)
  rw [S22.iter_at]
def mostW (n : Nat) : Int := ((4294967296 / n * n : Nat) : Int)
/-- which word is the first that is not too great -/
def jW (k a b : Int) (n : Nat) : Nat := ((List.range 64).find? fun m => decide (wd k a b m < mostW n)).getD 0
def sdOk (k a b : Int) : Prop := seedB k a b = true ∧ (0 ≤ a ∧ a < 18446744073709551616) ∧ (0 ≤ b ∧ b < 18446744073709551616)
theorem sdOk.next {k a b : Int} (h : sdOk k a b) : sdOk k (nA k a b) (nB k a b) := ⟨seed_next h.1 h.2.1 h.2.2, nA_range k a b, nB_range h.2.2⟩
theorem sdOk.at_ {k a b : Int} (h : sdOk k a b) : ∀ m, sdOk k (sd k a b m).1 (sd k a b m).2
  | 0 => h
  | m+1 => by
    rw [sd_succ]
    exact (h.at_ m).next
set_option maxRecDepth 100000 in
theorem rests : ∀ n, n < 41 → 1 ≤ n → 4294967296 - 22 ≤ 4294967296 / n * n := by decide +kernel
theorem jW_spec {k a b : Int} {n : Nat} (h : sdOk k a b) (h1 : 1 ≤ n) (h2 : n < 41) : jW k a b n < 64 ∧ wd k a b (jW k a b n) < mostW n ∧ ∀ q, q < jW k a b n → ¬ wd k a b q < mostW n := by
  have hr := rests n h2 h1
  cases hf : (List.range 64).find? (fun m => decide (wd k a b m < mostW n)) with
  | none =>
    exfalso
    refine seed_no h.1 h.2.1 h.2.2 (fun i hi => ?_)
    have h3 := List.find?_eq_none.mp hf i (List.mem_range.2 hi)
    have h4 : ¬ wd k a b i < mostW n := by simpa using h3
    have h5 : 4294967296 - 22 ≤ mostW n := by
      unfold mostW
      omega
    show 4294967296 - 22 ≤ wd k a b i
    omega
  | some j =>
    have e : jW k a b n = j := by unfold jW; rw [hf]; rfl
    rw [e]
    obtain ⟨h3, h4, h5⟩ := List.find?_range_eq_some.mp hf
    refine ⟨List.mem_range.1 h4, by simpa using h3, fun q hq => ?_⟩
    have := h5 q hq
    simpa using this
/-- the number -/
def xW (k a b : Int) (n : Nat) : Nat := (wd k a b (jW k a b n)).toNat % n
theorem wd_range (k a b : Int) (m : Nat) : 0 ≤ wd k a b m ∧ wd k a b m < 4294967296 := nW_range _ _ _
theorem xW_is (k a b : Int) (n : Nat) : ((xW k a b n : Nat) : Int) = wd k a b (jW k a b n) % n := by
  obtain ⟨y, hy⟩ := Int.eq_ofNat_of_zero_le (wd_range k a b (jW k a b n)).1
  unfold xW
  rw [hy]
  rfl
theorem xW_lt (k a b : Int) {n : Nat} (h : 1 ≤ n) : xW k a b n < n := Nat.mod_lt _ h
/-- the seed behind it -/
def sW (k a b : Int) (n : Nat) : Int × Int := sd k a b (jW k a b n + 1)
theorem sW_ok {k a b : Int} (n : Nat) (h : sdOk k a b) : sdOk k (sW k a b n).1 (sW k a b n).2 := h.at_ _

/-- the boxes of a seed and of a seed that is to be given -/
def Dx (g : Nat) (k a b : Int) (W : World) : Prop := SdAt W g k a b ∧ SdAt W (g + 1) 0 0 0
theorem Dx.keep {g : Nat} {k a b : Int} {W W' : World} (h : Dx g k a b W) (hb : Below W.heap.size W W') : Dx g k a b W' := ⟨h.1.keep hb, h.2.keep hb⟩
theorem Dx.lt {g : Nat} {k a b : Int} {W : World} (h : Dx g k a b W) : g + 1 < W.heap.size := lt_of_cell (a := ⟨g + 1, 0, none⟩) h.2.1
theorem Dx.set {g : Nat} {k a b : Int} {W : World} (h : Dx g k a b W) (k' a' b' : Int) : Dx g k' a' b' (((W.setCell ⟨g, 0, none⟩ (.int .i64 k')).setCell ⟨g, 1, none⟩ (.int .u64 a')).setCell ⟨g, 2, none⟩ (.int .u64 b')) := by
  have hg : W.grownBy (((W.setCell ⟨g, 0, none⟩ (.int .i64 k')).setCell ⟨g, 1, none⟩ (.int .u64 a')).setCell ⟨g, 2, none⟩ (.int .u64 b')) (some g) := grown_set (grown_set (grown_set (grown_refl W _) 0 _) 1 _) 2 _
  exact ⟨h.1.set k' a' b', h.2.far hg (by omega)⟩
def BelowOut (k a b : Int) (n : Nat) (w : World) (e : Ending) (w' : World) : Prop :=
  e = .returned (.tuple #[.agg #[.int .i64 k, .int .u64 (sW k a b n).1, .int .u64 (sW k a b n).2], .int .i64 (xW k a b n : Nat), .bool true]) ∧ Below w.heap.size w w'
theorem div_i64 (n : Nat) : wrap64 (4294967296 / (n : Int) * (n : Int)) = mostW n := by
  have h4 : 4294967296 / n * n ≤ 4294967296 := Nat.div_mul_le_self _ _
  have e : (4294967296 : Int) / (n : Int) * (n : Int) = mostW n := by
    unfold mostW
    rw [Int.natCast_mul, Int.natCast_ediv]
    rfl
  have h5 : 0 ≤ mostW n ∧ mostW n ≤ 4294967296 := by unfold mostW; omega
  rw [e]
  have w2 : IntKind.i64.wrap (mostW n) = mostW n := IntWalk.i64_in _ (by omega)
  rw [IntWalk.i64_left] at w2
  exact w2
set_option maxRecDepth 100000 in
set_option maxHeartbeats 6400000 in
theorem BelowSeed_any (k a b : Int) (n : Nat) (w : World) (h : sdOk k a b) (h1 : 1 ≤ n) (h2 : n < 41) :
    Calls Try.prog 96 #[.agg #[.int .i64 k, .int .u64 a, .int .u64 b], .int .i64 n] w (BelowOut k a b n w) := by
  have HV : Hid (∀ w, Calls Try.prog 18 #[.agg #[.int .i64 k, .int .u64 a, .int .u64 b]] w (fun e w' => e = .returned (.bool true) ∧ Below w.heap.size w w')) := Lib.hid fun w => by
    have h3 := ValidSeed_any k a b h.2.2 w
    rw [h.1] at h3
    exact h3
  have HN : Hid (∀ m w, Calls Try.prog 118 #[.agg #[.int .i64 k, .int .u64 (sd k a b m).1, .int .u64 (sd k a b m).2]] w (fun e w' => e = .returned (.tuple #[.agg #[.int .i64 k, .int .u64 (sd k a b (m+1)).1, .int .u64 (sd k a b (m+1)).2], .int .i64 (wd k a b m)]) ∧ Below w.heap.size w w')) := Lib.hid fun m w => by
    rw [sd_succ]
    exact next_any k _ _ (seedB_kind h.1) w
  obtain ⟨j0, j1, j2⟩ := jW_spec h h1 h2
  have d1 := div_i64 n
  have hx := xW_is k a b n
  have HW : Hid (∀ m, 0 ≤ wd k a b m ∧ wd k a b m < 4294967296) := Lib.hid fun m => wd_range k a b m
  have hOut : BelowOut k a b n w = fun e w' => e = .returned (.tuple #[.agg #[.int .i64 k, .int .u64 (sd k a b (jW k a b n + 1)).1, .int .u64 (sd k a b (jW k a b n + 1)).2], .int .i64 (xW k a b n : Nat), .bool true]) ∧ Below w.heap.size w w' := rfl
  rw [hOut]
  clear hOut
  have hs0 := sd_zero k a b
  generalize jW k a b n = j at *
  generalize xW k a b n = x at *
  generalize mostW n = most at *
  have HJ1 := Lib.hid j1
  have HJ2 := Lib.hid j2
  have HX := Lib.hid hx
  have HS0 := Lib.hid hs0
  have hin : inB (n : Int) 1 4294967296 = true := by unfold inB; exact decide_eq_true ⟨by omega, by omega⟩
  have HIN : Hid (∀ w, Calls Try.prog 55 #[.int .i64 (n : Int), .int .i64 1, .int .i64 4294967296] w (Quiet (.bool true) w)) := Lib.hid fun w => by
    have h3 := within_any (n : Int) 1 4294967296 w
    rw [hin] at h3
    exact h3
  clear hin j1 j2 hx hs0 h
  have hn0 : ((n : Int) == 0) = false := by simp; omega
  go_enter Try.func96, Try.ntmps96
  go_wp2_with fail
  generalize hW1 : World.alloc (World.alloc w _) _ = W1
  have hx1 : Dx w.heap.size k a b W1 := by rw [← hW1]; simp [Dx, SdAt, go_sem]
  have HB1 : Hid (Below w.heap.size w W1) := by rw [← hW1]; exact Lib.hid (below_al (below_al (Below.refl _ _) _) _)
  clear hW1
  have HX1 := Lib.hid hx1
  obtain ⟨⟨s0, s1, s2, sf⟩, ⟨z0, z1, z2, zf⟩⟩ := hx1
  refine (HV.out _).mono ?_
  rintro e w2 ⟨rfl, hb2⟩
  have HX2 := Lib.hid (HX1.out.keep hb2)
  have HB2 := Lib.hid (below_next HB1.out hb2)
  clear hb2 s0 s1 s2 sf z0 z1 z2 zf HX1 HB1
  go_wp2_with (go_at_call 55; refine (HIN.out _).mono ?_; rintro e w3 ⟨rfl, m3, rfl⟩)
  have HX3 : Hid (Dx w.heap.size k a b (w2.drewN m3)) := Lib.hid HX2.out
  have HB3 : Hid (Below w.heap.size w (w2.drewN m3)) := Lib.hid (below_dn HB2.out _)
  clear HX2 HB2
  generalize w2.drewN m3 = W3 at *
  go_loopw [7, 8, 18] (fun _ _ ct wr => ∃ m : Nat, m ≤ j ∧ ct = .int .i64 m ∧ Dx w.heap.size k (sd k a b m).1 (sd k a b m).2 wr ∧ Below w.heap.size w wr) (fun _ _ ct _ => 64 - (intOf ct).toNat)
  case atStart => exact ⟨0, by omega, rfl, by rw [HS0.out]; exact HX3.out, HB3.out⟩
  case round =>
    obtain ⟨m, hm, rfl, hx, hbw⟩ := hrel
    rename World => wr
    have HX' := Lib.hid hx
    have HB := Lib.hid hbw
    have hlt := HX'.out.lt
    obtain ⟨⟨s0, s1, s2, sf⟩, ⟨z0, z1, z2, zf⟩⟩ := hx
    clear hbw
    have hm64 : m < 64 := by omega
    have hw := HW.out m
    have HNm := Lib.hid (HN.out m)
    have hcase : m = j ∨ m < j := by omega
    rcases hcase with rfl | hlj
    · have hlw := HJ1.out
      have hxx := HX.out
      generalize hst' : sd k a b (m + 1) = st' at *
      generalize sd k a b m = st at *
      generalize wd k a b m = wv at *
      have HST := Lib.hid hst'
      clear hst'
      obtain ⟨aT, bT⟩ := st
      obtain ⟨a', b'⟩ := st'
      go_wp2_with (go_at_call 118; refine (HNm.out _).mono ?_; rintro e w6 ⟨rfl, hb6⟩; have HX6 := Lib.hid (HX'.out.keep hb6); have HB6 := Lib.hid (below_next HB.out hb6); clear hb6 s0 s1 s2 sf z0 z1 z2 zf; obtain ⟨⟨s0, s1, s2, sf⟩, ⟨z0, z1, z2, zf⟩⟩ := HX6.out; have hlt6 := HX6.out.lt; have hlt7 : w.heap.size < w6.heap.size := by omega)
      have hX7 := (HX6.out.set k a' b').keep (below_al (Below.refl _ _) (.cells #[.int .i64 k, .int .u64 a', .int .u64 b'] 37))
      have hB7 := below_al (below_set (below_set (below_set HB6.out ⟨w.heap.size, 0, none⟩ (.int .i64 k) (by simp)) ⟨w.heap.size, 1, none⟩ (.int .u64 a') (by simp)) ⟨w.heap.size, 2, none⟩ (.int .u64 b') (by simp)) (.cells #[.int .i64 k, .int .u64 a', .int .u64 b'] 37)
      generalize World.alloc (World.setCell (World.setCell (World.setCell _ _ _) _ _) _ _) _ = W7 at hX7 hB7 ⊢
      have HX7 := Lib.hid hX7
      have HB7 := Lib.hid hB7
      clear hB7 s0 s1 s2 sf z0 z1 z2 zf hlt6 hlt7 HX6 HB6
      obtain ⟨⟨s0, s1, s2, sf⟩, ⟨z0, z1, z2, zf⟩⟩ := hX7
      go_region
      have hX8 := (HX7.out.2.set k a' b').dr
      have hB8 := below_dn (below_set (below_set (below_set HB7.out ⟨w.heap.size + 1, 0, none⟩ (.int .i64 k) (by simp)) ⟨w.heap.size + 1, 1, none⟩ (.int .u64 a') (by simp)) ⟨w.heap.size + 1, 2, none⟩ (.int .u64 b') (by simp)) 1
      have hB9 : Below w.heap.size w (((W7.setCell ⟨w.heap.size + 1, 0, none⟩ (.int .i64 k)).setCell ⟨w.heap.size + 1, 1, none⟩ (.int .u64 a')).setCell ⟨w.heap.size + 1, 2, none⟩ (.int .u64 b')).drew := hB8
      clear hB8
      generalize World.drew (World.setCell (World.setCell (World.setCell _ _ _) _ _) _ _) = W8 at hX8 hB9 ⊢
      clear s0 s1 s2 sf z0 z1 z2 zf
      obtain ⟨y0, y1, y2, -⟩ := hX8
      go_wp2_with fail
      refine bodyPost_ret (v := .tuple #[.agg #[.int .i64 k, .int .u64 a', .int .u64 b'], .int .i64 (wv % (n : Int)), .bool true]) (by simp [results, Try.results96, go_sem, y0, y1, y2]) rfl ⟨by rw [hxx, HST.out], hB9⟩
    · have hlw := HJ2.out m hlj
      generalize hst' : sd k a b (m + 1) = st' at *
      generalize sd k a b m = st at *
      generalize wd k a b m = wv at *
      have HST := Lib.hid hst'
      clear hst'
      obtain ⟨aT, bT⟩ := st
      obtain ⟨a', b'⟩ := st'
      go_wp2_with (go_at_call 118; refine (HNm.out _).mono ?_; rintro e w6 ⟨rfl, hb6⟩; have HX6 := Lib.hid (HX'.out.keep hb6); have HB6 := Lib.hid (below_next HB.out hb6); clear hb6 s0 s1 s2 sf z0 z1 z2 zf; obtain ⟨⟨s0, s1, s2, sf⟩, ⟨z0, z1, z2, zf⟩⟩ := HX6.out; have hlt6 := HX6.out.lt; have hlt7 : w.heap.size < w6.heap.size := by omega)
      have hX7 := (HX6.out.set k a' b').keep (below_al (Below.refl _ _) (.cells #[.int .i64 k, .int .u64 a', .int .u64 b'] 37))
      have hB7 := below_al (below_set (below_set (below_set HB6.out ⟨w.heap.size, 0, none⟩ (.int .i64 k) (by simp)) ⟨w.heap.size, 1, none⟩ (.int .u64 a') (by simp)) ⟨w.heap.size, 2, none⟩ (.int .u64 b') (by simp)) (.cells #[.int .i64 k, .int .u64 a', .int .u64 b'] 37)
      exact ⟨⟨m + 1, hlj, rfl, by rw [HST.out]; exact hX7, hB7⟩, by simp [intOf]; omega⟩
end Go.Proofs.Ytfkjnaaplhcheaa
