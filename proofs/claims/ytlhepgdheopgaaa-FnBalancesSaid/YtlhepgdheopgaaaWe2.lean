/-
  impl.WeighChain: the closure for all steps.
-/
import Derived.Test.YtlhepgdheopgaaaWe1
namespace Go.Proofs.Ytlhepgdheopgaaa
open Go Go.RowKit Ieee

theorem not_false_of {b : Bool} (h : (!b) = false) : b = true := by cases b <;> simp_all
theorem not_true_of {b : Bool} (h : (!b) = true) : b = false := by cases b <;> simp_all

set_option maxRecDepth 100000 in
set_option maxHeartbeats 3200000 in
theorem weighClo (n i k b0 b1 b3 : Nat) (A : Option Addr) (xs : List Nat) (c : Nat) (B : Option Addr) (ws : List Nat) (d : Nat) (w : World) (hn2 : n ≤ 12) (hi : i < n) (hk : k < n) (hl : xs.length = n * n) (hp : xs.all partB = true) (hrl : ws.length = n) (hr : ws.all leastB = true) (ha : ws.all aboveB = true)
    (h0 : w.cell? ⟨b0, 0, none⟩ = some (.slice B ws.length d)) (h1 : w.cell? ⟨b1, 0, none⟩ = some (.int .i64 n)) (h2 : w.cell? ⟨b1, 1, none⟩ = some (.slice A xs.length c)) (h3 : w.cell? ⟨b3, 0, none⟩ = some (.func (.func 34) #[] #[.pointer (some ⟨b1, 0, none⟩), .pointer (some ⟨b0, 0, none⟩)])) (h : Rd w w.heap.size A (fl xs)) (h' : Rd w w.heap.size B (fl ws)) :
    Calls Try.prog 38 #[.int .i64 i, .int .i64 k, .pointer (some ⟨b3, 0, none⟩), .pointer (some ⟨b1, 0, none⟩)] w (fun e w' => ∃ v, e = .returned (.float .f32 v) ∧ weighV xs ws n i k v ∧ Below w.heap.size w w') := by
  have HO : Hid (∀ W j, j < n → Below w.heap.size w W → Calls Try.prog 34 #[.int .i64 i, .int .i64 j, .pointer (some ⟨b1, 0, none⟩), .pointer (some ⟨b0, 0, none⟩)] W (fun e w' => ∃ v, e = .returned (.float .f32 v) ∧ offV xs ws n i j v ∧ Below W.heap.size W w')) := Lib.hid fun W j hj hW => offClo n i j b0 b1 A xs c B ws d W hn2 hi hj hl hp hrl hr ha (keepC hW h0) (keepC hW h1) (keepC hW h2) (h.at_ hW) (h'.at_ hW)
  by_cases hik : i = k
  · subst hik
    have HV : Hid (∀ v, (noNan xs ws n → v = diagF xs ws n i) → weighV xs ws n i i v) := Lib.hid fun v hv => by unfold weighV; rw [if_pos rfl]; exact hv
    have HS0 : Hid (noNan xs ws n → 0 = sumF xs ws n i 0) := Lib.hid fun _ => rfl
    have HSK : Hid (noNan xs ws n → sumF xs ws n i (i + 1) = sumF xs ws n i i) := Lib.hid fun _ => if_pos rfl
    have HST : Hid (∀ j o, noNan xs ws n → j < n → j ≠ i → offV xs ws n i j o → floatBits .add .f32 (sumF xs ws n i j) o = some (sumF xs ws n i (j + 1))) := Lib.hid fun j o hN hj hji ho => by
      rw [offV_eq hN hi hj (fun h => hji h.symm) ho]
      exact sum_step hn2 hl hp hrl hr ha hN hi hj hji
    have HRE : Hid (∀ s r, noNan xs ws n → s = sumF xs ws n i n → (∀ v, floatBits .sub .f32 1065353216 s = some v → r = v) → ((FloatKind.f32.format.order r 0 == some .lt) = true → 0 = diagF xs ws n i) ∧ ((FloatKind.f32.format.order r 0 == some .lt) = false → r = diagF xs ws n i)) := Lib.hid fun s r hN hs hv => by
      obtain ⟨g1, g2⟩ := rest_run hn2 hl hp hrl hr ha hN hi
      rw [← hs] at g1
      obtain rfl := hv _ g1
      rw [g2]
      unfold diagF
      constructor
      · intro h
        rw [if_pos (of_decide_eq_true h)]
      · intro h
        rw [if_neg (of_decide_eq_false h)]
    clear h h' h0 h2 hl hp hrl hr ha
    generalize noNan xs ws n = NN at *
    generalize sumF xs ws n i = sf at *
    generalize diagF xs ws n i = df at *
    generalize offV xs ws n i = ov at *
    generalize weighV xs ws n i i = wv at *
    go_enter Try.func38, Try.ntmps38
    go_wp2_with fail
    go_loopw [7, 19] (fun v j wr => ∃ (q s : Nat), q ≤ n ∧ j = .int .i64 q ∧ v = .float .f32 s ∧ (NN → s = sf q) ∧ Below w.heap.size w wr) (fun _ j _ => n - (intOf j).toNat)
    case atStart => exact ⟨0, 0, Nat.zero_le _, rfl, rfl, HS0.out, Below.refl _ _⟩
    case round =>
      obtain ⟨q, s, hq, rfl, rfl, hs, hbw⟩ := hrel
      rename World => wr
      have g1 : wr.cell? ⟨b1, 0, none⟩ = some (.int .i64 n) := keepC hbw h1
      have g3 : wr.cell? ⟨b3, 0, none⟩ = some (.func (.func 34) #[] #[.pointer (some ⟨b1, 0, none⟩), .pointer (some ⟨b0, 0, none⟩)]) := keepC hbw h3
      have HS := Lib.hid hs
      have HBW := Lib.hid hbw
      clear hs hbw
      by_cases hqt : q < n
      · by_cases hqi : q = i
        · subst hqi
          go_wp2_with fail
          go_roundw
          case rel => exact ⟨q + 1, s, by omega, by go_num, rfl, fun hN => by rw [HSK.out hN]; exact HS.out hN, HBW.out⟩
          case measure => simp [intOf]; omega
        · have hne : ((q : Int) == (i : Int)) = false := by rw [Bool.eq_false_iff, ne_eq, beq_iff_eq]; omega
          have HC := Lib.hid (HO.out wr q hqt HBW.out)
          go_wp2_with (first
            | (go_at_call 34; refine (HC.out).mono ?_; rintro e w3 ⟨o, rfl, ho, hb3⟩; have HOV := Lib.hid ho; have HB3 := Lib.hid hb3; clear ho hb3)
            | (refine wpList_float_any _ rfl .add (by simp) _ _ _ _ rfl .f32 s _ (by rfl) (by rfl) ?_; intro r1 m1 hr1; have HR1 := Lib.hid hr1; clear hr1))
          go_roundw
          case rel => exact ⟨q + 1, _, by omega, by go_num, rfl, fun hN => HR1.out _ (by rw [HS.out hN]; exact HST.out q _ hN hqt hqi HOV.out), below_drewN (below_next HBW.out HB3.out) _⟩
          case measure => simp [intOf]; omega
      · obtain rfl : q = n := by omega
        have HB0 := Lib.hid h1
        clear g1 g3
        go_wp2_with (refine wpList_float_any _ rfl .sub (by simp) _ _ _ _ rfl .f32 1065353216 s (by rfl) (by rfl) ?_; intro r1 m1 hr1; have HR1 := Lib.hid hr1; clear hr1)
        all_goals
          go_ret
          refine ⟨_, rfl, HV.out _ fun hN => ?_, below_drewN HBW.out _⟩
          have hg := HRE.out s r1 hN (HS.out hN) HR1.out
          first
            | exact hg.1 (not_false_of (by assumption))
            | exact hg.2 (not_true_of (by assumption))
  · have HV : Hid (∀ v, offV xs ws n i k v → weighV xs ws n i k v) := Lib.hid fun v hv => by unfold weighV; rw [if_neg hik]; exact hv
    have hne : ((i : Int) == (k : Int)) = false := by rw [Bool.eq_false_iff, ne_eq, beq_iff_eq]; omega
    have HC := Lib.hid (HO.out w k hk (Below.refl _ _))
    clear h h' h0 h1 h2 hl hp hrl hr ha HO
    go_enter Try.func38, Try.ntmps38
    go_wp2_with (go_at_call 34; refine (HC.out).mono ?_; rintro e w3 ⟨v, rfl, hv, hb3⟩; have HVV := Lib.hid hv; clear hv)
    go_ret
    exact ⟨_, rfl, HV.out _ HVV.out, hb3⟩
end Go.Proofs.Ytlhepgdheopgaaa

