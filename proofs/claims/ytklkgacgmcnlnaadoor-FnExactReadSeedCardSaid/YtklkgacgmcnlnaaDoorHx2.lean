/-
  Numbers in base 16: internal/strconv.formatBits, strconv.FormatUint at base 16.
-/
import Derived.Test.YtklkgacgmcnlnaaDoorHx1
import Derived.Test.YtklkgacgmcnlnaaDoorTb2
import Derived.Laws.BitsAllLaws
import Derived.Lib.ItoaWalk
namespace Go.Proofs.YtklkgacgmcnlnaaDoor
open Go Go.RowKit

def dig36 : ByteArray := ⟨#[48, 49, 50, 51, 52, 53, 54, 55, 56, 57, 97, 98, 99, 100, 101, 102, 103, 104, 105, 106, 107, 108, 109, 110, 111, 112, 113, 114, 115, 116, 117, 118, 119, 120, 121, 122]⟩
theorem dig36_get : ∀ d : Fin 16, dig36.data.toList[d.val]? = some (hexD d.val) := by decide
theorem run_dig36 (t : TypeId) (ht : Tryd.prog.underlying t = some .string) (k : IntKind) (d : Nat) (hd : d < 16) (w : World) :
    (Instr.index t (.string dig36) (.int k (d : Int))).run Tryd.prog w = .ok (.int .u8 ((hexD d).toNat : Int)) w := by
  have hs : dig36.size = 36 := rfl
  rw [run_index_string w t dig36 k _ ht, dif_pos ⟨by omega, by rw [hs]; omega⟩]
  have e : ((d : Int)).toNat = d := by omega
  simp only [e]
  have h := dig36_get ⟨d, hd⟩
  have h2 : dig36.data.toList[d]? = some dig36[d] := by
    rw [List.getElem?_eq_getElem (by rw [← Lib.size_eq]; omega)]
    rfl
  dsimp only at h
  rw [h2] at h
  rw [Option.some.inj h]
theorem and15 (y : Nat) (hy : y < 18446744073709551616) : bits .and .u64 (y : Int) 15 = ((y % 16 : Nat) : Int) := by
  rw [show (15 : Int) = ((15 : Nat) : Int) from rfl, u64_and_nat y 15 hy (by decide), nat_mask4]
/-- the cell of the table that 16 asks for -/
def Bru (w : World) : Prop := w.cell? ⟨5, 15, none⟩ = some (.int .u8 4)
theorem Bru.keep {w w' : World} (h : Bru w) (hb : Below w.heap.size w w') : Bru w' := keepC hb h
theorem pow_16 (w : World) : Calls Tryd.prog 111 #[.int .i64 16] w (fun e w' => e = .returned (.bool true) ∧ w = w') := by
  have k1 : bits BinOp.and IntKind.i64 16 15 = 0 := by decide
  go_enter Tryd.func111, Tryd.ntmps111
  go_wp2
  go_ret
  exact ⟨rfl, rfl⟩
theorem tz64_16 (w : World) (h : Bru w) : Calls Tryd.prog 131 #[.int .u64 16] w (fun e w' => e = .returned (.int .i64 4) ∧ w = w') := by
  have key : IntKind.u64.wrap (bits BinOp.and IntKind.u64 16 (IntKind.u64.wrap (-16)) * 285870213051353865) / 288230376151711744 = 15 := by decide
  unfold Bru at h
  go_enter Tryd.func131, Tryd.ntmps131
  go_wp2_with (simp only [key])
  go_ret
  exact ⟨rfl, rfl⟩
theorem tz_16 (w : World) (h : Bru w) : Calls Tryd.prog 112 #[.int .u64 16] w (fun e w' => e = .returned (.int .i64 4) ∧ w = w') := by
  have H := Lib.hid fun w h => tz64_16 w h
  have HB := Lib.hid h
  clear h
  go_enter Tryd.func112, Tryd.ntmps112
  go_wp2_with (go_at_call 131; refine (H.out _ HB.out).mono ?_; rintro e w1 ⟨rfl, rfl⟩)
  go_ret
  exact ⟨rfl, rfl⟩
/-- the byte at a place, j digits written -/
def hexC (x j p : Nat) : Nat := if 65 - j ≤ p then ((hexL x j).getD (p - (65 - j)) 0).toNat else 0
theorem hexC_zero (x p : Nat) (h : p < 65) : hexC x 0 p = 0 := by unfold hexC; rw [if_neg (by omega)]
theorem hexC_set (x j p : Nat) (hj : j < 65) (hp : p < 65) : hexC x (j + 1) p = if p = 64 - j then (hexD (x / 16 ^ j % 16)).toNat else hexC x j p := by
  unfold hexC
  rw [hexL_cons]
  by_cases h : p = 64 - j
  · rw [if_pos (by omega), if_pos h, show p - (65 - (j + 1)) = 0 by omega]
    rfl
  · rw [if_neg h]
    by_cases h2 : 65 - j ≤ p
    · rw [if_pos h2, if_pos (by omega), show p - (65 - (j + 1)) = (p - (65 - j)) + 1 by omega]
      rfl
    · rw [if_neg h2, if_neg (by omega)]
theorem hexC_at (x m : Nat) (_hm : m ≤ 65) (i : Nat) (hi : i < (hexL x m).length) : hexC x m (65 - m + i) = ((hexL x m)[i]).toNat := by
  unfold hexC
  rw [if_pos (by omega), show 65 - m + i - (65 - m) = i by omega, List.getD_eq_getElem?_getD, List.getElem?_eq_getElem hi]
  rfl
/-- the array: j digits written; nothing that was is changed -/
def FB (w : World) (x j : Nat) (wr : World) : Prop := Below w.heap.size w wr ∧ ∀ p, p < 65 → wr.cell? ⟨w.heap.size, p, none⟩ = some (.int .u8 (hexC x j p : Nat)) ∧ wr.frozen? ⟨w.heap.size, p, none⟩ = false
theorem FB.step {w wr : World} {x j : Nat} (h : FB w x j wr) (hj : j < 65) (i : Nat) (hi : i + j = 64) (v : Int) (hv : v = ((hexD (x / 16 ^ j % 16)).toNat : Int)) : FB w x (j + 1) (wr.setCell ⟨w.heap.size, i, none⟩ (.int .u8 v)) := by
  refine ⟨below_set h.1 _ _ (Nat.le_refl _), fun p hp => ⟨?_, ?_⟩⟩
  · rw [hexC_set x j p hj hp]
    by_cases e : p = i
    · subst e
      rw [if_pos (by omega), ← hv]
      exact World.cell?_setCell_same _ _ _ (h.2 p hp).1
    · rw [if_neg (by omega), World.cell?_setCell_other _ _ _ _ (by first | (simp; done) | (simp; exact e) | (simp; exact fun h => e h.symm))]
      exact (h.2 p hp).1
  · simp [go_sem, (h.2 p hp).2]
def FbOut (x : Nat) (w : World) (e : Ending) (w' : World) : Prop := ∃ m, 1 ≤ m ∧ m ≤ 16 ∧ x < 16 ^ m ∧ e = .returned (.tuple #[.slice none 0 0, .string ⟨(hexL x m).toArray⟩]) ∧ Below w.heap.size w w'
set_option maxRecDepth 100000 in
set_option maxHeartbeats 3200000 in
theorem formatBits_16 (x : Nat) (hx : x < 18446744073709551616) (w : World) (hg : Bru w) :
    Calls Tryd.prog 84 #[.slice none 0 0, .int .u64 x, .int .i64 16, .bool false, .bool false] w (FbOut x w) := by
  have HP := Lib.hid fun w => pow_16 w
  have HT := Lib.hid fun w h => tz_16 w h
  have HG := Lib.hid hg
  have HX := Lib.hid hx
  have HD : Hid (∀ j, x / 16 ^ j / 16 = x / 16 ^ (j + 1)) := Lib.hid fun j => by rw [Nat.div_div_eq_div_mul, Nat.pow_succ]
  have HL : Hid (∀ j, x / 16 ^ j < 18446744073709551616) := Lib.hid fun j => Nat.lt_of_le_of_lt (Nat.div_le_self _ _) hx
  have HS : Hid (∀ j, 15 ≤ j → x / 16 ^ j < 16) := Lib.hid fun j hj => by
    have h1 : 16 ^ 15 ≤ 16 ^ j := Nat.pow_le_pow_right (by decide) hj
    have h2 : x / 16 ^ j ≤ x / 16 ^ 15 := Nat.div_le_div_left h1 (by decide)
    omega
  unfold FbOut
  clear hg hx
  go_enter Tryd.func84, Tryd.ntmps84
  go_name_bytes PM hPM
  go_name_bytes SM hSM
  have eSM : SM = dig36 := by rw [← hSM]; rfl
  subst eSM
  clear hSM
  go_wp2_with fail
  refine (HP.out _).mono ?_
  rintro e w1 ⟨rfl, rfl⟩
  go_wp2_with fail
  generalize hW1 : World.alloc w _ = W1
  have F1 : FB w x 0 W1 := by
    rw [← hW1]
    refine ⟨below_al (Below.refl _ _) _, fun p hp => ?_⟩
    rw [hexC_zero x p hp]
    refine ⟨?_, by simp [go_sem]⟩
    rw [World.cell?_alloc_mark]
    have hz : Tryd.zeroCells130 = Array.replicate 65 (.int .u8 0) := by kernel_rfl
    rw [hz]
    simp [hp]
  have HF1 := Lib.hid F1
  clear hW1 F1
  refine (HT.out _ (HG.out.keep HF1.out.1)).mono ?_
  rintro e w2 ⟨rfl, rfl⟩
  go_wp2_with fail
  go_loopw [1, 13] (fun uv iv wr => ∃ j i : Nat, j ≤ 15 ∧ i + j = 65 ∧ uv = .int .u64 (x / 16 ^ j : Nat) ∧ iv = .int .i64 i ∧ FB w x j wr) (fun uv _ _ => (intOf uv).toNat)
  case atStart => exact ⟨0, 65, by omega, rfl, by rw [Nat.pow_zero, Nat.div_one], rfl, HF1.out⟩
  case round =>
    obtain ⟨j, i, hj, hij, rfl, rfl, hf⟩ := hrel
    rename World => wr
    have HF := Lib.hid hf
    clear hf
    obtain ⟨i', rfl⟩ : ∃ i', i = i' + 1 := ⟨i - 1, by omega⟩
    obtain ⟨hc, hfz⟩ := HF.out.2 i' (by omega)
    have hy := HL.out j
    have HDj := Lib.hid (HD.out j)
    have HSj := Lib.hid (HS.out j)
    have HIJ := Lib.hid hij
    have hi64 : i' ≤ 64 := by omega
    have HST := Lib.hid fun v (hv : v = ((hexD (x / 16 ^ j % 16)).toNat : Int)) => HF.out.step (by omega) i' (by omega) v hv
    generalize hexC x j i' = old at *
    clear hij HL HD HS
    by_cases h16 : 16 ≤ x / 16 ^ j
    · have hj14 : j + 1 ≤ 15 := by
        rcases Nat.lt_or_ge j 15 with h | h
        · omega
        · have := HSj.out h; omega
      generalize x / 16 ^ j = y at *
      have hand := and15 y hy
      have hd : y % 16 < 16 := Nat.mod_lt _ (by decide)
      have hX := fun w => run_dig36 9 Tryd.underlying9 .u64 (y % 16) hd w
      generalize y % 16 = d at *
      go_wp2_with fail
      go_roundw
      case rel => exact ⟨j + 1, i', by omega, by have := HIJ.out; omega, by rw [← HDj.out, Int.natCast_ediv]; rfl, rfl, HST.out _ rfl⟩
      case measure => simp [intOf]; omega
    · have hy16 : x / 16 ^ j < 16 := by omega
      have hmod : x / 16 ^ j % 16 = x / 16 ^ j := Nat.mod_eq_of_lt hy16
      rw [hmod] at HST
      have HX16 : Hid (x < 16 ^ (j + 1)) := Lib.hid (by
        rw [Nat.pow_succ]
        have h1 : 0 < 16 ^ j := Nat.pow_pos (by decide)
        have h2 := Nat.div_add_mod x (16 ^ j)
        have h3 := Nat.mod_lt x h1
        have h4 : 16 ^ j * (x / 16 ^ j) ≤ 16 ^ j * 15 := Nat.mul_le_mul_left _ (by omega)
        omega)
      have hX := fun w => run_dig36 9 Tryd.underlying9 .u64 (x / 16 ^ j) hy16 w
      have HW' := HST.out _ rfl
      have hal : Tryd.prog.arrayLen 130 = 65 := by simp [Program.arrayLen, Tryd.underlying130]
      have hij2 := HIJ.out
      have hsl : ∀ W, (Instr.sliceAt 130 (.pointer (some ⟨w.heap.size, 0, none⟩)) (some (.int .i64 (i' : Int))) none none).run Tryd.prog W = .ok (.slice (some ⟨w.heap.size, i', none⟩) (j + 1) (j + 1)) W := fun W => by
        rw [run_sliceAt_array_l W 130 ⟨w.heap.size, 0, none⟩ (by simp [Program.arrayLen, Program.elem, Tryd.underlying130]) .i64 (i' : Int) (by omega) (by rw [hal]; omega)]
        rw [hal]
        go_simp
        omega
      have hcv := run_convert_bytes_back (P := Tryd.prog) (wr.setCell ⟨w.heap.size, i', none⟩ (.int .u8 ((hexD (x / 16 ^ j)).toNat : Int))) 89 9 5 ⟨w.heap.size, i', none⟩ (j + 1) (hexL x (j + 1)) Tryd.underlying89 Tryd.underlying5 Tryd.underlying9 (fun q hq => by
        have hq' : q < j + 1 := by rw [hexL_len] at hq; exact hq
        rw [Lib.add_plain, (HW'.2 (i' + q) (by omega)).1, ← hexC_at x (j + 1) (by omega) q hq, show 65 - (j + 1) + q = i' + q by omega])
      rw [hexL_len] at hcv
      have HWB := Lib.hid HW'.1
      clear hmod HDj HSj hal hij2 HW'
      generalize x / 16 ^ j = y at *
      go_wp2_with fail
      go_ret2
      exact ⟨j + 1, by omega, by omega, HX16.out, rfl, HWB.out⟩
end Go.Proofs.YtklkgacgmcnlnaaDoor
