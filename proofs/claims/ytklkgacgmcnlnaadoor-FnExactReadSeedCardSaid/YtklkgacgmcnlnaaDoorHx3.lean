/-
  Numbers in base 16: spec.l08Hex.
-/
import Derived.Test.YtklkgacgmcnlnaaDoorHx2
import Derived.Lib.BufSteps
namespace Go.Proofs.YtklkgacgmcnlnaaDoor
open Go Go.RowKit

def dig16 : ByteArray := ⟨#[48, 49, 50, 51, 52, 53, 54, 55, 56, 57, 97, 98, 99, 100, 101, 102]⟩
theorem dig16_get : ∀ d : Fin 16, dig16.data.toList[d.val]? = some (hexD d.val) := by decide
theorem run_dig16 (t : TypeId) (ht : Tryd.prog.underlying t = some .string) (k : IntKind) (d : Nat) (hd : d < 16) (w : World) :
    (Instr.index t (.string dig16) (.int k (d : Int))).run Tryd.prog w = .ok (.int .u8 ((hexD d).toNat : Int)) w := by
  have hs : dig16.size = 16 := rfl
  rw [run_index_string w t dig16 k _ ht, dif_pos ⟨by omega, by rw [hs]; omega⟩]
  have e : ((d : Int)).toNat = d := by omega
  simp only [e]
  have h := dig16_get ⟨d, hd⟩
  have h2 : dig16.data.toList[d]? = some dig16[d] := by
    rw [List.getElem?_eq_getElem (by rw [← Lib.size_eq]; omega)]
    rfl
  dsimp only at h
  rw [h2] at h
  exact congrArg (fun b : UInt8 => Result.ok (Value.int .u8 (b.toNat : Int)) w) (Option.some.inj h)
theorem shr_hex (x k : Nat) : (x : Int) / 2 ^ (4 * k) = ((x / 16 ^ k : Nat) : Int) := by
  rw [Int.natCast_ediv, show (16 : Nat) = 2 ^ 4 by decide, ← Nat.pow_mul, Int.natCast_pow]
  rfl
def HxAt (x j : Nat) : List UInt8 := hexL (x / 16 ^ (16 - j)) j
theorem HxAt_len (x j : Nat) : (HxAt x j).length = j := hexL_len _ _
theorem HxAt_step (x j : Nat) (h : j < 16) : HxAt x j ++ [hexD (x / 16 ^ (15 - j) % 16)] = HxAt x (j + 1) := by
  unfold HxAt
  rw [show 16 - j = (15 - j) + 1 by omega, hexL_step, show 16 - (j + 1) = 15 - j by omega]
theorem HxAt_all (x : Nat) : HxAt x 16 = hexL x 16 := by
  unfold HxAt
  rw [Nat.sub_self, Nat.pow_zero, Nat.div_one]
theorem bc_d (d : Nat) : [Value.int .u8 ((hexD d).toNat : Int)] = bc [hexD d] := rfl
set_option maxRecDepth 100000 in
set_option maxHeartbeats 3200000 in
theorem l08Hex_any (x : Nat) (hx : x < 18446744073709551616) (w : World) : Calls Tryd.prog 51 #[.int .u64 x] w (StrOut (hexL x 16) w) := by
  obtain ⟨i0, hi0, hz0, hz1, hz2⟩ := info_parts info_u8
  have HE : Hid (HxAt x 16 = hexL x 16) := Lib.hid (HxAt_all x)
  have HST : Hid (∀ j, j < 16 → bc (HxAt x j) ++ [Value.int .u8 ((hexD (x / 16 ^ (15 - j) % 16)).toNat : Int)] = bc (HxAt x (j + 1))) := Lib.hid fun j hj => by rw [← HxAt_step x j hj, bc_app, bc_d]
  have HLN : Hid (∀ j, (HxAt x j).length = j) := Lib.hid fun j => HxAt_len x j
  have HSH : Hid (∀ k : Nat, (x : Int) / 2 ^ (4 * k) = ((x / 16 ^ k : Nat) : Int)) := Lib.hid fun k => shr_hex x k
  have HLT : Hid (∀ k : Nat, x / 16 ^ k < 18446744073709551616) := Lib.hid fun k => Nat.lt_of_le_of_lt (Nat.div_le_self _ _) hx
  have H0 : Hid (HxAt x 0 = []) := Lib.hid rfl
  unfold StrOut
  rw [← HE.out]
  clear HE
  go_enter Tryd.func51, Tryd.ntmps51
  go_name_bytes_deep 20 SM hSM
  have eSM : SM = dig16 := by rw [← hSM]; rfl
  subst eSM
  clear hSM
  go_wp2_with fail
  have START : Hid (Lib.OwnBuf w.heap.size 5 (.slice (some ⟨w.heap.size, 0, none⟩) 0 0) 0 (bc (HxAt x 0)) w (w.alloc (.cells #[] 5))) := Lib.hid ⟨World.ownsRowF_of (World.ownsRow_made w #[] 0 (Nat.le_refl _) (by unfold maxLen; omega) rfl), below_al (Below.refl _ _) _, by simp⟩
  go_loopw [3, 4] (fun ov kv wr => ∃ (j : Nat) (sv : Value), j ≤ 16 ∧ kv = .int .i64 (15 - j) ∧ sv = ov ∧ Lib.OwnBuf w.heap.size 5 sv j (bc (HxAt x j)) w wr) (fun _ kv _ => (intOf kv + 1).toNat)
  case atStart => exact ⟨0, _, by omega, by go_num, rfl, START.out⟩
  case round =>
    obtain ⟨j, sv, hj, rfl, rfl, hbf⟩ := hrel
    rename World => wr
    have HB := Lib.hid hbf
    clear hbf START
    by_cases hlt : j < 16
    · obtain ⟨k, hk⟩ : ∃ k : Nat, k = 15 - j := ⟨_, rfl⟩
      have hi : ((15 : Int) - j) = (k : Int) := by omega
      have hsh := HSH.out k
      have hsh2 : (x : Int) / 2 ^ min (4 * (k : Int)).toNat 64 = ((x / 16 ^ k : Nat) : Int) := by rw [show min (4 * (k : Int)).toNat 64 = 4 * k by omega]; exact hsh
      have hy := HLT.out k
      have HSTj := Lib.hid (HST.out j hlt)
      rw [← hk] at HSTj
      rw [hi]
      have hk15 : k ≤ 15 := by omega
      have HK := Lib.hid hk
      clear hk HST HSH HLT
      generalize x / 16 ^ k = y at *
      have hand := and15 y hy
      have hd : y % 16 < 16 := Nat.mod_lt _ (by decide)
      have HDD := Lib.hid (rfl : y % 16 = y % 16)
      have hX := fun w => run_dig16 9 Tryd.underlying9 .u64 (y % 16) hd w
      generalize hexD (y % 16) = b at *
      generalize y % 16 = d at *
      go_wp2_with (refine Lib.wpList_append_byte rfl _ _ _ rfl w.heap.size 5 i0 Tryd.underlying89 hi0 hz0 hz1 hz2 sv j (bc (HxAt x j)) rfl w wr _ HB.out rfl (by omega) ?_; intro v' w' hb'; have HB' := Lib.hid hb'; clear hb')
      go_roundw
      case rel => exact ⟨j + 1, v', by omega, by have := HK.out; go_num, rfl, by rw [← HSTj.out]; exact HB'.out⟩
      case measure => first | (simp [intOf]; done) | (simp [intOf]; omega)
    · obtain rfl : j = 16 := by omega
      have hlen := HLN.out 16
      generalize hLL : HxAt x 16 = L at *
      have HLL := Lib.hid hLL
      clear hLL
      have hb : Lib.OwnBuf w.heap.size 5 sv L.length (bc L) w wr := by rw [hlen]; exact HB.out
      obtain ⟨g, cap, rfl⟩ := buf_form hb (by omega)
      have hcv := conv_run _ _ _ _ _ _ hb
      have HE := Lib.hid hb.2.1
      clear hb HST HSH HLT HLN hlen HB
      go_wp2_with fail
      go_ret
      exact ⟨by rw [HLL.out]; rfl, HE.out⟩
end Go.Proofs.YtklkgacgmcnlnaaDoor
