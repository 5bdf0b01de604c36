/-
  spec.l07Record; bytes of numbers: impl.appendNumber, spec.l07Eight.
-/
import Derived.Test.YtckdbnnkabgopaaDoorRc3
import Derived.StillTailTactics
namespace Go.Proofs.YtckdbnnkabgopaaDoor
open Go Go.RowKit

theorem all_pre {ds : List Int} {k : Nat} (h : k < ds.length) : (ds.take (k + 1)).all numB = ((ds.take k).all numB && numB ds[k]) := by
  rw [List.take_succ_eq_append_getElem h, List.all_append]
  simp
theorem all_pre_no {ds : List Int} {k : Nat} (h : k < ds.length) (hn : numB ds[k] = false) : ds.all numB = false := by
  rw [List.all_eq_false]
  exact ⟨ds[k], List.getElem_mem h, by rw [hn]; decide⟩
theorem info_u8 : (Tryd.prog.info? 5).map (fun i => (i.zero, i.size, i.bytes)) = some (some (.int .u8 0), 1, 1) := by kernel_rfl
/-- a buffer: bytes that a call owns, in blocks from B on; nothing below B is changed since W0 -/
def Bf (B : Nat) (l : List UInt8) (v : Value) (W0 w : World) : Prop := Lib.OwnBuf B 5 v l.length (bc l) W0 w
theorem Bf.step {B n : Nat} {l m : List UInt8} {v : Value} {W0 w : World} {xs : List Value} (h : Lib.OwnBuf B 5 v n xs W0 w) (h1 : n = (l ++ m).length) (h2 : xs = bc (l ++ m)) : Bf B (l ++ m) v W0 w := by
  subst h1 h2
  exact h
def BfOut (B : Nat) (l : List UInt8) (W0 : World) (e : Ending) (w' : World) : Prop := ∃ v, e = .returned v ∧ Bf B l v W0 w'
theorem div_pow (n : Int) (k : Nat) : n / 256 ^ k / 256 = n / 256 ^ (k + 1) := by
  rw [Int.pow_succ, Int.ediv_ediv_of_nonneg (Int.pow_nonneg (by decide))]
theorem le_succ (n : Int) (k : Nat) : le n (k + 1) = le n k ++ [u8 (n / 256 ^ k)] := rfl
theorem pow_range {n : Int} (h : 0 ≤ n ∧ n < 18446744073709551616) (k : Nat) : 0 ≤ n / 256 ^ k ∧ n / 256 ^ k < 18446744073709551616 := by
  have hp : (0 : Int) < 256 ^ k := Int.pow_pos (by decide)
  refine ⟨Int.ediv_nonneg h.1 (Int.le_of_lt hp), ?_⟩
  have := Int.ediv_le_self (256 ^ k) h.1
  omega
set_option maxRecDepth 100000 in
set_option maxHeartbeats 1600000 in
theorem appendNumber_any (n : Int) (many : Nat) (hn : 0 ≤ n ∧ n < 18446744073709551616) (hm : many ≤ 8) (B : Nat) (l : List UInt8) (v : Value) (W0 w : World) (hl : l.length ≤ 1048576) (h : Bf B l v W0 w) :
    Calls Tryd.prog 29 #[v, .int .u64 n, .int .i64 many] w (BfOut B (l ++ le n many) W0) := by
  obtain ⟨i0, hi0, hz0, hz1, hz2⟩ := info_parts info_u8
  have HP : Hid (∀ k, 0 ≤ n / 256 ^ k ∧ n / 256 ^ k < 18446744073709551616) := Lib.hid fun k => pow_range hn k
  have HQ : Hid (∀ k, n / 256 ^ k / 256 = n / 256 ^ (k + 1)) := Lib.hid fun k => div_pow n k
  have H := Lib.hid h
  have H0 : Hid (n = n / 256 ^ 0) := Lib.hid (by rw [Int.pow_zero, Int.ediv_one])
  have HL0 : Hid (l = l ++ le n 0) := Lib.hid (by show l = l ++ []; rw [List.append_nil])
  have HLE : Hid (∀ k, (l ++ le n k).length = l.length + k) := Lib.hid fun k => by rw [List.length_append, le_len]
  have HS : Hid (∀ k, l ++ le n k ++ [u8 (n / 256 ^ k)] = l ++ le n (k + 1)) := Lib.hid fun k => by rw [List.append_assoc]; rfl
  have HBC : Hid (∀ k, bc (l ++ le n k) ++ [Value.int .u8 (n / 256 ^ k % 256)] = bc (l ++ le n (k + 1))) := Lib.hid fun k => by rw [← HS.out k, bc_app (l ++ le n k), bc_u8]
  unfold BfOut
  clear h hn
  go_enter Tryd.func29, Tryd.ntmps29
  go_wp2
  go_loopw [0, 1, 8] (fun tv nv iv wr => ∃ (k : Nat) (sv : Value), k ≤ many ∧ iv = .int .i64 k ∧ nv = .int .u64 (n / 256 ^ k) ∧ sv = tv ∧ Bf B (l ++ le n k) sv W0 wr) (fun _ _ iv _ => many - (intOf iv).toNat)
  case atStart => exact ⟨0, _, Nat.zero_le _, rfl, by rw [← H0.out], rfl, by rw [← HL0.out]; exact H.out⟩
  case round =>
    obtain ⟨k, sv, hk, rfl, rfl, rfl, hbf⟩ := hrel
    rename World => wr
    have HB := Lib.hid hbf
    clear hbf
    have HPk := HP.out k
    have HQk := Lib.hid (HQ.out k)
    have HBCk := Lib.hid (HBC.out k)
    have HLk := Lib.hid (HLE.out k)
    have HLk1 := Lib.hid (HLE.out (k + 1))
    clear HP HQ HBC
    by_cases hlt : k < many
    · generalize n / 256 ^ k = x at *
      obtain ⟨x0, x1⟩ := HPk
      go_wp2_with (refine Lib.wpList_append_byte rfl _ _ _ rfl B 5 i0 Tryd.underlying22 hi0 hz0 hz1 hz2 sv (l ++ le n k).length (bc (l ++ le n k)) rfl W0 wr _ HB.out rfl (by rw [HLk.out]; omega) ?_; intro v' w' hb'; have HB' := Lib.hid hb'; clear hb')
      go_roundw
      case rel => exact ⟨k + 1, v', by omega, by go_num, by rw [← HQk.out], rfl, by unfold Bf; rw [← HBCk.out, HLk1.out]; have := HB'.out; rw [HLk.out] at this; exact this⟩
      case measure => simp [intOf]; omega
    · obtain rfl : k = many := by omega
      go_wp2
      go_ret
      exact ⟨sv, rfl, HB.out⟩
end Go.Proofs.YtckdbnnkabgopaaDoor

