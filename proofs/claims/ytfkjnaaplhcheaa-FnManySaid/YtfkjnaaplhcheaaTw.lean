/-
  slices.swapRangeCmpFunc and slices.rotateCmpFunc of float32 numbers.
-/
import Derived.Test.YtfkjnaaplhcheaaSp
import Derived.Test.YtfkjnaaplhcheaaFa
import Derived.Test.YtfkjnaaplhcheaaTo
import Derived.Sort.WalkA
import Derived.Sort.WalkC
import Derived.Deep.LoopGhost
import Derived.Deep.QuietTactic
import Derived.BigQuiet
import Derived.WalkKit
import Derived.Laws.BitsLemmas
import Derived.Shelf.SlicesE.Kit
import Derived.BigRegion
namespace Go.Proofs.Ytfkjnaaplhcheaa.Fs
open Go Go.RowKit Go.Sort
attribute [local go_sem] run_store_float

def eV (V : Nat → Nat) (n : Nat) : Value := .float .f32 (V n)
/-- the world w, in which the row at blk (it held d) holds dk; and it may have drawn -/
structure RW (V : Nat → Nat) (w : World) (blk off : Nat) (d dk : Array Nat) (W : World) : Prop where
  h : Holds (eV V) w blk off d
  s : dk.size = d.size
  e : ∃ k, W = (putRow (eV V) w blk off dk).drewN k
section
variable {V : Nat → Nat} {w W : World} {blk off : Nat} {d dk : Array Nat}
theorem RW.start (h : Holds (eV V) w blk off d) : RW V w blk off d d w := ⟨h, rfl, 0, (putRow_self (eV V) w blk off d h).symm⟩
theorem RW.drewN (h : RW V w blk off d dk W) (n : Nat) : RW V w blk off d dk (W.drewN n) := ⟨h.h, h.s, by
  obtain ⟨k, rfl⟩ := h.e
  exact ⟨k + n, by rw [World.drewN_drewN]⟩⟩
theorem RW.drew (h : RW V w blk off d dk W) : RW V w blk off d dk W.drew := h.drewN 1
theorem RW.cell (h : RW V w blk off d dk W) {p : Nat} (hp : p < d.size) : W.cell? ⟨blk, off + p, none⟩ = some (.float .f32 (V dk[p]!)) := by
  obtain ⟨k, rfl⟩ := h.e
  exact (holds_putRow (eV V) w blk off d dk h.h h.s p (by have := h.s; omega)).1
theorem RW.frozen (h : RW V w blk off d dk W) {p : Nat} (hp : p < d.size) : W.frozen? ⟨blk, off + p, none⟩ = false := by
  obtain ⟨k, rfl⟩ := h.e
  exact (holds_putRow (eV V) w blk off d dk h.h h.s p (by have := h.s; omega)).2
theorem RW.swap (h : RW V w blk off d dk W) {i j : Nat} (hi : i < d.size) (hj : j < d.size) {x y : Nat} (hx : dk[i]! = x) (hy : dk[j]! = y) : RW V w blk off d (swp dk i j) (((W.setCell ⟨blk, off + i, none⟩ (.float .f32 (V y))).setCell ⟨blk, off + j, none⟩ (.float .f32 (V x))).drew) := by
  obtain ⟨hh, hs, k, rfl⟩ := h
  subst hx hy
  exact ⟨hh, (size_swp dk i j).trans hs, k + 1, swap_worldC (eV V) w blk off dk k i j (by omega) (by omega)⟩
end
set_option maxRecDepth 100000 in
set_option maxHeartbeats 1600000 in
theorem swapRange_any (V : Nat → Nat) (blk off cap a b n : Nat) (d d0 : Array Nat) (fv : Value) (w W : World) (h : RW V w blk off d d0 W) (h1 : a + n ≤ b) (h2 : b + n ≤ d.size) (hsz : d.size ≤ 1048576) :
    Calls Try.prog 140 #[.slice (some ⟨blk, off, none⟩) d.size cap, .int .i64 a, .int .i64 b, .int .i64 n, fv] W (fun e w' => e = .returned (.tuple #[]) ∧ RW V w blk off d (swpR d0 a b n) w') := by
  have H0 : Hid (RW V w blk off d (swpR d0 a b 0) W) := Lib.hid h
  clear h
  go_enter Try.func140, Try.ntmps140
  go_wp2
  go_loopw [10] (fun iv wr => ∃ i : Nat, i ≤ n ∧ iv = .int .i64 i ∧ RW V w blk off d (swpR d0 a b i) wr) (fun iv _ => n - (intOf iv).toNat)
  case atStart => exact ⟨0, Nat.zero_le _, rfl, H0.out⟩
  case round =>
    clear H0
    obtain ⟨i, hi, rfl, hw⟩ := hrel
    rename World => wq
    by_cases hlt : i < n
    · have c1 := hw.cell (p := a + i) (by omega)
      have c2 := hw.cell (p := b + i) (by omega)
      have f1 := hw.frozen (p := a + i) (by omega)
      have f2 := hw.frozen (p := b + i) (by omega)
      have SW := Lib.hid (hw.swap (i := a + i) (j := b + i) (by omega) (by omega) rfl rfl)
      clear hw
      have hwa : IntKind.i64.wrap ((a : Int) + (i : Int)) = ((a + i : Nat) : Int) := by rw [show (a : Int) + (i : Int) = ((a + i : Nat) : Int) by push_cast; rfl]; exact IntWalk.i64_in _ (by omega)
      have hwb : IntKind.i64.wrap ((b : Int) + (i : Int)) = ((b + i : Nat) : Int) := by rw [show (b : Int) + (i : Int) = ((b + i : Nat) : Int) by push_cast; rfl]; exact IntWalk.i64_in _ (by omega)
      have hp : ((a + i : Nat) : Int) < (d.size : Int) := by omega
      have hq : ((b + i : Nat) : Int) < (d.size : Int) := by omega
      have hin : (i : Int) < (n : Int) := by omega
      have NX : Hid (swp (swpR d0 a b i) (a + i) (b + i) = swpR d0 a b (i + 1)) := Lib.hid rfl
      rw [NX.out] at SW
      clear NX
      generalize (swpR d0 a b i)[a + i]! = x at *
      generalize (swpR d0 a b i)[b + i]! = y at *
      have hpq : a + i ≠ b + i := by omega
      have hqp : b + i ≠ a + i := by omega
      generalize a + i = p at *
      generalize b + i = q at *
      go_wp2_with fail
      go_region
      generalize World.setCell (World.setCell wq _ _) _ _ = w9 at *
      generalize w9.drew = w8 at *
      go_wp2_with fail
      go_roundw
      case rel => exact ⟨i + 1, by omega, by go_num, SW.out⟩
      case measure => simp [intOf]; omega
    · obtain rfl : i = n := by omega
      have HW := Lib.hid hw
      clear hw
      go_wp2
      go_end0
      exact ⟨rfl, HW.out⟩
set_option maxRecDepth 100000 in
set_option maxHeartbeats 1600000 in
theorem rotate_any (V : Nat → Nat) (blk off cap a m b : Nat) (d d0 : Array Nat) (fv : Value) (w W : World) (h : RW V w blk off d d0 W) (h1 : a < m) (h2 : m < b) (h3 : b ≤ d.size) (hsz : d.size ≤ 1048576) :
    Calls Try.prog 134 #[.slice (some ⟨blk, off, none⟩) d.size cap, .int .i64 a, .int .i64 m, .int .i64 b, fv] W (fun e w' => e = .returned (.tuple #[]) ∧ ∃ d' : Array Nat, IsRot a m b d0 d' ∧ RW V w blk off d d' w') := by
  have H0 := Lib.hid h
  have HS := Lib.hid fun x y z dk W h h1 h2 => swapRange_any V blk off cap x y z d dk fv w W h h1 h2 hsz
  clear h
  obtain ⟨i0, rfl⟩ : ∃ i, m = a + i := ⟨m - a, by omega⟩
  obtain ⟨j0, rfl⟩ : ∃ j, b = a + i0 + j := ⟨b - (a + i0), by omega⟩
  have w1 : IntKind.i64.wrap (((a + i0 : Nat) : Int) - (a : Int)) = (i0 : Int) := by rw [show ((a + i0 : Nat) : Int) - (a : Int) = (i0 : Int) by omega]; exact IntWalk.i64_in _ (by omega)
  have w2 : IntKind.i64.wrap (((a + i0 + j0 : Nat) : Int) - ((a + i0 : Nat) : Int)) = (j0 : Int) := by rw [show ((a + i0 + j0 : Nat) : Int) - ((a + i0 : Nat) : Int) = (j0 : Int) by omega]; exact IntWalk.i64_in _ (by omega)
  have START : Hid (∀ d', IsRot (a + i0 - i0) (a + i0) (a + i0 + j0) d0 d' → IsRot a (a + i0) (a + i0 + j0) d0 d') := Lib.hid fun d' h => by rw [Nat.add_sub_cancel] at h; exact h
  generalize hM : a + i0 = M at *
  generalize hE : M + j0 = E at *
  have HM := Lib.hid hM
  have HE := Lib.hid hE
  clear hM hE
  go_enter Try.func134, Try.ntmps134
  go_wp2
  go_loopw [10, 11] (fun iv jv wr => ∃ (i j : Nat) (dk : Array Nat), 1 ≤ i ∧ 1 ≤ j ∧ i ≤ M ∧ M + j ≤ d.size ∧ iv = .int .i64 i ∧ jv = .int .i64 j ∧ RW V w blk off d dk wr ∧ Hid (∀ d', IsRot (M - i) M (M + j) dk d' → IsRot a M E d0 d')) (fun iv jv _ => (intOf iv).toNat + (intOf jv).toNat)
  case atStart => exact ⟨i0, j0, d0, by have := HM.out; omega, by have := HE.out; omega, by have := HM.out; omega, by have := HE.out; omega, rfl, rfl, H0.out, Lib.hid (by have := START.out; rw [HE.out]; exact this)⟩
  case round =>
    clear H0 START
    obtain ⟨i, j, dk, hi, hj, him, hjm, rfl, rfl, hw, HR⟩ := hrel
    rename World => wq
    have HW := Lib.hid hw
    have HSZ := Lib.hid hw.s
    clear hw
    have wi : IntKind.i64.wrap ((M : Int) - (i : Int)) = ((M - i : Nat) : Int) := by rw [show (M : Int) - (i : Int) = ((M - i : Nat) : Int) by omega]; exact IntWalk.i64_in _ (by omega)
    rcases Nat.lt_trichotomy i j with hij | hij | hij
    · have wj : IntKind.i64.wrap ((j : Int) - (i : Int)) = ((j - i : Nat) : Int) := by rw [show (j : Int) - (i : Int) = ((j - i : Nat) : Int) by omega]; exact IntWalk.i64_in _ (by omega)
      have wmj : IntKind.i64.wrap ((M : Int) + (j : Int)) = ((M + j : Nat) : Int) := by rw [show (M : Int) + (j : Int) = ((M + j : Nat) : Int) by push_cast; rfl]; exact IntWalk.i64_in _ (by omega)
      have wmji : IntKind.i64.wrap (((M + j : Nat) : Int) - (i : Int)) = ((M + j - i : Nat) : Int) := by rw [show ((M + j : Nat) : Int) - (i : Int) = ((M + j - i : Nat) : Int) by omega]; exact IntWalk.i64_in _ (by omega)
      have HCS := Lib.hid (HS.out (M - i) (M + j - i) i dk wq HW.out (by omega) (by omega))
      have NX : Hid (∀ d', IsRot (M - i) M (M + (j - i)) (swpR dk (M - i) (M + j - i) i) d' → IsRot a M E d0 d') := Lib.hid fun d' h => HR.out d' (rot_right hij him (by rw [HSZ.out]; omega) h)
      have hne : ¬ (i : Int) = (j : Int) := by omega
      have hle : ¬ (j : Int) < (i : Int) := by omega
      have hji : Hid (j - i + i = j) := Lib.hid (by omega)
      have hjg : Hid (1 ≤ j - i ∧ M + (j - i) ≤ d.size) := Lib.hid (by omega)
      clear HR HW HS
      generalize hpp : M - i = p at *
      have HP := Lib.hid hpp
      clear hpp
      generalize M + j - i = q at *
      generalize M + j = mj at *
      generalize hji' : j - i = r at *
      go_wp2_with (go_at_call 140; refine HCS.out.mono ?_; rintro e w1 ⟨rfl, hw1⟩; have HW1 := Lib.hid hw1; clear hw1)
      go_roundw
      case rel => exact ⟨i, r, _, hi, hjg.out.1, him, hjg.out.2, rfl, rfl, HW1.out, by rw [HP.out]; exact NX⟩
      case measure => have := hji.out; simp [intOf]; omega
    · subst hij
      have HCS := Lib.hid (HS.out (M - i) M i dk wq HW.out (by omega) (by omega))
      have NX : Hid (IsRot a M E d0 (swpR dk (M - i) M i)) := Lib.hid (HR.out _ (rot_last him (by rw [HSZ.out]; omega)))
      clear HR HW HS
      generalize M - i = p at *
      go_wp2_with (go_at_call 140; refine HCS.out.mono ?_; rintro e w1 ⟨rfl, hw1⟩; have HW1 := Lib.hid hw1; clear hw1)
      go_end0
      exact ⟨rfl, _, NX.out, HW1.out⟩
    · have wj : IntKind.i64.wrap ((i : Int) - (j : Int)) = ((i - j : Nat) : Int) := by rw [show (i : Int) - (j : Int) = ((i - j : Nat) : Int) by omega]; exact IntWalk.i64_in _ (by omega)
      have HCS := Lib.hid (HS.out (M - i) M j dk wq HW.out (by omega) (by omega))
      have NX : Hid (∀ d', IsRot (M - (i - j)) M (M + j) (swpR dk (M - i) M j) d' → IsRot a M E d0 d') := Lib.hid fun d' h => HR.out d' (rot_left hij him (by rw [HSZ.out]; omega) h)
      have hne : ¬ (i : Int) = (j : Int) := by omega
      have hle : (j : Int) < (i : Int) := by omega
      have hji : Hid (i - j + j = i) := Lib.hid (by omega)
      have hjg : Hid (1 ≤ i - j ∧ i - j ≤ M) := Lib.hid (by omega)
      clear HR HW HS
      generalize M - i = p at *
      generalize hji' : i - j = r at *
      go_wp2_with (go_at_call 140; refine HCS.out.mono ?_; rintro e w1 ⟨rfl, hw1⟩; have HW1 := Lib.hid hw1; clear hw1)
      go_roundw
      case rel => exact ⟨r, j, _, hjg.out.1, hj, hjg.out.2, hjm, rfl, rfl, HW1.out, NX⟩
      case measure => have := hji.out; simp [intOf]; omega
end Go.Proofs.Ytfkjnaaplhcheaa.Fs
