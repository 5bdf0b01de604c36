/-
  Contracts of the laws' helpers that copy a slice of single numbers, write marks into it, and read them.
-/
import Derived.Test.YtfkjnaaplhcheaaEq
import Derived.Deep.OwnRows
namespace Go.Proofs.Ytfkjnaaplhcheaa
open Go Go.RowKit Ieee

theorem run_store_float (P : Program) (w : World) (a : Addr) (m : Mode) (k : FloatKind) (b : Nat) : (store a (.float k b) m).run P w = stored P w a (.float k b) m := run_store P w a _ m rfl
attribute [local go_sem] run_store_float
theorem info_f32 : (Try.prog.info? 50).map (fun i => (i.zero, i.size, i.bytes)) = some (some (.float .f32 0), 1, 4) := by kernel_rfl

theorem fl_take_succ {xs : List Nat} {k : Nat} (h : k < xs.length) (rest : List Value) (hr : 0 < rest.length) :
    (fl (xs.take k) ++ rest).set k (.float .f32 xs[k]) = fl (xs.take (k + 1)) ++ rest.tail := by
  have hl : (fl (xs.take k)).length = k := by rw [fl_len, List.length_take]; omega
  rw [List.set_append_right _ _ (by omega), hl, Nat.sub_self]
  cases rest with
  | nil => simp at hr
  | cons r rs =>
    simp only [List.set_cons_zero, List.tail_cons]
    rw [List.take_succ_eq_append_getElem h]
    unfold fl
    rw [List.map_append, List.append_assoc]
    rfl

set_option maxHeartbeats 800000 in
theorem toFloat32S_any (A : Option Addr) (xs : List Nat) (c : Nat) (w : World) (hx : xs.length ≤ 1048576) (h : Rd w w.heap.size A (fl xs)) :
    Calls Try.prog 40 #[.slice A xs.length c] w (fun e w' => ∃ A', e = .returned (.slice A' xs.length xs.length) ∧
      w'.ownsRow w.heap.size 50 1 (.slice A' xs.length xs.length) xs.length (fl xs) ∧ Below w.heap.size w w') := by
  obtain ⟨i0, hi, hz0, hz1, hz2⟩ := info_parts info_f32
  go_enter Try.func40, Try.ntmps40
  go_wp2_with (refine wpList_make_full _ rfl (.tmp 6) (.tmp 6) 46 rfl w.heap.size 50 i0 (.float .f32 0) 1 Try.underlying46 hi hz0 hz1 .i64 .i64 xs.length xs.length xs.length rfl rfl rfl rfl (by rw [hz2]; omega) (by unfold maxLen; omega) (Nat.le_refl _) ?_; intro w1 hown1 hg1)
  have hb1 : Below w.heap.size w w1 := (Below.refl _ _).grown hg1 (Nat.le_refl _) (by simp)
  have hl1 : (fl (xs.take 0) ++ List.replicate xs.length (Value.float .f32 0)) = (madeCells (Value.float .f32 0).cells (xs.length * 1)).toList := by
    rw [Nat.mul_one]
    exact (toList_madeCells_one _ _).symm
  rw [← hl1] at hown1
  have HO := Lib.hid hown1
  have HB := Lib.hid hb1
  clear hown1 hb1 hg1 hl1
  go_loopw [4] (fun i wr => ∃ k : Nat, k ≤ xs.length ∧ i = .int .i64 k ∧ Below w.heap.size w wr ∧
      wr.ownsRow w.heap.size 50 1 (.slice (some ⟨w.heap.size, 0, none⟩) xs.length xs.length) xs.length (fl (xs.take k) ++ List.replicate (xs.length - k) (.float .f32 0)))
    (fun i _ => xs.length - (intOf i).toNat)
  case atStart => exact ⟨0, Nat.zero_le _, rfl, HB.out, HO.out⟩
  case round =>
    obtain ⟨k, hk, rfl, hb, hown⟩ := hrel
    by_cases hlt : k < xs.length
    · obtain ⟨b, off, rfl, hbb, hc⟩ := (h.below hb).flAt hlt
      have hst := hown.stored k (.float .f32 xs[k])
      have hfz := hown.frozenAt k
      have hcl := hown.cellAt k (by omega)
      have hlen : k < (fl (xs.take k) ++ List.replicate (xs.length - k) (Value.float .f32 0)).length := by rw [hown.1]; omega
      rw [List.getElem?_eq_getElem hlen] at hcl
      generalize (fl (xs.take k) ++ List.replicate (xs.length - k) (Value.float .f32 0))[k] = u at hcl
      rw [fl_take_succ hlt _ (by simp; omega)] at hst
      have hrep : (List.replicate (xs.length - k) (Value.float .f32 0)).tail = List.replicate (xs.length - (k + 1)) (Value.float .f32 0) := by
        rw [List.tail_replicate]
        congr 1
      rw [hrep] at hst
      have HST := Lib.hid hst
      have HBB := Lib.hid hb
      clear hst hown hb h hrep hlen HO HB
      go_wp2
      go_roundw
      case rel => exact ⟨k + 1, by omega, by go_num, HBB.out.grown HST.out.2 HBB.out.size (by simp), HST.out.1⟩
      case measure => simp [intOf]; omega
    · have hke : k = xs.length := by omega
      subst hke
      rw [List.take_length, Nat.sub_self, List.replicate_zero, List.append_nil] at hown
      have HOW := Lib.hid hown
      clear hown
      go_wp2
      go_ret
      exact ⟨_, rfl, HOW.out, hb⟩
end Go.Proofs.Ytfkjnaaplhcheaa
