/-
  Marks on records: markText (turned from tpl8's XMk).
-/
import Derived.Test.YtielmnkhcljmeaaDoorRv4
namespace Go.Proofs.YtielmnkhcljmeaaDoor
open Go Go.RowKit

theorem own_byte (w : World) (B : Nat) (hB : B ≤ w.heap.size) (W0 : World) (hb : Below B W0 w) (c : Int) : Lib.OwnBuf B 5 (.slice (some ⟨w.heap.size, 0, none⟩) 1 1) 1 [.int .u8 c] W0 (w.alloc (.cells #[.int .u8 c] 5)) := by
  refine ⟨World.ownsRowF_of ⟨rfl, .inr ⟨w.heap.size, 1, #[.int .u8 c], rfl, hB, heap_alloc_new w _, Nat.le_refl _, by unfold maxLen; omega, rfl, rfl⟩⟩, hb.alloc hB _, ?_⟩
  simp
  omega
/-- the digits of a mark -/
def goM : Nat → Nat → ByteArray → ByteArray
  | 0, _, s => s
  | f + 1, n, s => if n = 0 then s else goM f (n / 10) ((⟨#[UInt8.ofNat (48 + n % 10)]⟩ : ByteArray) ++ s)
theorem goM_step {f n : Nat} (s : ByteArray) (h : n < f) (h0 : n ≠ 0) : n / 10 < f - 1 ∧ goM f n s = goM (f - 1) (n / 10) ((⟨#[UInt8.ofNat (48 + n % 10)]⟩ : ByteArray) ++ s) := by
  cases f with
  | zero => omega
  | succ f =>
    refine ⟨by omega, ?_⟩
    show (if n = 0 then s else _) = _
    rw [if_neg h0]
    rfl
theorem goM_end (f : Nat) (s : ByteArray) : goM f 0 s = s := by
  cases f with
  | zero => rfl
  | succ f => rfl
def markOf (n : Nat) : ByteArray := if n = 0 then ⟨#[109, 48]⟩ else (⟨#[109]⟩ : ByteArray) ++ goM (n + 1) n ⟨#[]⟩
def MarkOut (n : Nat) (w : World) (e : Ending) (w' : World) : Prop := e = .returned (.string (markOf n)) ∧ Below w.heap.size w w'
theorem one_conv (wr : World) (b : UInt8) (x : Int) (hx : x = (b.toNat : Int)) : (convert 73 9 (.slice (some ⟨wr.heap.size, 0, none⟩) 1 1)).run Tryd.prog (wr.alloc (.cells #[.int .u8 x] 5)) = .ok (.string ⟨#[b]⟩) (wr.alloc (.cells #[.int .u8 x] 5)) := by
  subst hx
  exact conv_run wr.heap.size [b] wr.heap.size 1 wr _ (own_byte wr wr.heap.size (Nat.le_refl _) wr (Below.refl _ _) _)
set_option maxRecDepth 100000 in
set_option maxHeartbeats 1600000 in
theorem markText_any (n : Nat) (w : World) (hn : n ≤ 8388608) : Calls Tryd.prog 46 #[.int .i64 n] w (MarkOut n w) := by
  have HZ : Hid (n = 0 → markOf n = ⟨#[109, 48]⟩) := Lib.hid fun h => by unfold markOf; rw [if_pos h]
  have HN : Hid (n ≠ 0 → markOf n = (⟨#[109]⟩ : ByteArray) ++ goM (n + 1) n ⟨#[]⟩) := Lib.hid fun h => by unfold markOf; rw [if_neg h]
  unfold MarkOut
  generalize markOf n = M at *
  go_enter Tryd.func46, Tryd.ntmps46
  by_cases h0 : n = 0
  · have HM := Lib.hid (HZ.out h0)
    subst h0
    go_wp2_with fail
    go_ret
    exact ⟨by rw [HM.out]; rfl, Below.refl _ _⟩
  · have HM := Lib.hid (HN.out h0)
    clear HZ HN
    have hp : 0 < n := by omega
    clear h0
    generalize hG : goM (n + 1) n ⟨#[]⟩ = G at *
    have HG := Lib.hid hG
    clear hG
    go_wp2_with fail
    go_loopw [0, 3] (fun nv sv wr => ∃ (f k : Nat) (s : ByteArray), k < f ∧ goM f k s = G ∧ s.size + k ≤ n ∧ nv = .int .i64 k ∧ sv = .string s ∧ Below w.heap.size w wr) (fun nv _ _ => (intOf nv).toNat)
    case atStart => exact ⟨n + 1, n, _, Nat.lt_succ_self _, HG.out, by show 0 + n ≤ n; omega, rfl, rfl, Below.refl _ _⟩
    case round =>
      obtain ⟨f, k, s, hf, hgo, hsz, rfl, rfl, hb⟩ := hrel
      rename World => wr
      have HB := Lib.hid hb
      have hbs := hb.size
      clear hb
      by_cases hk : k = 0
      · subst hk
        rw [goM_end] at hgo
        subst hgo
        go_wp2_with fail
        go_ret
        exact ⟨by rw [HM.out]; rfl, HB.out⟩
      · have HST := Lib.hid (goM_step s hf hk)
        rw [hgo] at HST
        have hkp : 0 < k := by omega
        have hb8 : (((UInt8.ofNat (48 + k % 10)).toNat : Nat) : Int) = 48 + (k % 10 : Nat) := by
          have h : (UInt8.ofNat (48 + k % 10)).toNat = (48 + k % 10) % 256 := UInt8.toNat_ofNat'
          rw [h]
          omega
        have hcv := one_conv wr (UInt8.ofNat (48 + k % 10)) (48 + (k : Int) % 10) (by rw [hb8]; omega)
        have htm : (k : Int).tmod 10 = (k : Int) % 10 := Int.tmod_eq_emod_of_nonneg (by omega)
        have htd : (k : Int).tdiv 10 = (k : Int) / 10 := Int.tdiv_eq_ediv_of_nonneg (by omega)
        have HS2 : Hid (((⟨#[UInt8.ofNat (48 + k % 10)]⟩ : ByteArray) ++ s).size + k / 10 ≤ n) := Lib.hid (by
          rw [ByteArray.size_append]
          show 1 + _ + _ ≤ _
          omega)
        clear hgo hf hb8
        generalize (UInt8.ofNat (48 + k % 10)) = d at *
        go_wp2_with fail
        go_roundw
        case rel => exact ⟨f - 1, k / 10, _, HST.out.1, HST.out.2.symm, HS2.out, by go_num, rfl, below_al HB.out _⟩
        case measure => simp [intOf]; omega

end Go.Proofs.YtielmnkhcljmeaaDoor
