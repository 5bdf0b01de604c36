/-
  Numbers read from bytes: impl.numberAt, spec.l07Read.
-/
import Derived.Test.YtckdbnnkabgopaaDoorRc4
namespace Go.Proofs.YtckdbnnkabgopaaDoor
open Go Go.RowKit

/-- the number of bytes, the least first -/
def rdB : List UInt8 → Nat
  | [] => 0
  | b :: l => b.toNat + 256 * rdB l
theorem rdB_lt : ∀ (k : Nat) (l : List UInt8), l.length ≤ k → rdB l < 256 ^ k := by
  intro k
  induction k with
  | zero =>
    intro l h
    obtain rfl : l = [] := List.length_eq_zero_iff.1 (by omega)
    decide
  | succ k ih =>
    intro l h
    cases l with
    | nil => exact Nat.pow_pos (by decide)
    | cons b l =>
      have h1 := ih l (by simp at h; omega)
      have h2 := b.toNat_lt
      rw [Nat.pow_succ]
      show b.toNat + 256 * rdB l < _
      omega
theorem rdB_front {l : List UInt8} {a k : Nat} (h : a < l.length) : rdB ((l.drop a).take (k + 1)) = l[a].toNat + 256 * rdB ((l.drop (a + 1)).take k) := by
  rw [List.drop_eq_getElem_cons h, List.take_succ_cons]
  rfl
theorem bcAt {w : World} {B : Nat} {A : Option Addr} {l : List UInt8} (h : Rd w B A (bc l)) {k : Nat} (hk : k < l.length) : ∃ b off, A = some ⟨b, off, none⟩ ∧ b < B ∧ w.cell? ⟨b, off + k, none⟩ = some (.int .u8 (l[k].toNat : Nat)) := by
  have hl : (bc l).length = l.length := bc_len l
  obtain ⟨b, off, e, hb, hc⟩ := h (by omega)
  exact ⟨b, off, e, hb, by rw [hc k (by omega)]; simp [bc]⟩
set_option maxRecDepth 100000 in
set_option maxHeartbeats 1600000 in
theorem numberAt_any (A : Option Addr) (l : List UInt8) (c at_ many : Nat) (w : World) (hl : l.length ≤ 9223372036854775) (hm : 1 ≤ many ∧ many ≤ 8) (ha : at_ + many ≤ l.length) (h : Rd w w.heap.size A (bc l)) :
    Calls Tryd.prog 31 #[.slice A l.length c, .int .i64 at_, .int .i64 many] w (SameOut (.int .u64 (rdB ((l.drop at_).take many) : Nat)) w) := by
  have HF : Hid (∀ k, k < many → rdB ((l.drop (at_ + many - (k + 1))).take (k + 1)) = (l.getD (at_ + many - (k + 1)) 0).toNat + 256 * rdB ((l.drop (at_ + many - k)).take k)) := Lib.hid fun k hk => by
    rw [rdB_front (by omega), show at_ + many - (k + 1) + 1 = at_ + many - k by omega, List.getD_eq_getElem?_getD, List.getElem?_eq_getElem (by omega)]
    rfl
  have HLT : Hid (∀ k, k ≤ 7 → rdB ((l.drop (at_ + many - k)).take k) < 72057594037927936) := Lib.hid fun k hk => rdB_lt 7 _ (by rw [List.length_take]; omega)
  have HZ : Hid (rdB ((l.drop (at_ + many - 0)).take 0) = 0) := Lib.hid rfl
  have HE : Hid (rdB ((l.drop (at_ + many - many)).take many) = rdB ((l.drop at_).take many)) := Lib.hid (by rw [Nat.add_sub_cancel])
  have HH := Lib.hid h
  have HG : Hid (∀ k, k < l.length → (l.getD k 0).toNat < 256) := Lib.hid fun k _ => UInt8.toNat_lt _
  have HC : Hid (∀ k, k < l.length → ∃ b off, A = some ⟨b, off, none⟩ ∧ b < w.heap.size ∧ w.cell? ⟨b, off + k, none⟩ = some (.int .u8 ((l.getD k 0).toNat : Nat))) := Lib.hid fun k hk => by
    obtain ⟨b, off, e, hb, hc⟩ := bcAt HH.out hk
    refine ⟨b, off, e, hb, ?_⟩
    rw [hc, List.getD_eq_getElem?_getD, List.getElem?_eq_getElem hk]
    rfl
  unfold SameOut
  rw [← HE.out]
  clear HE h HH
  generalize hF : (fun k => rdB ((l.drop (at_ + many - k)).take k)) = F
  have hF' : ∀ k, rdB ((l.drop (at_ + many - k)).take k) = F k := fun k => by rw [← hF]
  have hFz : rdB ((l.drop (at_ + many - 0)).take 0) = F 0 := hF' 0
  simp only [hF'] at HF HLT ⊢
  rw [hFz] at HZ
  clear hF hF' hFz
  obtain ⟨m1, m8⟩ := hm
  go_enter Tryd.func31, Tryd.ntmps31
  go_wp2_with fail
  go_loop [7, 8] (fun nv iv => ∃ k : Nat, k ≤ many ∧ iv = .int .i64 ((at_ : Int) + many - 1 - k) ∧ nv = .int .u64 (F k : Nat)) (fun _ iv => (intOf iv + 1).toNat)
  case atStart => exact ⟨0, Nat.zero_le _, by go_num, by rw [HZ.out]; rfl⟩
  case round =>
    obtain ⟨k, hk, rfl, rfl⟩ := hrel
    by_cases hlt : k < many
    · obtain ⟨b, off, rfl, hb, hc⟩ := HC.out (at_ + many - (k + 1)) (by omega)
      have hg := HG.out (at_ + many - (k + 1)) (by omega)
      have hf := HLT.out k (by omega)
      have HFk := Lib.hid (HF.out k hlt)
      have hi : ((at_ : Int) + many - 1 - k) = ((at_ + many - (k + 1) : Nat) : Int) := by omega
      rw [hi]
      generalize hj : at_ + many - (k + 1) = j at *
      generalize (l.getD j 0).toNat = b8 at *
      generalize F k = x at *
      go_wp2_with fail
      go_round
      case rel => exact ⟨k + 1, by omega, by go_num, by rw [HFk.out]; go_num⟩
      case measure => first | (simp [intOf]; done) | (simp [intOf]; omega)
    · obtain rfl : k = many := by omega
      go_wp2_with fail
      go_ret
      exact ⟨rfl, rfl⟩
end Go.Proofs.YtckdbnnkabgopaaDoor

