/-
  strconv.ParseUint at base 16, spec.l08Unhex; the text of a seed read back: plain.
-/
import Derived.Test.YtklkgacgmcnlnaaDoorRs1
import Derived.Test.YtklkgacgmcnlnaaDoorRd5
namespace Go.Proofs.YtklkgacgmcnlnaaDoor
open Go Go.RowKit

def OutErr (er : Value) : Prop := er = .nilIface ∨ ∃ N, er = .iface 123 (.pointer (some ⟨N, 0, none⟩))
def PxOut (t : ByteArray) (w : World) (e : Ending) (w' : World) : Prop := ∃ (v : Nat) (er : Value), e = .returned (.tuple #[.int .u64 v, er]) ∧ OutErr er ∧ v < 18446744073709551616 ∧ (t.size = 16 → digL t.data.toList = true → er = .nilIface ∧ v = unL t.data.toList) ∧ Below w.heap.size w w'
set_option maxRecDepth 100000 in
set_option maxHeartbeats 1600000 in
theorem ParseUint_16 (t : ByteArray) (w : World) (hs : t.size ≤ 1048576) (he : Env w) : Calls Tryd.prog 49 #[.string t, .int .i64 16, .int .i64 64] w (PxOut t w) := by
  have H := Lib.hid fun w => ParseUint0 t w hs
  obtain ⟨_, _, ⟨ts, ps, hcs⟩, ⟨tr, pr, hcr⟩⟩ := id he
  have HSY := Lib.hid fun fn W (h : W.cell? ⟨2, 0, none⟩ = some (.iface ts ps)) => Tryd.strconv_toError_syntax fn t 16 64 (.iface ts ps) W (by omega) h (.inr ⟨_, _, rfl⟩)
  have HRG := Lib.hid fun fn W (h : W.cell? ⟨3, 0, none⟩ = some (.iface tr pr)) => Tryd.strconv_toError_range fn t 16 64 (.iface tr pr) W (by omega) h (.inr ⟨_, _, rfl⟩)
  have HCS := Lib.hid hcs
  have HCR := Lib.hid hcr
  unfold PuOut InErr at H
  unfold PxOut
  clear he hcs hcr
  go_enter Tryd.func49, Tryd.ntmps49
  go_wp2_with fail
  refine (H.out _).mono ?_
  rintro e w1 ⟨v, er, rfl, her, hv, hd, hb⟩
  have HB := Lib.hid hb
  have HV := Lib.hid hv
  have HD := Lib.hid hd
  clear hb hv hd
  rcases her with rfl | rfl | rfl
  · go_wp2_with fail
    go_ret2
    exact ⟨v, _, rfl, .inl rfl, HV.out, (fun h1 h2 => ⟨rfl, (HD.out h1 h2).2⟩), HB.out⟩
  · go_wp2_with fail
    refine (HSY.out _ _ (keepC HB.out HCS.out)).mono ?_
    rintro e w2 ⟨N, rfl, _, _, hb2⟩
    have HB2 := Lib.hid (below_next HB.out hb2)
    clear hb2
    go_wp2_with fail
    go_ret2
    exact ⟨v, _, rfl, .inr ⟨N, rfl⟩, HV.out, (fun h1 h2 => by have := (HD.out h1 h2).1; cases this), HB2.out⟩
  · go_wp2_with fail
    refine (HRG.out _ _ (keepC HB.out HCR.out)).mono ?_
    rintro e w2 ⟨N, rfl, _, _, hb2⟩
    have HB2 := Lib.hid (below_next HB.out hb2)
    clear hb2
    go_wp2_with fail
    go_ret2
    exact ⟨v, _, rfl, .inr ⟨N, rfl⟩, HV.out, (fun h1 h2 => by have := (HD.out h1 h2).1; cases this), HB2.out⟩
/-- sixteen digits, and their number -/
def uhB (t : ByteArray) : Bool := decide (t.size = 16) && digL t.data.toList
def uhN (t : ByteArray) : Nat := if uhB t then unL t.data.toList else 0
def UhOut (t : ByteArray) (w : World) (e : Ending) (w' : World) : Prop := e = .returned (.tuple #[.int .u64 (uhN t : Nat), .bool (uhB t)]) ∧ w = w'
theorem unD_cases (c : Nat) (hc : c < 256) : unD (UInt8.ofNat c) = if 48 ≤ c ∧ c ≤ 57 then c - 48 else if 97 ≤ c ∧ c ≤ 102 then c - 87 else 16 := by
  unfold unD
  have h : (UInt8.ofNat c).toNat = c := by rw [UInt8.toNat_ofNat']; omega
  rw [h]
theorem unD_at (b : UInt8) : unD b = if 48 ≤ b.toNat ∧ b.toNat ≤ 57 then b.toNat - 48 else if 97 ≤ b.toNat ∧ b.toNat ≤ 102 then b.toNat - 87 else 16 := rfl
theorem dig_next {t : ByteArray} {k : Nat} (hk : k < t.size) (h : digL (t.data.toList.take k) = true) (hd : unD t[k] < 16) : digL (t.data.toList.take (k + 1)) = true := by
  rw [take_byte hk]
  unfold digL at *
  rw [List.all_append, h]
  simp [hd]
theorem un_next {t : ByteArray} {k : Nat} (hk : k < t.size) : unL (t.data.toList.take (k + 1)) = 16 * unL (t.data.toList.take k) + unD t[k] := by rw [take_byte hk, unL_snoc]
theorem un_small {t : ByteArray} {k : Nat} (h : digL (t.data.toList.take k) = true) (hk : k ≤ 15) : unL (t.data.toList.take k) < 1152921504606846976 := by
  have h1 := unL_lt h
  have h2 : (t.data.toList.take k).length ≤ 15 := by rw [List.length_take]; omega
  have h3 : 16 ^ (t.data.toList.take k).length ≤ 16 ^ 15 := Nat.pow_le_pow_right (by decide) h2
  omega
theorem dig_not {t : ByteArray} {k : Nat} (hk : k < t.size) (hd : ¬ unD t[k] < 16) : uhB t = false := by
  unfold uhB
  cases h : digL t.data.toList with
  | false => rw [Bool.and_false]
  | true => exact absurd (digL_at h k hk) hd
set_option maxRecDepth 100000 in
set_option maxHeartbeats 3200000 in
theorem l08Unhex_any (t : ByteArray) (w : World) (hs : t.size ≤ 1048576) : Calls Tryd.prog 76 #[.string t] w (UhOut t w) := by
  unfold UhOut
  by_cases h16 : t.size = 16
  · have HN : Hid (uhB t = true → uhN t = unL t.data.toList) := Lib.hid fun h => by unfold uhN; rw [if_pos h]
    have HZ : Hid (uhB t = false → uhN t = 0) := Lib.hid fun h => by unfold uhN; rw [h]; rfl
    have HY : Hid (digL (t.data.toList.take 16) = true → uhB t = true ∧ unL (t.data.toList.take 16) = unL t.data.toList) := Lib.hid fun h => by
      rw [List.take_of_length_le (by rw [← Lib.size_eq]; omega)] at h ⊢
      unfold uhB
      rw [h, decide_eq_true h16]
      exact ⟨rfl, rfl⟩
    have H1 : Hid (∀ k (h : k < t.size), digL (t.data.toList.take k) = true → unD t[k] < 16 → digL (t.data.toList.take (k + 1)) = true) := Lib.hid fun k h hd hu => dig_next h hd hu
    have H2 : Hid (∀ k (h : k < t.size), unL (t.data.toList.take (k + 1)) = 16 * unL (t.data.toList.take k) + unD t[k]) := Lib.hid fun k h => un_next h
    have H3 : Hid (∀ k, k ≤ 15 → digL (t.data.toList.take k) = true → unL (t.data.toList.take k) < 1152921504606846976) := Lib.hid fun k hk h => un_small h hk
    have H4 : Hid (∀ k (h : k < t.size), ¬ unD t[k] < 16 → uhB t = false) := Lib.hid fun k h hd => dig_not h hd
    have H5 : Hid (∀ k (h : k < t.size), unD t[k] = if 48 ≤ t[k].toNat ∧ t[k].toNat ≤ 57 then t[k].toNat - 48 else if 97 ≤ t[k].toNat ∧ t[k].toNat ≤ 102 then t[k].toNat - 87 else 16) := Lib.hid fun k h => unD_at _
    have H0 : Hid (unL (t.data.toList.take 0) = 0 ∧ digL (t.data.toList.take 0) = true) := Lib.hid ⟨rfl, rfl⟩
    have HS16 := Lib.hid h16
    have hz : ((t.size : Int) != 16) = false := by rw [h16]; rfl
    have hz2 : (t.size : Int) = 16 := by omega
    generalize hU : (fun k => unL (t.data.toList.take k)) = U
    have hU' : ∀ k, unL (t.data.toList.take k) = U k := fun k => by rw [← hU]
    generalize hG : (fun k => digL (t.data.toList.take k)) = G
    have hG' : ∀ k, digL (t.data.toList.take k) = G k := fun k => by rw [← hG]
    have hu0 : unL (t.data.toList.take 0) = U 0 := hU' 0
    have hg0 : digL (t.data.toList.take 0) = G 0 := hG' 0
    have hu16 : unL (t.data.toList.take 16) = U 16 := hU' 16
    have hg16 : digL (t.data.toList.take 16) = G 16 := hG' 16
    rw [hu0, hg0] at H0
    rw [hu16, hg16] at HY
    simp only [hU', hG'] at H1 H2 H3
    clear hU hU' hG hG' hu0 hg0 hu16 hg16 h16
    generalize unL t.data.toList = UT at *
    go_enter Tryd.func76, Tryd.ntmps76
    go_wp2_with fail
    go_loop [4, 5] (fun xv iv => ∃ k : Nat, k ≤ 16 ∧ iv = .int .i64 k ∧ xv = .int .u64 (U k : Nat) ∧ G k = true) (fun _ iv => 16 - (intOf iv).toNat)
    case atStart => exact ⟨0, by omega, rfl, by rw [H0.out.1]; rfl, H0.out.2⟩
    case round =>
      obtain ⟨k, hk, rfl, rfl, hg⟩ := hrel
      have HG := Lib.hid hg
      clear hg
      by_cases hlt : k < 16
      · have lk : k < t.size := by have := HS16.out; omega
        have hx := H3.out k (by omega) HG.out
        have HU := Lib.hid (H2.out k lk)
        have HD := Lib.hid (H5.out k lk)
        have HGk := Lib.hid (H1.out k lk HG.out)
        have HBk := Lib.hid (H4.out k lk)
        have hc : t[k].toNat < 256 := t[k].toNat_lt
        generalize unD t[k] = D at *
        generalize hcc : t[k].toNat = c at *
        have hcI : (t[k].toNat : Int) = (c : Int) := by rw [hcc]
        generalize U k = x at *
        clear H1 H2 H3 H4 H5 hcc
        by_cases hdig : 48 ≤ c ∧ c ≤ 57
        · have hD := HD.out
          rw [if_pos hdig] at hD
          obtain ⟨g1, g2⟩ := hdig
          have f1 : (48 : Int) ≤ (c : Int) := by omega
          have f2 : (c : Int) ≤ 57 := by omega
          have f4 : IntKind.u8.wrap ((c : Int) - 48) = (D : Int) := by rw [IntKind.wrap_u8]; omega
          have f4' : (c : Int) - 48 = (D : Int) := by omega
          have hDl : D < 16 := by omega
          have HX := Lib.hid (HGk.out hDl)
          clear hD g1 g2
          go_wp2_with fail
          go_round
          case rel => exact ⟨k + 1, by omega, by go_num, by rw [HU.out]; go_num, HX.out⟩
          case measure => simp [intOf]; omega
        · by_cases hlet : 97 ≤ c ∧ c ≤ 102
          · have hD := HD.out
            rw [if_neg hdig, if_pos hlet] at hD
            obtain ⟨g1, g2⟩ := hlet
            have f0 : ¬ (c : Int) ≤ 57 := by omega
            have f00 : (48 : Int) ≤ (c : Int) := by omega
            have f1 : (97 : Int) ≤ (c : Int) := by omega
            have f2 : (c : Int) ≤ 102 := by omega
            have hDl : D < 16 := by omega
            have HX := Lib.hid (HGk.out hDl)
            have HDD : Hid (16 * x + D = 16 * x + (c - 97) + 10) := Lib.hid (by omega)
            have f4 : IntKind.u8.wrap ((c : Int) - 97) = ((c - 97 : Nat) : Int) := by rw [IntKind.wrap_u8]; omega
            have f4' : (c : Int) - 97 = ((c - 97 : Nat) : Int) := by omega
            have f5 : c - 97 ≤ 5 := by omega
            clear hD g1 g2 hdig
            generalize c - 97 = z at *
            go_wp2_with fail
            go_round
            case rel => exact ⟨k + 1, by omega, by go_num, by rw [HU.out, HDD.out]; go_num, HX.out⟩
            case measure => simp [intOf]; omega
          · have hD := HD.out
            rw [if_neg hdig, if_neg hlet] at hD
            have HF := Lib.hid (HBk.out (by omega))
            clear hD
            by_cases g1 : 48 ≤ c
            · have f1 : (48 : Int) ≤ (c : Int) := by omega
              have f2 : ¬ (c : Int) ≤ 57 := by omega
              by_cases g2 : 97 ≤ c
              · have f3 : (97 : Int) ≤ (c : Int) := by omega
                have f4 : ¬ (c : Int) ≤ 102 := by omega
                clear hdig hlet
                go_wp2_with fail
                go_ret2
                rw [HF.out, HZ.out HF.out]
                exact ⟨rfl, rfl⟩
              · have f3 : ¬ (97 : Int) ≤ (c : Int) := by omega
                clear hdig hlet
                go_wp2_with fail
                go_ret2
                rw [HF.out, HZ.out HF.out]
                exact ⟨rfl, rfl⟩
            · have f1 : ¬ (48 : Int) ≤ (c : Int) := by omega
              have f3 : ¬ (97 : Int) ≤ (c : Int) := by omega
              clear hdig hlet
              go_wp2_with fail
              go_ret2
              rw [HF.out, HZ.out HF.out]
              exact ⟨rfl, rfl⟩
      · obtain rfl : k = 16 := by omega
        obtain ⟨hy1, hy2⟩ := HY.out HG.out
        have HF := Lib.hid (And.intro hy1 hy2)
        clear hy1 hy2
        go_wp2_with fail
        go_ret2
        rw [HF.out.1, HN.out HF.out.1, ← HF.out.2]
        exact ⟨rfl, rfl⟩
  · have hF : uhB t = false := by unfold uhB; rw [decide_eq_false h16, Bool.false_and]
    have hZ : uhN t = 0 := by unfold uhN; rw [hF]; rfl
    have hz : ((t.size : Int) != 16) = true := by simp; omega
    rw [hF, hZ]
    clear hF hZ
    go_enter Tryd.func76, Tryd.ntmps76
    go_wp2_with fail
    go_ret2
    exact ⟨rfl, rfl⟩
end Go.Proofs.YtklkgacgmcnlnaaDoor
