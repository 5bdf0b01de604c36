/-
  A record that bytes tell: plain; spec.l07Long.
-/
import Derived.Test.YtielmnkhcljmeaaDoorLo1
namespace Go.Proofs.YtielmnkhcljmeaaDoor
open Go Go.RowKit

/-- the byte at a place -/
def byN (l : List UInt8) (i : Nat) : Nat := (l.getD i 0).toNat
theorem byN_lt (l : List UInt8) (i : Nat) : byN l i < 256 := UInt8.toNat_lt _
/-- where the seed begins; how many draws; where they end -/
def atL (l : List UInt8) : Nat := 5 + byN l 4
def manyL (l : List UInt8) : Nat := byN l (atL l + 17) + 256 * byN l (atL l + 18)
def endL (l : List UInt8) : Nat := atL l + 19 + 2 * manyL l
theorem manyL_lt (l : List UInt8) : manyL l ≤ 65535 := by
  have h1 := byN_lt l (atL l + 17)
  have h2 := byN_lt l (atL l + 18)
  unfold manyL
  omega
theorem atL_lt (l : List UInt8) : atL l ≤ 260 := by
  have h1 := byN_lt l 4
  unfold atL
  omega
/-- how long the first record is, 0 if there is none -/
def longL (l : List UInt8) : Nat := if l.length < 5 then 0 else if l.length < atL l + 19 then 0 else if l.length < endL l + 2 then 0 else endL l + 2
/-- the record's parts -/
def nmL (l : List UInt8) : List UInt8 := (l.drop 5).take (byN l 4)
def kL (l : List UInt8) : Int := byN l (atL l)
def aL (l : List UInt8) : Int := rdB ((l.drop (atL l + 1)).take 8)
def bL (l : List UInt8) : Int := rdB ((l.drop (atL l + 9)).take 8)
def dsL (l : List UInt8) : Nat → List Int
  | 0 => []
  | i + 1 => dsL l i ++ [((byN l (atL l + 19 + 2 * i) + 256 * byN l (atL l + 19 + 2 * i + 1) : Nat) : Int)]
theorem dsL_len (l : List UInt8) (i : Nat) : (dsL l i).length = i := by
  induction i with
  | zero => rfl
  | succ i ih => simp [dsL, ih]
theorem rdB_two {l : List UInt8} {i : Nat} (h : i + 2 ≤ l.length) : rdB ((l.drop i).take 2) = byN l i + 256 * byN l (i + 1) := by
  rw [rdB_front (by omega), rdB_front (by omega)]
  unfold byN
  rw [List.getD_eq_getElem?_getD, List.getD_eq_getElem?_getD, List.getElem?_eq_getElem (by omega), List.getElem?_eq_getElem (by omega)]
  show _ + 256 * (_ + 256 * rdB _) = _
  rw [List.take_zero]
  rfl
theorem kL_range (l : List UInt8) : 0 ≤ kL l ∧ kL l < 256 := by
  have := byN_lt l (atL l)
  unfold kL
  omega
theorem aL_range (l : List UInt8) : 0 ≤ aL l ∧ aL l < 18446744073709551616 := by
  have h := rdB_lt 8 ((l.drop (atL l + 1)).take 8) (by rw [List.length_take]; omega)
  unfold aL
  omega
theorem bL_range (l : List UInt8) : 0 ≤ bL l ∧ bL l < 18446744073709551616 := by
  have h := rdB_lt 8 ((l.drop (atL l + 9)).take 8) (by rw [List.length_take]; omega)
  unfold bL
  omega
theorem by_idx {s : ByteArray} {i : Nat} (h : i < s.size) : s[i].toNat = byN s.data.toList i := by
  unfold byN
  rw [List.getD_eq_getElem?_getD, List.getElem?_eq_getElem (by rw [← Lib.size_eq]; exact h)]
  rfl
theorem wi {x : Int} (h : 0 ≤ x ∧ x ≤ 9223372036854775807) : IntKind.i64.wrap x = x := by
  first | (rw [IntKind.wrap_i64]; exact w64_in h) | (rw [IntKind.wrap_i64]; omega) | (simp [go_sem]; omega)
set_option maxRecDepth 100000 in
set_option maxHeartbeats 1600000 in
theorem l07Long_any (s : ByteArray) (w : World) (hs : s.size ≤ 1048576) : Calls Tryd.prog 45 #[.string s] w (fun e w' => e = .returned (.int .i64 (longL s.data.toList : Nat)) ∧ Below w.heap.size w w') := by
  have hl : s.data.toList.length = s.size := (Lib.size_eq s).symm
  have HB : Hid (∀ i (h : i < s.size), s[i].toNat = byN s.data.toList i) := Lib.hid fun i h => by_idx h
  have HA : Hid (atL s.data.toList = 5 + byN s.data.toList 4) := Lib.hid rfl
  have HM : Hid (endL s.data.toList = atL s.data.toList + 19 + 2 * (byN s.data.toList (atL s.data.toList + 17) + 256 * byN s.data.toList (atL s.data.toList + 18))) := Lib.hid rfl
  have HL : Hid (longL s.data.toList = if s.size < 5 then 0 else if s.size < atL s.data.toList + 19 then 0 else if s.size < endL s.data.toList + 2 then 0 else endL s.data.toList + 2) := Lib.hid (by unfold longL; rw [hl])
  have HT : Hid (∀ i, byN s.data.toList i < 256) := Lib.hid fun i => byN_lt _ i
  clear hl
  generalize longL s.data.toList = N at *
  generalize endL s.data.toList = E at *
  generalize atL s.data.toList = a at *
  generalize byN s.data.toList = by_ at *
  by_cases h5 : s.size < 5
  · have HN : Hid (N = 0) := Lib.hid (by rw [HL.out, if_pos h5])
    go_enter Tryd.func45, Tryd.ntmps45
    go_wp2_with fail
    go_ret
    rw [HN.out]
    exact ⟨rfl, Below.refl _ _⟩
  · have hb4 : (5 : Int) + (s[4].toNat : Int) = (a : Int) := by rw [HB.out 4 (by omega), HA.out]; omega
    have ha : a ≤ 260 := by have := HT.out 4; have := HA.out; omega
    by_cases h19 : s.size < a + 19
    · have HN : Hid (N = 0) := Lib.hid (by rw [HL.out, if_neg h5, if_pos h19])
      go_enter Tryd.func45, Tryd.ntmps45
      go_wp2_with fail
      go_ret
      rw [HN.out]
      exact ⟨rfl, Below.refl _ _⟩
    · have b17 : (s[a + 17].toNat : Int) = (by_ (a + 17) : Int) := by rw [HB.out (a + 17) (by omega)]
      have b18 : (s[a + 18].toNat : Int) = (by_ (a + 18) : Int) := by rw [HB.out (a + 18) (by omega)]
      obtain ⟨p17, hp17⟩ : ∃ p, p = a + 17 := ⟨_, rfl⟩
      obtain ⟨p18, hp18⟩ : ∃ p, p = a + 18 := ⟨_, rfl⟩
      have l17 : p17 < s.size := by omega
      have l18 : p18 < s.size := by omega
      have b17 : (s[p17].toNat : Int) = (by_ p17 : Int) := by rw [HB.out p17 l17]
      have b18 : (s[p18].toNat : Int) = (by_ p18 : Int) := by rw [HB.out p18 l18]
      have q17 : IntKind.i64.wrap ((a : Int) + 17) = (p17 : Int) := by rw [wi (by omega)]; omega
      have q18 : IntKind.i64.wrap ((a : Int) + 18) = (p18 : Int) := by rw [wi (by omega)]; omega
      have t17 := HT.out p17
      have t18 := HT.out p18
      have HE := HM.out
      rw [← hp17, ← hp18] at HE
      clear hp17 hp18
      generalize by_ p17 = x at *
      generalize by_ p18 = y at *
      have HEE := Lib.hid HE
      clear HE HA HB
      have hw1 : IntKind.i64.wrap ((a : Int) + 21) = (a : Int) + 21 := wi (by omega)
      have hw4 : IntKind.i64.wrap (256 * (y : Int)) = 256 * (y : Int) := wi (by omega)
      have hw5 : IntKind.i64.wrap ((x : Int) + 256 * (y : Int)) = (x : Int) + 256 * (y : Int) := wi (by omega)
      have hw6 : IntKind.i64.wrap (2 * ((x : Int) + 256 * (y : Int))) = 2 * ((x : Int) + 256 * (y : Int)) := wi (by omega)
      have hw7 : IntKind.i64.wrap ((a : Int) + 21 + 2 * ((x : Int) + 256 * (y : Int))) = (a : Int) + 21 + 2 * ((x : Int) + 256 * (y : Int)) := wi (by omega)
      by_cases hE : s.size < E + 2
      · have HN : Hid (N = 0) := Lib.hid (by rw [HL.out, if_neg h5, if_neg h19, if_pos hE])
        have hgt : (s.size : Int) < (a : Int) + 21 + 2 * ((x : Int) + 256 * (y : Int)) := by have := HEE.out; omega
        clear HL hE
        go_enter Tryd.func45, Tryd.ntmps45
        go_wp2_with fail
        go_quiet (fail)
        go_wp2_with fail
        go_ret
        rw [HN.out]
        exact ⟨rfl, below_drewN (Below.refl _ _) _⟩
      · have HN : Hid (N = E + 2) := Lib.hid (by rw [HL.out, if_neg h5, if_neg h19, if_neg hE])
        have hgt : ¬ (s.size : Int) < (a : Int) + 21 + 2 * ((x : Int) + 256 * (y : Int)) := by have := HEE.out; omega
        clear HL hE
        go_enter Tryd.func45, Tryd.ntmps45
        go_wp2_with fail
        go_quiet (fail)
        go_wp2_with fail
        go_ret
        have := HEE.out
        exact ⟨by rw [HN.out]; go_num, below_drewN (Below.refl _ _) _⟩
end Go.Proofs.YtielmnkhcljmeaaDoor
