/-
  The check number; names; tests on numbers.
-/
import Derived.Test.YtckdbnnkabgopaaDoorProg
import Derived.Test.YtckdbnnkabgopaaDoorShelf
import Derived.Test.YtckdbnnkabgopaaDoorRc1
import Derived.Test.YtckdbnnkabgopaaDoorMem
import Derived.Test.YtckdbnnkabgopaaDoorOut
import Derived.WalkLawsBesides
import Derived.Deep.QuietTactic
import Derived.BigQuiet
namespace Go.Proofs.YtckdbnnkabgopaaDoor
open Go Go.RowKit

/-- a number within bounds -/
def inB (n a b : Int) : Bool := decide (a ≤ n ∧ n ≤ b)
theorem inB_yes {n a b : Int} (h1 : a ≤ n) (h2 : n ≤ b) : inB n a b = true := decide_eq_true ⟨h1, h2⟩
theorem inB_of {n a b : Int} (h : inB n a b = true) : a ≤ n ∧ n ≤ b := of_decide_eq_true h
theorem within_any (n a b : Int) (w : World) : Calls Tryd.prog 23 #[.int .i64 n, .int .i64 a, .int .i64 b] w (fun e w' => e = .returned (.bool (inB n a b)) ∧ w = w') := by
  have HI : Hid (inB n a b = decide (a ≤ n ∧ n ≤ b)) := Lib.hid rfl
  generalize inB n a b = r at *
  by_cases h1 : a ≤ n
  · by_cases h2 : n ≤ b
    all_goals
      go_enter Tryd.func23, Tryd.ntmps23
      go_wp2
      go_ret
      rw [HI.out]
      exact ⟨by simp [h1, h2], rfl⟩
  · go_enter Tryd.func23, Tryd.ntmps23
    go_wp2
    go_ret
    rw [HI.out]
    exact ⟨by simp; omega, rfl⟩
theorem take_byte {s : ByteArray} {k : Nat} (h : k < s.size) : s.data.toList.take (k + 1) = s.data.toList.take k ++ [s[k]] := by
  rw [List.take_succ_eq_append_getElem (by rw [← Lib.size_eq]; exact h)]
  rfl
theorem take_all (s : ByteArray) : s.data.toList.take s.size = s.data.toList := List.take_of_length_le (by rw [← Lib.size_eq]; exact Nat.le_refl _)
theorem byte_range (b : UInt8) : 0 ≤ (b.toNat : Int) ∧ (b.toNat : Int) ≤ 255 := by
  have := b.toNat_lt
  omega
theorem w64_in {x : Int} (h : 0 ≤ x ∧ x ≤ 9223372036854775807) : wrap64 x = x := by
  have := IntWalk.i64_in x (by omega)
  rw [IntWalk.i64_left] at this
  exact this
theorem chk_step {x b : Int} (hx : 0 ≤ x ∧ x < 65003) (hb : 0 ≤ b ∧ b ≤ 255) : (wrap64 (wrap64 (883 * x + wrap64 b) + 167)).tmod 65003 = (883 * x + b + 167) % 65003 := by
  rw [w64_in (x := b) (by omega), w64_in (x := 883 * x + b) (by omega), w64_in (x := 883 * x + b + 167) (by omega), Int.tmod_eq_emod_of_nonneg (by omega)]
set_option maxHeartbeats 800000 in
theorem CheckOf_any (c : Int) (s : ByteArray) (w : World) (hc : 0 ≤ c ∧ c < 65003) (hs : s.size ≤ 9223372036854775807) :
    Calls Tryd.prog 30 #[.int .i64 c, .string s] w (fun e w' => e = .returned (.tuple #[.int .i64 (chk c s.data.toList), .bool true]) ∧ w = w') := by
  have hin : Hid (inB c 0 65002 = true) := Lib.hid (inB_yes (by omega) (by omega))
  have HR : Hid (∀ k, 0 ≤ chk c (s.data.toList.take k) ∧ chk c (s.data.toList.take k) < 65003) := Lib.hid fun k => chk_range _ _ hc
  have HS : Hid (∀ (k : Nat) (h : k < s.size), chk c (s.data.toList.take (k + 1)) = (883 * chk c (s.data.toList.take k) + (s[k].toNat : Int) + 167) % 65003) := Lib.hid fun k h => by rw [take_byte h, chk_snoc]
  have HE : Hid (chk c s.data.toList = chk c (s.data.toList.take s.size)) := Lib.hid (by rw [take_all])
  have H0 : Hid (chk c (s.data.toList.take 0) = c) := Lib.hid rfl
  rw [HE.out]
  clear HE
  generalize hF : (fun k => chk c (s.data.toList.take k)) = F
  have hF' : ∀ k, chk c (s.data.toList.take k) = F k := fun k => by rw [← hF]
  simp only [hF'] at HR HS H0 ⊢
  clear hF hF'
  go_enter Tryd.func30, Tryd.ntmps30
  go_wp2_with (go_at_call 23; (with_reducible refine (within_any _ _ _ _).mono ?_); rw [hin.out]; rintro e w' ⟨rfl, rfl⟩)
  go_loop [0, 6, 12] (fun cv _ iv => ∃ k : Nat, k ≤ s.size ∧ iv = .int .i64 k ∧ cv = .int .i64 (F k)) (fun _ _ iv => s.size - (intOf iv).toNat)
  case atStart => exact ⟨0, Nat.zero_le _, rfl, by rw [H0.out]⟩
  case round =>
    obtain ⟨k, hk, rfl, rfl⟩ := hrel
    obtain ⟨r0, r1⟩ := HR.out k
    by_cases hlt : k < s.size
    · have HSk := Lib.hid (HS.out k hlt)
      generalize F k = x at *
      go_wp2
      go_round
      case rel => exact ⟨k + 1, by omega, by go_num, by rw [HSk.out, ← chk_step ⟨r0, r1⟩ (byte_range _)]⟩
      case measure => simp [intOf]; omega
    · obtain rfl : k = s.size := by omega
      go_wp2
      go_ret2
      exact ⟨rfl, rfl⟩
/-- a letter; a name -/
def letB (b : UInt8) : Bool := decide (97 ≤ b.toNat ∧ b.toNat ≤ 122)
def nameB (l : List UInt8) : Bool := decide (1 ≤ l.length ∧ l.length ≤ 8) && l.all letB
def alphaL : List UInt8 := [97, 98, 99, 100, 101, 102, 103, 104, 105, 106, 107, 108, 109, 110, 111, 112, 113, 114, 115, 116, 117, 118, 119, 120, 121, 122]
theorem alpha_let : ∀ b : UInt8, alphaL.contains b = letB b := by
  have h : ∀ n : Fin 256, alphaL.contains (UInt8.ofNat n.val) = letB (UInt8.ofNat n.val) := by decide +kernel
  intro b
  have := h ⟨b.toNat, b.toNat_lt⟩
  rwa [UInt8.ofNat_toNat] at this
theorem trim_nil {l cs : List UInt8} : (Lib.trimS l cs = []) ↔ (l.all (cs.contains ·)) = true := by
  have hd : ∀ m : List UInt8, m.dropWhile (cs.contains ·) = [] ↔ m.all (cs.contains ·) = true := by
    intro m
    induction m with
    | nil => simp
    | cons b m ih =>
      rw [List.dropWhile_cons]
      by_cases hb : cs.contains b = true
      · rw [if_pos hb, ih, List.all_cons, hb, Bool.true_and]
      · rw [if_neg hb, List.all_cons]
        simp only [Bool.not_eq_true] at hb
        rw [hb]
        simp
  unfold Lib.trimS Lib.trimLeftS Lib.trimRightS
  rw [hd, List.all_reverse]
  constructor
  · intro h
    have h2 : (l.reverse.dropWhile (cs.contains ·)) = [] := by
      cases hc : l.reverse.dropWhile (cs.contains ·) with
      | nil => rfl
      | cons b m =>
        have h3 := List.head_dropWhile_not (p := fun x => cs.contains x) (l := l.reverse) (by rw [hc]; simp)
        have h4 := List.all_eq_true.1 h b (by rw [hc]; exact List.mem_cons_self ..)
        simp only [hc, List.head_cons] at h3
        rw [h4] at h3
        cases h3
    rw [hd, List.all_reverse] at h2
    exact h2
  · intro h
    have h2 : (l.reverse.dropWhile (cs.contains ·)) = [] := by rw [hd, List.all_reverse]; exact h
    rw [h2]
    rfl
theorem trim_alpha (l : List UInt8) : (Lib.trimS l alphaL).isEmpty = l.all letB := by
  have h : l.all (alphaL.contains ·) = l.all letB := by
    congr 1
    funext b
    exact alpha_let b
  rw [Bool.eq_iff_iff, List.isEmpty_iff, trim_nil, h]
def alphaS : ByteArray := ⟨#[97, 98, 99, 100, 101, 102, 103, 104, 105, 106, 107, 108, 109, 110, 111, 112, 113, 114, 115, 116, 117, 118, 119, 120, 121, 122]⟩
theorem Trim_any (s : ByteArray) (w : World) (hs : s.size ≤ 9223372036854775807) :
    Calls Tryd.prog 32 #[.string s, .string ⟨#[97, 98, 99, 100, 101, 102, 103, 104, 105, 106, 107, 108, 109, 110, 111, 112, 113, 114, 115, 116, 117, 118, 119, 120, 121, 122]⟩] w (fun e w' => ∃ r : ByteArray, e = .returned (.string r) ∧ r.toList.isEmpty = s.data.toList.all letB ∧ Below w.heap.size w w') := by
  have h := Any.strings_Trim_laid Tryd.lays160 (by kernel_rfl) s alphaS w hs (by decide) (Go.Proofs.ascii_of_all (by decide))
  refine Calls.mono h ?_
  rintro e w' ⟨rfl, hb⟩
  refine ⟨_, rfl, ?_, hb⟩
  rw [← trim_alpha]
  have : (⟨(Lib.trimS s.data.toList alphaS.data.toList).toArray⟩ : ByteArray).toList = Lib.trimS s.data.toList alphaL := by
    rw [Lib.toList_data]
    rfl
  rw [this]
end Go.Proofs.YtckdbnnkabgopaaDoor

