/-
  The text of a seed read back: plain.
-/
import Derived.Test.YtklkgacgmcnlnaaDoorRs2
import Derived.Test.YtklkgacgmcnlnaaDoorCs
import Derived.Test.YtklkgacgmcnlnaaDoorTt
namespace Go.Proofs.YtklkgacgmcnlnaaDoor
open Go Go.RowKit

def semiS : ByteArray := ⟨#[59]⟩
/-- the words between semicolons -/
def semi (s : ByteArray) : List ByteArray := Lib.splitB semiS 0 (Lib.countB s semiS) s
theorem semi_bytes (s : ByteArray) : Cs.bytesOf (semi s) = Lib.split s.data.toList [59] := Lib.splitB_data semiS 0 _ _
theorem semi_len (s : ByteArray) : (semi s).length = Lib.countB s semiS + 1 := Lib.splitB_all semiS (by decide) 0 _ _ rfl
theorem semi_cut (s : ByteArray) : (Cs.cutB s (s.size + 1)).1 = semi s := bytes_inj_list (by
  have h1 := Cs.cutB_all s
  have h2 := semi_bytes s
  unfold Cs.bytesOf at h1 h2
  rw [h1, h2])
theorem semi_sizes (s : ByteArray) : ∀ i, i ≤ s.size + 1 → ∀ p ∈ (Cs.cutB s i).1, p.size ≤ s.size := by
  intro i
  induction i with
  | zero => intro _ p hp; simp [Cs.cutB] at hp
  | succ i ih =>
    intro hi p hp
    rw [Cs.cutB] at hp
    split at hp
    · rcases List.mem_append.1 hp with hp | hp
      · exact ih (by omega) p hp
      · rw [List.mem_singleton] at hp
        subst hp
        rw [Lib.size_eq, Lib.extract_data, Lib.size_eq, List.length_take, List.length_drop]
        omega
    · exact ih (by omega) p hp
theorem semi_size {s p : ByteArray} (h : p ∈ semi s) : p.size ≤ s.size := semi_sizes s (s.size + 1) (Nat.le_refl _) p (by rw [semi_cut]; exact h)
theorem split3 {p0 p1 p2 : List UInt8} (h0 : Cs.noNl p0) (h1 : Cs.noNl p1) (h2 : Cs.noNl p2) : Lib.split (p0 ++ 59 :: (p1 ++ 59 :: p2)) [59] = [p0, p1, p2] := by
  rw [Cs.split_hit h0, Cs.split_hit h1, Cs.split_miss h2]
theorem join3 {l p0 p1 p2 : List UInt8} (h : Lib.split l [59] = [p0, p1, p2]) : l = p0 ++ 59 :: (p1 ++ 59 :: p2) := by
  rcases Cs.nl_cases l with hn | ⟨a, r, rfl, ha⟩
  · rw [Cs.split_miss hn] at h; cases h
  · rw [Cs.split_hit ha] at h
    injection h with e1 h
    rcases Cs.nl_cases r with hn | ⟨b, r2, rfl, hb⟩
    · rw [Cs.split_miss hn] at h; cases h
    · rw [Cs.split_hit hb] at h
      injection h with e2 h
      rcases Cs.nl_cases r2 with hn | ⟨c, r3, rfl, hc⟩
      · rw [Cs.split_miss hn] at h
        injection h with e3 _
        rw [e1, e2, e3]
      · rw [Cs.split_hit hc] at h
        injection h with e3 h
        rcases Cs.nl_cases r3 with hn | ⟨d, r4, rfl, hd⟩
        · rw [Cs.split_miss hn] at h; cases h
        · rw [Cs.split_hit hd] at h; cases h
theorem noNl_dig {l : List UInt8} (h : digL l = true) : Cs.noNl l := fun x hx e => by
  unfold digL at h
  rw [List.all_eq_true] at h
  have := h x hx
  rw [e] at this
  revert this
  decide
theorem itoa_small {k : Int} (h : 0 ≤ k ∧ k ≤ 3) : Lib.itoa k = [UInt8.ofNat (48 + k.toNat)] := by
  unfold Lib.itoa
  rw [if_neg (by omega), Lib.decDigits, dif_pos (by omega)]
theorem noNl_kind {k : Int} (h : 0 ≤ k ∧ k ≤ 3) : Cs.noNl (Lib.itoa k) := by
  rw [itoa_small h]
  have : k = 0 ∨ k = 1 ∨ k = 2 ∨ k = 3 := by omega
  rcases this with rfl | rfl | rfl | rfl <;> (intro x hx e; revert hx; rw [e]; decide)
theorem seedL_join (k : Int) (a b : Nat) : seedL k a b = Lib.itoa k ++ 59 :: (hexL a 16 ++ 59 :: hexL b 16) := by
  unfold seedL
  simp
theorem hex_dig (a : Nat) (ha : a < 18446744073709551616) : digL (hexL a 16) = true ∧ unL (hexL a 16) = a := by
  have := unL_hexL 16 a ha
  exact ⟨this.2, this.1⟩
/-- one way: what is read is told again -/
theorem seed_yes {s p0 p1 p2 : ByteArray} (h : semi s = [p0, p1, p2]) (h0 : (rdV p0.data.toList).2 = true) (h1 : uhB p1 = true) (h2 : uhB p2 = true) : (⟨(seedL (rdV p0.data.toList).1 (unL p1.data.toList) (unL p2.data.toList)).toArray⟩ : ByteArray) = s := by
  have hs := semi_bytes s
  rw [h] at hs
  have hj := join3 (l := s.data.toList) hs.symm
  refine (str_of ?_).symm
  rw [hj, seedL_join]
  unfold uhB at h1 h2
  rw [Bool.and_eq_true] at h1 h2
  have s1 := of_decide_eq_true h1.1
  have s2 := of_decide_eq_true h2.1
  rw [Lib.size_eq] at s1 s2
  rw [(hexL_unL 16 _ s1 h1.2).2, (hexL_unL 16 _ s2 h2.2).2]
  have hr := rdV_spec p0.data.toList
  rw [hr] at h0 ⊢
  split at h0
  · rename_i hh
    rw [if_pos hh]
    dsimp only
    rw [hh.2]
  · cases h0
/-- the other way: what is told again was of sixteen digits -/
theorem seed_back {s p0 p1 p2 : ByteArray} {k : Int} {a b : Nat} (h : semi s = [p0, p1, p2]) (hk : 0 ≤ k ∧ k ≤ 3) (ha : a < 18446744073709551616) (hb : b < 18446744073709551616) (ht : (⟨(seedL k a b).toArray⟩ : ByteArray) = s) : uhB p1 = true ∧ uhB p2 = true := by
  have hs := semi_bytes s
  rw [h] at hs
  have hd : s.data.toList = seedL k a b := by rw [← ht]
  rw [hd, seedL_join, split3 (noNl_kind hk) (noNl_dig (hex_dig a ha).1) (noNl_dig (hex_dig b hb).1)] at hs
  have e1 : p1.data.toList = hexL a 16 := by injection hs with _ hs; injection hs
  have e2 : p2.data.toList = hexL b 16 := by injection hs with _ hs; injection hs with _ hs; injection hs
  unfold uhB
  rw [e1, e2, Lib.size_eq, Lib.size_eq, e1, e2, hexL_len, hexL_len, (hex_dig a ha).1, (hex_dig b hb).1]
  exact ⟨rfl, rfl⟩
structure Sd where
  k : Int
  a : Nat
  b : Nat
def rsOk (s : ByteArray) : Bool := match semi s with
  | [p0, p1, p2] => (rdV p0.data.toList).2 && uhB p1 && uhB p2 && seedB (rdV p0.data.toList).1 (uhN p1) (uhN p2)
  | _ => false
def rsR (s : ByteArray) : Sd := match semi s with
  | [p0, p1, p2] => if rsOk s then ⟨(rdV p0.data.toList).1, uhN p1, uhN p2⟩ else ⟨0, 0, 0⟩
  | _ => ⟨0, 0, 0⟩
def RsOut (s : ByteArray) (w : World) (e : Ending) (w' : World) : Prop := e = .returned (.tuple #[sdV (rsR s).k (rsR s).a (rsR s).b, .bool (rsOk s)]) ∧ Below w.heap.size w w'
theorem rsOk_three {s p0 p1 p2 : ByteArray} (h : semi s = [p0, p1, p2]) : rsOk s = ((rdV p0.data.toList).2 && uhB p1 && uhB p2 && seedB (rdV p0.data.toList).1 (uhN p1) (uhN p2)) := by unfold rsOk; rw [h]
theorem rsR_three {s p0 p1 p2 : ByteArray} (h : semi s = [p0, p1, p2]) (hy : rsOk s = true) : rsR s = ⟨(rdV p0.data.toList).1, uhN p1, uhN p2⟩ := by unfold rsR; rw [h]; dsimp only; rw [if_pos hy]
theorem rsR_no {s : ByteArray} (hy : rsOk s = false) : rsR s = ⟨0, 0, 0⟩ := by
  unfold rsR
  split
  · rw [hy]; rfl
  · rfl
theorem rsOk_len {s : ByteArray} (h : (semi s).length ≠ 3) : rsOk s = false := by
  unfold rsOk
  split
  · rename_i hh; rw [hh] at h; exact absurd rfl h
  · rfl
theorem three_of {ws : List ByteArray} (h : ws.length = 3) : ∃ p0 p1 p2, ws = [p0, p1, p2] := by
  match ws, h with
  | [p0, p1, p2], _ => exact ⟨p0, p1, p2, rfl⟩
theorem RsOut.no {s : ByteArray} {w w' : World} (h : rsOk s = false) (hb : Below w.heap.size w w') : RsOut s w (.returned (.tuple #[.agg #[.int .i64 0, .int .u64 0, .int .u64 0], .bool false])) w' := by
  unfold RsOut
  rw [rsR_no h, h]
  exact ⟨rfl, hb⟩
theorem rdV_bd (l : List UInt8) : -9223372036854775808 ≤ (rdV l).1 ∧ (rdV l).1 ≤ 9223372036854775807 := by
  rw [rdV_spec]
  split
  · rename_i h
    have := inB_of h.1
    exact ⟨by show _ ≤ svI l; omega, by show svI l ≤ _; omega⟩
  · exact ⟨by decide, by decide⟩
theorem uhN_bd (t : ByteArray) : uhN t < 18446744073709551616 := by
  unfold uhN
  split
  · rename_i h
    unfold uhB at h
    rw [Bool.and_eq_true] at h
    have h1 := unL_lt h.2
    have h2 := of_decide_eq_true h.1
    rw [Lib.size_eq] at h2
    rw [h2] at h1
    exact h1
  · decide
end Go.Proofs.YtklkgacgmcnlnaaDoor
