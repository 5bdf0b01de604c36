/-
  FnRecords, plain: what is stored is read back; a cut or a bent text gives the records that end ahead.
-/
import Derived.Test.YtckdbnnkabgopaaDoorRv1
namespace Go.Proofs.YtckdbnnkabgopaaDoor
open Go Go.RowKit

theorem byN_mid (p q : List UInt8) (x : UInt8) : byN (p ++ x :: q) p.length = x.toNat := by
  unfold byN
  rw [List.getD_eq_getElem?_getD, List.getElem?_append_right (Nat.le_refl _), Nat.sub_self]
  rfl
theorem byN_skip (p q : List UInt8) (i : Nat) : byN (p ++ q) (p.length + i) = byN q i := by
  unfold byN
  rw [List.getD_eq_getElem?_getD, List.getElem?_append_right (by omega), Nat.add_sub_cancel_left, ← List.getD_eq_getElem?_getD]
theorem byN_front (p q : List UInt8) (i : Nat) (h : i < p.length) : byN (p ++ q) i = byN p i := by
  unfold byN
  rw [List.getD_eq_getElem?_getD, List.getElem?_append_left h, ← List.getD_eq_getElem?_getD]
theorem u8_toNat {n : Nat} (h : n < 256) : (u8 (n : Int)).toNat = n := by
  have := u8_nat (n : Int)
  omega
theorem rdB_snoc : ∀ (l : List UInt8) (x : UInt8), rdB (l ++ [x]) = rdB l + 256 ^ l.length * x.toNat
  | [], x => by simp [rdB]
  | b :: l, x => by
    show b.toNat + 256 * rdB (l ++ [x]) = b.toNat + 256 * rdB l + 256 ^ (l.length + 1) * x.toNat
    rw [rdB_snoc l x, Nat.pow_succ, Nat.mul_add, Nat.mul_comm (256 ^ l.length) 256, Nat.mul_assoc]
    omega
theorem rdB_le (n k : Nat) : rdB (le (n : Int) k) = n % 256 ^ k := by
  induction k with
  | zero => rw [Nat.pow_zero, Nat.mod_one]; rfl
  | succ k ih =>
    rw [le, rdB_snoc, ih, le_len, Nat.pow_succ, Nat.mod_mul]
    congr 2
    have h := u8_nat ((n : Int) / 256 ^ k)
    have e : ((n : Int) / 256 ^ k) = ((n / 256 ^ k : Nat) : Int) := by
      rw [Int.natCast_ediv, Int.natCast_pow]
      rfl
    rw [e] at h ⊢
    omega
theorem rdB_le8 {a : Int} (h : 0 ≤ a ∧ a < 18446744073709551616) : (rdB (le a 8) : Int) = a := by
  obtain ⟨n, rfl⟩ := Int.eq_ofNat_of_zero_le h.1
  have h1 : n < 256 ^ 8 := by
    have := h.2
    rw [show (256 : Nat) ^ 8 = 18446744073709551616 by decide]
    omega
  rw [rdB_le, Nat.mod_eq_of_lt h1]
theorem drop_mid {p q r : List UInt8} {n k : Nat} (hp : p.length = n) (hq : q.length = k) : ((p ++ q ++ r).drop n).take k = q := by
  rw [← hp, ← hq, List.append_assoc, List.drop_left, List.take_left]
theorem drawL_at : ∀ (ds : List Int) (q : List UInt8) (i : Nat) (h : i < ds.length), (0 ≤ ds[i] ∧ ds[i] ≤ 65535) → ((byN (drawL ds ++ q) (2 * i) : Nat) : Int) + 256 * ((byN (drawL ds ++ q) (2 * i + 1) : Nat) : Int) = ds[i]
  | d :: ds, q, 0, _, hd => by
    rw [drawL, le_two]
    show (((u8 d).toNat : Nat) : Int) + 256 * (((u8 (d / 256)).toNat : Nat) : Int) = d
    rw [u8_nat, u8_nat]
    have : 0 ≤ d ∧ d ≤ 65535 := hd
    omega
  | d :: ds, q, i + 1, h, hd => by
    have hi : i < ds.length := by simpa using h
    have ih := drawL_at ds q i hi hd
    rw [drawL, le_two]
    show ((byN (drawL ds ++ q) (2 * i) : Nat) : Int) + 256 * ((byN (drawL ds ++ q) (2 * i + 1) : Nat) : Int) = ds[i]
    exact ih

section
variable {nm : List UInt8} {k a b : Int} {ds : List Int}
theorem rec_facts (h : recB nm k a b ds = true) : 1 ≤ nm.length ∧ nm.length ≤ 8 ∧ (0 ≤ k ∧ k ≤ 3) ∧ ds.length ≤ 256 ∧ ∀ i (h : i < ds.length), 0 ≤ ds[i] ∧ ds[i] ≤ 65535 := by
  unfold recB at h
  rw [Bool.and_eq_true, Bool.and_eq_true, Bool.and_eq_true] at h
  obtain ⟨⟨⟨h1, h2⟩, h3⟩, h4⟩ := h
  unfold nameB at h1
  rw [Bool.and_eq_true, decide_eq_true_eq] at h1
  exact ⟨h1.1.1, h1.1.2, seedB_kind h2, of_decide_eq_true h3, num_all h4⟩
/-- what stands where in the bytes of a record, whatever comes behind the count of its draws -/
theorem head_facts (rest : List UInt8) (hn : nm.length ≤ 8) (hk : 0 ≤ k ∧ k ≤ 3) (ha : 0 ≤ a ∧ a < 18446744073709551616) (hb : 0 ≤ b ∧ b < 18446744073709551616) (hm : ds.length ≤ 256) :
    atL (headL nm k a b ds.length ++ rest) = 5 + nm.length ∧ nmL (headL nm k a b ds.length ++ rest) = nm ∧ kL (headL nm k a b ds.length ++ rest) = k ∧ aL (headL nm k a b ds.length ++ rest) = a ∧ bL (headL nm k a b ds.length ++ rest) = b ∧ manyL (headL nm k a b ds.length ++ rest) = ds.length := by
  have h4 : byN (headL nm k a b ds.length ++ rest) 4 = nm.length := by
    rw [← u8_toNat (n := nm.length) (by omega)]
    unfold headL
    simp only [List.append_assoc]
    exact byN_mid [82, 69, 67, 49] _ _
  have hat : atL (headL nm k a b ds.length ++ rest) = 5 + nm.length := by unfold atL; rw [h4]
  obtain ⟨n, rfl⟩ := Int.eq_ofNat_of_zero_le hk.1
  have hkb : byN (headL nm n a b ds.length ++ rest) (5 + nm.length) = n := by
    have h := byN_mid ([82, 69, 67, 49] ++ [u8 nm.length] ++ nm) (le a 8 ++ (le b 8 ++ (le ds.length 2 ++ rest))) (u8 (n : Int))
    rw [u8_toNat (by omega)] at h
    rw [show ([82, 69, 67, 49] ++ [u8 (nm.length : Int)] ++ nm : List UInt8).length = 5 + nm.length by simp; try omega] at h
    refine Eq.trans ?_ h
    unfold headL
    simp
  have hmm : ∀ i, byN (headL nm n a b ds.length ++ rest) (22 + nm.length + i) = byN (le ds.length 2 ++ rest) i := fun i => by
    have h := byN_skip ([82, 69, 67, 49] ++ [u8 nm.length] ++ nm ++ [u8 (n : Int)] ++ le a 8 ++ le b 8) (le ds.length 2 ++ rest) i
    rw [show ([82, 69, 67, 49] ++ [u8 (nm.length : Int)] ++ nm ++ [u8 (n : Int)] ++ le a 8 ++ le b 8 : List UInt8).length = 22 + nm.length by simp [le_len]; try omega] at h
    rw [← h]
    unfold headL
    simp
  refine ⟨hat, ?_, ?_, ?_, ?_, ?_⟩
  · unfold nmL
    rw [h4]
    have h := drop_mid (p := [82, 69, 67, 49] ++ [u8 nm.length]) (q := nm) (r := [u8 (n : Int)] ++ le a 8 ++ le b 8 ++ le ds.length 2 ++ rest) (n := 5) (k := nm.length) (by simp) rfl
    rw [← h]
    unfold headL
    simp
  · unfold kL
    rw [hat, hkb]
  · have h := drop_mid (p := [82, 69, 67, 49] ++ [u8 nm.length] ++ nm ++ [u8 (n : Int)]) (q := le a 8) (r := le b 8 ++ le ds.length 2 ++ rest) (n := 5 + nm.length + 1) (k := 8) (by simp; try omega) (le_len _ _)
    unfold aL
    rw [hat]
    rw [show headL nm n a b ds.length ++ rest = [82, 69, 67, 49] ++ [u8 nm.length] ++ nm ++ [u8 (n : Int)] ++ le a 8 ++ (le b 8 ++ le ds.length 2 ++ rest) by unfold headL; simp, h]
    exact rdB_le8 ha
  · have h := drop_mid (p := [82, 69, 67, 49] ++ [u8 nm.length] ++ nm ++ [u8 (n : Int)] ++ le a 8) (q := le b 8) (r := le ds.length 2 ++ rest) (n := 5 + nm.length + 9) (k := 8) (by simp [le_len]; try omega) (le_len _ _)
    unfold bL
    rw [hat]
    rw [show headL nm n a b ds.length ++ rest = [82, 69, 67, 49] ++ [u8 nm.length] ++ nm ++ [u8 (n : Int)] ++ le a 8 ++ le b 8 ++ (le ds.length 2 ++ rest) by unfold headL; simp, h]
    exact rdB_le8 hb
  · unfold manyL
    rw [hat, show 5 + nm.length + 17 = 22 + nm.length + 0 by omega, show 5 + nm.length + 18 = 22 + nm.length + 1 by omega, hmm, hmm, le_two]
    have e1 := u8_nat (ds.length : Int)
    have e2 := u8_nat ((ds.length : Int) / 256)
    show (u8 (ds.length : Int)).toNat + 256 * (u8 ((ds.length : Int) / 256)).toNat = ds.length
    omega
theorem store_form (rest : List UInt8) : storeL nm k a b ds ++ rest = headL nm k a b ds.length ++ (drawL ds ++ (le (chk 0 (recL nm k a b ds)) 2 ++ rest)) := by
  unfold storeL
  generalize le (chk 0 (recL nm k a b ds)) 2 = z
  unfold recL
  simp
theorem read_back (rest : List UInt8) (ha : 0 ≤ a ∧ a < 18446744073709551616) (hb : 0 ≤ b ∧ b < 18446744073709551616) (h : recB nm k a b ds = true) :
    longL (storeL nm k a b ds ++ rest) = (storeL nm k a b ds).length ∧ okL (storeL nm k a b ds ++ rest) = true ∧ Rc.of (storeL nm k a b ds ++ rest) = ⟨⟨nm.toArray⟩, k, a, b, ds⟩ := by
  obtain ⟨h1, h2, h3, h4, h5⟩ := rec_facts h
  obtain ⟨f1, f2, f3, f4, f5, f6⟩ := head_facts (nm := nm) (ds := ds) (drawL ds ++ (le (chk 0 (recL nm k a b ds)) 2 ++ rest)) h2 h3 ha hb h4
  rw [← store_form] at f1 f2 f3 f4 f5 f6
  have hlen := storeL_len nm k a b ds
  have hd : ∀ i, i ≤ ds.length → dsL (storeL nm k a b ds ++ rest) i = ds.take i := by
    intro i
    induction i with
    | zero => intro _; rfl
    | succ i ih =>
      intro hi
      have hg := drawL_at ds (le (chk 0 (recL nm k a b ds)) 2 ++ rest) i (by omega) (h5 i (by omega))
      have e1 := byN_skip (headL nm k a b ds.length) (drawL ds ++ (le (chk 0 (recL nm k a b ds)) 2 ++ rest)) (2 * i)
      have e2 := byN_skip (headL nm k a b ds.length) (drawL ds ++ (le (chk 0 (recL nm k a b ds)) 2 ++ rest)) (2 * i + 1)
      rw [← store_form, headL_len] at e1 e2
      rw [dsL_succ, ih (by omega), f1, List.take_succ_eq_append_getElem (by omega), show 5 + nm.length + 19 + 2 * i = nm.length + 24 + 2 * i by omega, show nm.length + 24 + 2 * i + 1 = nm.length + 24 + (2 * i + 1) by omega, e1, e2, hg]
  have hE : endL (storeL nm k a b ds ++ rest) + 2 = (storeL nm k a b ds).length := by
    unfold endL
    rw [f1, f6, hlen]
    omega
  have hL : longL (storeL nm k a b ds ++ rest) = (storeL nm k a b ds).length := by
    rw [long_is (by rw [f1, List.length_append, hlen]; omega) (by rw [hE, List.length_append]; omega), hE]
  have hds : dsL (storeL nm k a b ds ++ rest) (manyL (storeL nm k a b ds ++ rest)) = ds := by rw [f6, hd _ (Nat.le_refl _), List.take_length]
  refine ⟨hL, ?_, ?_⟩
  · unfold okL
    rw [f2, f3, f4, f5, hds, h, hL, List.take_left, decide_eq_true (rfl : storeL nm k a b ds = storeL nm k a b ds)]
    rfl
  · unfold Rc.of nmS
    rw [f2, f3, f4, f5, hds]
/-- a record that is cut is none -/
theorem cut_zero (c : Nat) (ha : 0 ≤ a ∧ a < 18446744073709551616) (hb : 0 ≤ b ∧ b < 18446744073709551616) (h : recB nm k a b ds = true) (hc : c < (storeL nm k a b ds).length) : longL ((storeL nm k a b ds).take c) = 0 := by
  obtain ⟨h1, h2, h3, h4, h5⟩ := rec_facts h
  obtain ⟨f1, f2, f3, f4, f5, f6⟩ := head_facts (nm := nm) (ds := ds) (drawL ds ++ (le (chk 0 (recL nm k a b ds)) 2 ++ [])) h2 h3 ha hb h4
  rw [← store_form, List.append_nil] at f1 f6
  have hlen := storeL_len nm k a b ds
  have hl : ((storeL nm k a b ds).take c).length = c := by rw [List.length_take]; omega
  by_cases h5' : c < 5
  · unfold longL
    rw [if_pos (by omega)]
  · have hat : atL ((storeL nm k a b ds).take c) = 5 + nm.length := by
      rw [← f1]
      unfold atL
      rw [byN_take (by omega)]
    by_cases h19 : c < 5 + nm.length + 19
    · exact long_zero (by rw [hl, hat]; omega)
    · refine long_short ?_
      rw [hl]
      have hm : manyL ((storeL nm k a b ds).take c) = ds.length := by
        rw [← f6]
        unfold manyL
        rw [hat, f1, byN_take (by omega), byN_take (by omega)]
      unfold endL
      rw [hat, hm]
      omega
end
/-- a valid record with its two words in range -/
def Rc.fine (r : Rc) : Prop := r.valid = true ∧ (0 ≤ r.a ∧ r.a < 18446744073709551616) ∧ (0 ≤ r.b ∧ r.b < 18446744073709551616)
theorem fine_fr {r : Rc} (h : r.fine) (rest : List UInt8) : frB (r.bytes ++ rest) = true ∧ frR (r.bytes ++ rest) = r ∧ frN (r.bytes ++ rest) = r.bytes.length ∧ 26 ≤ r.bytes.length := by
  obtain ⟨h1, h2, h3⟩ := h
  obtain ⟨r1, r2, r3⟩ := read_back (nm := r.nm.data.toList) rest h2 h3 h1
  have hl := storeL_len r.nm.data.toList r.k r.a r.b r.ds
  have hp : 26 ≤ r.bytes.length := by unfold Rc.bytes; omega
  have hB : frB (r.bytes ++ rest) = true := by
    unfold frB Rc.bytes
    rw [r1, r2, decide_eq_true (by omega)]
    rfl
  refine ⟨hB, ?_, ?_, hp⟩
  · unfold frR
    rw [if_pos hB]
    unfold Rc.bytes
    rw [r3]
  · unfold frN
    rw [if_pos hB]
    exact r1
theorem stL_cons (r : Rc) (xs : List Rc) : stL (r :: xs) = r.bytes ++ stL xs := rfl
theorem rcvs_st : ∀ (xs : List Rc) (n : Nat) (rest : List UInt8), (∀ r ∈ xs, r.fine) → rcvs (xs.length + n) (stL xs ++ rest) = xs ++ rcvs n rest ∧ plc (xs.length + n) (stL xs ++ rest) = (stL xs).length + plc n rest
  | [], n, rest, _ => by simp [stL]
  | r :: xs, n, rest, h => by
    obtain ⟨f1, f2, f3, _⟩ := fine_fr (h r (by simp)) (stL xs ++ rest)
    obtain ⟨i1, i2⟩ := rcvs_st xs n rest fun r hr => h r (by simp [hr])
    rw [stL_cons, List.append_assoc, show (r :: xs).length + n = (xs.length + n) + 1 by simp; omega, rcvs_yes _ f1, plc_yes _ f1, f2, f3, List.drop_left, i1, i2, List.length_append]
    exact ⟨rfl, by omega⟩
theorem rcvs_no {l : List UInt8} (n : Nat) (h : longL l = 0) : rcvs n l = [] ∧ plc n l = 0 := by
  cases n with
  | zero => exact ⟨rfl, rfl⟩
  | succ n =>
    unfold rcvs plc
    rw [frB_zero h]
    exact ⟨rfl, rfl⟩
theorem stL_app (xs ys : List Rc) : stL (xs ++ ys) = stL xs ++ stL ys := by simp [stL]
theorem st_split (xs : List Rc) (q : Nat) (hq : q < xs.length) : stL xs = stL (xs.take q) ++ (xs[q].bytes ++ stL (xs.drop (q + 1))) := by
  have h : xs = xs.take q ++ xs[q] :: xs.drop (q + 1) := by rw [← List.drop_eq_getElem_cons hq, List.take_append_drop]
  have h2 : stL xs = stL (xs.take q ++ xs[q] :: xs.drop (q + 1)) := congrArg stL h
  rw [h2, stL_app, stL_cons]
/-- the law for a text that is cut within record q -/
theorem cut_law (xs : List Rc) (hx : ∀ r ∈ xs, r.fine) (h8 : xs.length ≤ 8) (q cut : Nat) (hq : q < xs.length) (h1 : (stL (xs.take q)).length ≤ cut) (h2 : cut < (stL (xs.take (q + 1))).length) :
    rcvs 8 ((stL xs).take cut) = xs.take q ∧ plc 8 ((stL xs).take cut) = (stL (xs.take q)).length := by
  have hs := st_split xs q hq
  rw [stL_succ hq, List.length_append] at h2
  have hf := hx _ (List.getElem_mem hq)
  have ht : (stL xs).take cut = stL (xs.take q) ++ xs[q].bytes.take (cut - (stL (xs.take q)).length) := by
    rw [hs, List.take_append, List.take_of_length_le h1, List.take_append_of_le_length (by omega)]
  have hlen : (xs.take q).length = q := by rw [List.length_take]; omega
  obtain ⟨r1, r2⟩ := rcvs_st (xs.take q) (8 - q) (xs[q].bytes.take (cut - (stL (xs.take q)).length)) fun r hr => hx r (List.mem_of_mem_take hr)
  obtain ⟨z1, z2⟩ := rcvs_no (8 - q) (cut_zero (cut - (stL (xs.take q)).length) hf.2.1 hf.2.2 hf.1 (show _ < xs[q].bytes.length by omega))
  rw [hlen, show q + (8 - q) = 8 by omega] at r1 r2
  rw [ht, r1, r2]
  unfold Rc.bytes
  rw [z1, z2, List.append_nil, Nat.add_zero]
  exact ⟨rfl, rfl⟩
/-- a text that goes on otherwise behind record q -/
theorem bent_law (xs : List Rc) (hx : ∀ r ∈ xs, r.fine) (h8 : xs.length ≤ 8) (q cut : Nat) (hq : q ≤ xs.length) (h1 : (stL (xs.take q)).length ≤ cut) (l : List UInt8) (hl : l.take cut = (stL xs).take cut) : q ≤ (rcvs 8 l).length := by
  have hs : (stL xs).take (stL (xs.take q)).length = stL (xs.take q) := by
    have : stL xs = stL (xs.take q) ++ stL (xs.drop q) := by rw [← stL_app, List.take_append_drop]
    rw [this, List.take_left]
  have ht : l.take (stL (xs.take q)).length = stL (xs.take q) := by
    refine Eq.trans ?_ hs
    rw [← show (l.take cut).take (stL (xs.take q)).length = l.take (stL (xs.take q)).length by rw [List.take_take, Nat.min_eq_left h1], hl, List.take_take, Nat.min_eq_left h1]
  have hlen : (xs.take q).length = q := by rw [List.length_take]; omega
  obtain ⟨r1, _⟩ := rcvs_st (xs.take q) (8 - q) (l.drop (stL (xs.take q)).length) fun r hr => hx r (List.mem_of_mem_take hr)
  have e : l = stL (xs.take q) ++ l.drop (stL (xs.take q)).length := by
    conv => lhs; rw [← List.take_append_drop (stL (xs.take q)).length l, ht]
  rw [hlen, show q + (8 - q) = 8 by omega, ← e] at r1
  rw [r1, List.length_append, hlen]
  omega
/-- what is recovered is stored as the text's beginning -/
theorem rcvs_store : ∀ (n : Nat) (l : List UInt8), (∀ r ∈ rcvs n l, r.valid = true) ∧ stL (rcvs n l) = l.take (plc n l) ∧ plc n l ≤ l.length
  | 0, l => ⟨fun _ h => absurd h (by simp [rcvs]), by simp [rcvs, plc, stL], Nat.zero_le _⟩
  | n + 1, l => by
    by_cases h : frB l = true
    · obtain ⟨i1, i2, i3⟩ := rcvs_store n (l.drop (frN l))
      have hl := fr_long h
      have hle := long_le (l := l)
      have hok : okL l = true := by
        unfold frB at h
        rw [Bool.and_eq_true] at h
        exact h.2
      have hR : frR l = Rc.of l := by unfold frR; rw [if_pos h]
      unfold okL at hok
      rw [Bool.and_eq_true] at hok
      have hby : (frR l).bytes = l.take (frN l) := by
        rw [hR, hl.2]
        exact of_decide_eq_true hok.2
      rw [rcvs_yes n h, plc_yes n h, stL_cons, i2, hby]
      rw [List.length_drop] at i3
      refine ⟨fun r hr => ?_, ?_, by omega⟩
      · rw [List.mem_cons] at hr
        rcases hr with rfl | hr
        · rw [hR]
          exact hok.1
        · exact i1 r hr
      · rw [List.take_add]
    · unfold rcvs plc
      rw [if_neg h, if_neg h]
      exact ⟨fun _ h => absurd h (by simp), by simp [stL], Nat.zero_le _⟩
end Go.Proofs.YtckdbnnkabgopaaDoor
