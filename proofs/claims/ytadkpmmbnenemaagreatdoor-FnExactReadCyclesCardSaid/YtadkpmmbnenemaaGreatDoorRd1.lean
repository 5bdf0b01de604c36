/-
  A number that a text tells: plain.
-/
import Derived.Test.YtadkpmmbnenemaaGreatDoorTb2
import Derived.Lib.ParseIntBCases
namespace Go.Proofs.YtadkpmmbnenemaaGreatDoor
open Go Go.RowKit

theorem dig_val {d : Nat} (h : d < 10) : (UInt8.ofNat (48 + d)).toNat = 48 + d := by
  have h : (UInt8.ofNat (48 + d)).toNat = (48 + d) % 256 := UInt8.toNat_ofNat'
  rw [h]
  omega
theorem dec_step (u : Nat) (h : ¬ u < 10) : Lib.decDigits u = Lib.decDigits (u / 10) ++ [UInt8.ofNat (48 + u % 10)] := by
  rw [Lib.decDigits, dif_neg h]
theorem dec_last (u : Nat) (h : u < 10) : Lib.decDigits u = [UInt8.ofNat (48 + u)] := by rw [Lib.decDigits, dif_pos h]
/-- the bytes of numerals -/
def isDig (b : UInt8) : Prop := 48 ≤ b.toNat ∧ b.toNat ≤ 57
theorem dec_digs : ∀ (u : Nat) b, b ∈ Lib.decDigits u → isDig b := by
  intro u
  induction u using Nat.strongRecOn with
  | ind u ih =>
    intro b hb
    by_cases h : u < 10
    · rw [dec_last u h] at hb
      rw [List.mem_singleton] at hb
      subst hb
      have := dig_val h
      unfold isDig
      omega
    · rw [dec_step u h] at hb
      rcases List.mem_append.1 hb with hb | hb
      · exact ih (u / 10) (by omega) b hb
      · rw [List.mem_singleton] at hb
        subst hb
        have := dig_val (d := u % 10) (by omega)
        unfold isDig
        omega
theorem itoa_bytes {n : Int} {b : UInt8} (h : b ∈ Lib.itoa n) : b = 45 ∨ isDig b := by
  unfold Lib.itoa at h
  split at h
  · rcases List.mem_cons.1 h with h | h
    · exact .inl h
    · exact .inr (dec_digs _ _ h)
  · exact .inr (dec_digs _ _ h)
theorem pm_app (M : Nat) (r : List UInt8) : ∀ (l : List UInt8) (acc v : Nat), Lib.parseUintM M acc l = .ok v → Lib.parseUintM M acc (l ++ r) = Lib.parseUintM M v r := by
  intro l
  induction l with
  | nil =>
    intro acc v h
    have : acc = v := by simpa [Lib.parseUintM] using h
    rw [this]
    rfl
  | cons c l ih =>
    intro acc v h
    rw [List.cons_append]
    rw [Lib.parseUintM] at h
    rw [Lib.parseUintM]
    split at h
    · split at h
      · cases h
      · split at h
        · cases h
        · rename_i h1 h2 h3
          rw [if_pos h1, if_neg h2, if_neg h3]
          exact ih _ _ h
    · cases h
theorem pm_dec (M : Nat) : ∀ u : Nat, u ≤ 1000000000000000 → u ≤ M → Lib.parseUintM M 0 (Lib.decDigits u) = .ok u := by
  intro u
  induction u using Nat.strongRecOn with
  | ind u ih =>
    intro hu hM
    by_cases h : u < 10
    · rw [dec_last u h]
      have hd := dig_val h
      unfold Lib.parseUintM
      rw [hd, if_pos (by omega), if_neg (by omega), if_neg (by omega)]
      unfold Lib.parseUintM
      congr 1
      omega
    · rw [dec_step u h, pm_app M _ _ _ _ (ih (u / 10) (by omega) (by omega) (by omega))]
      have hd := dig_val (d := u % 10) (by omega)
      unfold Lib.parseUintM
      rw [hd, if_pos (by omega), if_neg (by omega), if_neg (by omega)]
      unfold Lib.parseUintM
      congr 1
      omega
theorem pu_dec {u : Nat} (hu : u ≤ 1000000000000000) : Lib.parseUintB 64 (Lib.decDigits u) = .ok u := by
  have hne : Lib.decDigits u ≠ [] := fun e => by
    have := decDigits_len u
    rw [e] at this
    simp at this
  unfold Lib.parseUintB
  rw [if_neg hne]
  exact pm_dec _ u hu (by omega)
theorem parse_itoa {n : Int} (h : valB n = true) : Lib.parseIntB 64 (Lib.itoa n) = .ok n := by
  obtain ⟨h1, h2⟩ := inB_of h
  unfold Lib.itoa
  by_cases hn : n < 0
  · rw [if_pos hn]
    have hp := pu_dec (u := n.natAbs) (by omega)
    simp only [Lib.parseIntB]
    rw [if_pos (by right; rfl), hp]
    simp only []
    rw [if_neg (fun hh => hh.1 rfl), if_neg (by omega), if_pos (show UInt8.toNat 45 = 45 from rfl)]
    congr 1
    omega
  · rw [if_neg hn]
    have hp := pu_dec (u := n.toNat) (by omega)
    have hd := dec_digs n.toNat
    cases hl : Lib.decDigits n.toNat with
    | nil =>
      have := decDigits_len n.toNat
      rw [hl] at this
      simp at this
    | cons c r =>
      have hc : isDig c := hd c (by rw [hl]; exact List.mem_cons_self ..)
      unfold isDig at hc
      rw [hl] at hp
      simp only [Lib.parseIntB]
      rw [if_neg (by omega), hp]
      simp only []
      rw [if_neg (by omega), if_neg (by omega), if_neg (by omega)]
      congr 1
      omega
/-- what the reference reads off bytes: digits make a number, other bytes are passed over -/
def sv (l : List UInt8) : Nat := l.foldl (fun n b => if 48 ≤ b.toNat ∧ b.toNat ≤ 57 then 10 * n + (b.toNat - 48) else n) 0
theorem sv_snoc (l : List UInt8) (b : UInt8) : sv (l ++ [b]) = if 48 ≤ b.toNat ∧ b.toNat ≤ 57 then 10 * sv l + (b.toNat - 48) else sv l := by
  unfold sv
  rw [List.foldl_append]
  rfl
theorem sv_lt : ∀ (k : Nat) (l : List UInt8), l.length ≤ k → sv l < 10 ^ k := by
  intro k
  induction k with
  | zero =>
    intro l h
    obtain rfl : l = [] := List.length_eq_zero_iff.1 (by omega)
    decide
  | succ k ih =>
    intro l h
    rcases List.eq_nil_or_concat l with rfl | ⟨p, b, rfl⟩
    · exact Nat.pow_pos (by decide)
    · rw [List.concat_eq_append] at h ⊢
      rw [List.length_append] at h
      have := ih p (by simp at h; omega)
      rw [sv_snoc, Nat.pow_succ]
      split <;> omega
theorem sv_dec (p : List UInt8) (hp : sv p = 0) : ∀ u : Nat, sv (p ++ Lib.decDigits u) = u := by
  intro u
  induction u using Nat.strongRecOn with
  | ind u ih =>
    by_cases h : u < 10
    · rw [dec_last u h, sv_snoc, hp]
      have hd := dig_val h
      rw [hd, if_pos (by omega)]
      omega
    · rw [dec_step u h, ← List.append_assoc, sv_snoc, ih (u / 10) (by omega)]
      have hd := dig_val (d := u % 10) (by omega)
      rw [hd, if_pos (by omega)]
      omega
/-- .. with its sign -/
def svI (l : List UInt8) : Int := if l.head? = some 45 then -(sv l : Int) else sv l
theorem svI_itoa (n : Int) : svI (Lib.itoa n) = n := by
  unfold svI Lib.itoa
  by_cases hn : n < 0
  · rw [if_pos hn, if_pos (show (45 :: Lib.decDigits n.natAbs).head? = some 45 from rfl)]
    have := sv_dec [45] rfl n.natAbs
    rw [List.singleton_append] at this
    rw [this]
    omega
  · rw [if_neg hn]
    have h1 := sv_dec [] rfl n.toNat
    rw [List.nil_append] at h1
    rw [h1, if_neg]
    · omega
    · intro e
      have hm : (45 : UInt8) ∈ Lib.decDigits n.toNat := List.mem_of_mem_head? e
      have := dec_digs _ _ hm
      unfold isDig at this
      exact absurd this.1 (by decide)
theorem itoa_few {n : Int} (h : valB n = true) : 1 ≤ (Lib.itoa n).length ∧ (Lib.itoa n).length ≤ 17 := by
  obtain ⟨h1, h2⟩ := inB_of h
  refine ⟨(itoa_len (by omega)).1, ?_⟩
  unfold Lib.itoa
  split
  · have := decDigits_most 15 n.natAbs (by omega)
    simp
    omega
  · have := decDigits_most 15 n.toNat (by omega)
    omega
/-- the number with a text, and whether there is one -/
def rdV (l : List UInt8) : Int × Bool := match Lib.parseIntB 64 l with
  | .ok v => if valB v = true ∧ Lib.itoa v = l then (v, true) else (0, false)
  | _ => (0, false)
theorem rdV_yes {n : Int} {l : List UInt8} (h : valB n = true) (e : Lib.itoa n = l) : rdV l = (n, true) := by
  subst e
  unfold rdV
  rw [parse_itoa h]
  exact if_pos ⟨h, rfl⟩
theorem rdV_no {l : List UInt8} (h : ∀ n, valB n = true → Lib.itoa n = l → False) : rdV l = (0, false) := by
  unfold rdV
  split
  · rename_i v _
    exact if_neg fun hh => h v hh.1 hh.2
  · rfl
theorem rdV_cases (l : List UInt8) : (∃ n, valB n = true ∧ Lib.itoa n = l ∧ rdV l = (n, true)) ∨ ((∀ n, valB n = true → Lib.itoa n = l → False) ∧ rdV l = (0, false)) := by
  by_cases h : ∃ n, valB n = true ∧ Lib.itoa n = l
  · obtain ⟨n, h1, h2⟩ := h
    exact .inl ⟨n, h1, h2, rdV_yes h1 h2⟩
  · have h' : ∀ n, valB n = true → Lib.itoa n = l → False := fun n h1 h2 => h ⟨n, h1, h2⟩
    exact .inr ⟨h', rdV_no h'⟩
/-- the reference's way gives the same -/
theorem rdV_spec (l : List UInt8) : rdV l = if valB (svI l) = true ∧ Lib.itoa (svI l) = l then (svI l, true) else (0, false) := by
  split
  · rename_i h
    exact rdV_yes h.1 h.2
  · rename_i h
    refine rdV_no fun n h1 h2 => h ?_
    have e := svI_itoa n
    rw [h2] at e
    rw [e]
    exact ⟨h1, h2⟩
theorem rdV_long {l : List UInt8} (h : l.length < 1 ∨ 17 < l.length) : rdV l = (0, false) := by
  refine rdV_no fun n h1 h2 => ?_
  have := itoa_few h1
  rw [h2] at this
  omega
end Go.Proofs.YtadkpmmbnenemaaGreatDoor

