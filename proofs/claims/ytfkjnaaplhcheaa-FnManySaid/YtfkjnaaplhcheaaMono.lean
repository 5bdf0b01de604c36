/-
  Worlds that have grown: small steps for regions in which calls, new boxes and draws come in any order.
  The order of numbers by whole numbers: every number that is no NaN has a key, and numbers stand to one another as their keys. Which sums, differences and products are no NaN.
  Contracts of the loops over a list of single precision numbers.
  Which chains are valid: the program's test and the reference's test give one and the same Bool.
  impl.ValidChain gives the Bool 'validB'.
  Rounding is monotone: what is not greater than a number of the format rounds to nothing greater. No program.
-/
import Derived.Test.YtfkjnaaplhcheaaMem
import Derived.Deep.OwnRows
import Derived.Deep.AppendLies
import Derived.Test.YtfkjnaaplhcheaaRnd
import Derived.Test.YtfkjnaaplhcheaaFa
namespace Go.Proofs.Ytfkjnaaplhcheaa
open Go Go.RowKit

theorem below_al {w W : World} (h : Below w.heap.size w W) (o : Obj) : Below w.heap.size w (W.alloc o) := h.alloc h.size o
theorem below_dr {w W : World} (h : Below w.heap.size w W) : Below w.heap.size w W.drew := below_drewN h 1
theorem below_dn {w W : World} (h : Below w.heap.size w W) (n : Nat) : Below w.heap.size w (W.drewN n) := below_drewN h n
theorem below_next {w W W' : World} (h : Below w.heap.size w W) (hb : Below W.heap.size W W') : Below w.heap.size w W' := h.trans (hb.mono h.size)
theorem below_set {w W : World} (h : Below w.heap.size w W) (a : Addr) (v : Value) (ha : w.heap.size ≤ a.block) : Below w.heap.size w (W.setCell a v) := h.setCell ha v

theorem own_rowIs {w : World} {g base m : Nat} {t : TypeId} {f : Nat → Value} (h : w.rowIs g t m f) (hb : base ≤ g) (hm : m ≤ maxLen) : w.ownsRow base t 1 (.slice (some ⟨g, 0, none⟩) m m) m ((List.range m).map f) := by
  obtain ⟨c, h1, h2, h3⟩ := h
  refine ⟨by simp, .inr ⟨g, m, c, rfl, hb, h1, Nat.le_refl _, hm, by omega, ?_⟩⟩
  refine List.ext_getElem (by simp; omega) fun i hi1 hi2 => ?_
  have hi : i < m := by simp at hi2; exact hi2
  have := h3 i hi
  rw [Array.getElem?_eq_getElem (by omega)] at this
  rw [List.getElem_take, List.getElem_map, List.getElem_range]
  exact Option.some.inj this
/-- a slice of the call's own that grows: k cells of type e, v its value; nothing that was there in w is changed -/
def Grow (w : World) (e : TypeId) (k : Nat) (vs : List Value) (v : Value) (wr : World) : Prop :=
  Below w.heap.size w wr ∧ ∃ A c, v = .slice A k c ∧ wr.ownsRow w.heap.size e 1 (.slice A k c) k vs
theorem Grow.nil (w : World) (e : TypeId) : Grow w e 0 [] (.slice none 0 0) w := ⟨Below.refl _ _, none, 0, rfl, World.ownsRow_nil _ _ _ _⟩
theorem Grow.empty (w : World) (e : TypeId) : Grow w e 0 [] (.slice (some ⟨w.heap.size, 0, none⟩) 0 0) (w.alloc (.cells #[] e)) := by
  refine ⟨below_al (Below.refl _ _) _, _, _, rfl, by simp, .inr ⟨w.heap.size, 0, #[], rfl, Nat.le_refl _, ?_, Nat.le_refl _, by unfold maxLen; omega, by simp, by simp⟩⟩
  exact heap_alloc_new w _
theorem Grow.keep {w wr w' : World} {e : TypeId} {k : Nat} {vs : List Value} {v : Value} (h : Grow w e k vs v wr) (hb : Below wr.heap.size wr w') : Grow w e k vs v w' := by
  obtain ⟨h1, A, c, rfl, h2⟩ := h
  exact ⟨below_next h1 hb, A, c, rfl, own_below h2 hb⟩
theorem Grow.step {w wr wa w3 : World} {e : TypeId} {k g cap : Nat} {A : Option Addr} {c : Nat} {vs : List Value} {x : Value} {o : Obj} (hb : Below w.heap.size w wr) (ho : wr.ownsRow w.heap.size e 1 (.slice A k c) k vs) (hk : Below wr.heap.size wr wa)
    (hg : (wa.alloc o).grownBy w3 (Value.slice A k c).ownBlock) (h3 : w3.ownsRow w.heap.size e 1 (.slice (some ⟨g, 0, none⟩) (k + 1) cap) (k + 1) (vs ++ [x])) : Grow w e (k + 1) (vs ++ [x]) (.slice (some ⟨g, 0, none⟩) (k + 1) cap) w3 := by
  have h1 := below_al (below_next hb hk) o
  exact ⟨h1.grown hg h1.size (fun j hj => (ho.lt j hj).1), _, _, rfl, h3⟩
end Go.Proofs.Ytfkjnaaplhcheaa
namespace Go.Proofs.Ytfkjnaaplhcheaa
open Go Ieee

/-- the key: the rung, negative with the sign -/
def key (f : Format) (x : Nat) : Int := if negOf f x then -(rungOf f x : Int) else rungOf f x

theorem mu_succ (f : Format) (r : Nat) : mu f r < mu f (r + 1) := by
  have hb := binade_pos f
  unfold mu
  by_cases h1 : r + 1 < f.binade
  · rw [if_pos h1, if_pos (by omega)]
    omega
  · by_cases h2 : r < f.binade
    · have : r + 1 = f.binade := by omega
      rw [if_pos h2, if_neg h1, this, Nat.mod_self, Nat.div_self hb]
      simp
      omega
    · rw [if_neg h2, if_neg h1]
      have hd : r / f.binade * f.binade + r % f.binade = r := by rw [Nat.mul_comm]; exact Nat.div_add_mod r f.binade
      have hm := Nat.mod_lt r hb
      have hq : 1 ≤ r / f.binade := (Nat.le_div_iff_mul_le hb).2 (by omega)
      by_cases h3 : r % f.binade + 1 < f.binade
      · have e1 : (r + 1) % f.binade = r % f.binade + 1 := by
          rw [← hd, Nat.add_assoc, Nat.mul_comm, Nat.mul_add_mod, Nat.mod_eq_of_lt h3, Nat.mul_add_mod, Nat.mod_eq_of_lt hm]
        have e2 : (r + 1) / f.binade = r / f.binade := by
          rw [← hd, Nat.add_assoc, Nat.mul_comm, Nat.mul_add_div hb, Nat.div_eq_of_lt h3, Nat.mul_add_div hb, Nat.div_eq_of_lt hm]
        rw [e1, e2]
        exact Nat.mul_lt_mul_of_pos_right (by omega) (Nat.two_pow_pos _)
      · have h4 : r % f.binade + 1 = f.binade := by omega
        have hr1 : r + 1 = (r / f.binade + 1) * f.binade := by rw [Nat.add_mul, Nat.one_mul]; omega
        have e1 : (r + 1) % f.binade = 0 := by rw [hr1]; exact Nat.mul_mod_left _ _
        have e2 : (r + 1) / f.binade = r / f.binade + 1 := by rw [hr1]; exact Nat.mul_div_cancel _ hb
        rw [e1, e2]
        have e3 : 2 ^ (r / f.binade + 1 - 1) = 2 * 2 ^ (r / f.binade - 1) := by
          rw [← Nat.pow_succ']
          congr 1
          omega
        rw [e3, Nat.add_zero, ← Nat.mul_assoc]
        exact Nat.mul_lt_mul_of_pos_right (by omega) (Nat.two_pow_pos _)
theorem mu_mono (f : Format) {r s : Nat} (h : r < s) : mu f r < mu f s := by
  induction s with
  | zero => omega
  | succ s ih =>
    rcases Nat.lt_or_ge r s with h1 | h1
    · exact Nat.lt_trans (ih h1) (mu_succ f s)
    · have : r = s := by omega
      subst this
      exact mu_succ f r
theorem mu_zero (f : Format) : mu f 0 = 0 := by
  unfold mu
  rw [if_pos (binade_pos f)]
theorem mu_le_iff (f : Format) (r s : Nat) : mu f r ≤ mu f s ↔ r ≤ s := by
  constructor
  · intro h
    rcases Nat.lt_or_ge s r with h1 | h1
    · have := mu_mono f h1; omega
    · exact h1
  · intro h
    rcases Nat.lt_or_ge r s with h1 | h1
    · exact Nat.le_of_lt (mu_mono f h1)
    · have : r = s := by omega
      rw [this]
      exact Nat.le_refl _

/-- a finite word's datum: its worth in units, with its sign -/
theorem read_fin {f : Format} {x : Nat} (h : rungOf f x < f.infRung) : ∃ m e, f.read x = .number (negOf f x) m e ∧ f.leastPlace ≤ e ∧ m * 2 ^ (e - f.leastPlace).toNat = mu f (rungOf f x) := by
  rw [read_eq]
  unfold mu
  by_cases h1 : rungOf f x < f.binade
  · rw [if_pos h1, if_pos h1]
    exact ⟨_, _, rfl, Int.le_refl _, by simp⟩
  · rw [if_neg h1, if_pos h, if_neg h1]
    refine ⟨_, _, rfl, by omega, ?_⟩
    congr 2
    omega
def smu (f : Format) (x : Nat) : Int := if negOf f x then -(mu f (rungOf f x) : Int) else mu f (rungOf f x)

theorem signed_scale (s : Bool) (m a b : Nat) : signed s m (a + b) = signed s m a * 2 ^ b := by
  unfold signed
  rw [Nat.shiftLeft_eq, Nat.shiftLeft_eq, Nat.pow_add, ← Nat.mul_assoc]
  split
  · rw [Int.neg_mul]
    push_cast
    rfl
  · push_cast
    rfl
theorem compare_scale (a b : Int) (k : Nat) : compare (a * 2 ^ k) (b * 2 ^ k) = compare a b := by
  have hp : (0 : Int) < 2 ^ k := Int.pow_pos (by decide)
  rcases Int.lt_trichotomy a b with h | h | h
  · rw [Int.compare_eq_lt.2 h, Int.compare_eq_lt.2 (Int.mul_lt_mul_of_pos_right h hp)]
  · subst h
    rw [Int.compare_eq_eq.2 rfl, Int.compare_eq_eq.2 rfl]
  · rw [Int.compare_eq_gt.2 h, Int.compare_eq_gt.2 (Int.mul_lt_mul_of_pos_right h hp)]
theorem order_units {f : Format} {x y : Nat} (hx : rungOf f x < f.infRung) (hy : rungOf f y < f.infRung) : f.order x y = some (compare (smu f x) (smu f y)) := by
  obtain ⟨m, e, hr, he, hm⟩ := read_fin hx
  obtain ⟨n, d, hs, hd, hn⟩ := read_fin hy
  unfold Format.order Datum.order
  rw [hr, hs]
  simp only
  have hb : f.leastPlace ≤ min e d := by omega
  have e1 : (e - f.leastPlace).toNat = (e - min e d).toNat + (min e d - f.leastPlace).toNat := by omega
  have e2 : (d - f.leastPlace).toNat = (d - min e d).toNat + (min e d - f.leastPlace).toNat := by omega
  have s1 : smu f x = signed (negOf f x) m (e - min e d).toNat * 2 ^ (min e d - f.leastPlace).toNat := by
    rw [← signed_scale, ← e1]
    unfold smu signed
    rw [Nat.shiftLeft_eq, hm]
  have s2 : smu f y = signed (negOf f y) n (d - min e d).toNat * 2 ^ (min e d - f.leastPlace).toNat := by
    rw [← signed_scale, ← e2]
    unfold smu signed
    rw [Nat.shiftLeft_eq, hn]
  rw [s1, s2, compare_scale]
theorem compare_congr {a b c d : Int} (h1 : a < b ↔ c < d) (h2 : b < a ↔ d < c) : compare a b = compare c d := by
  rcases Int.lt_trichotomy a b with h | h | h
  · rw [Int.compare_eq_lt.2 h, Int.compare_eq_lt.2 (h1.1 h)]
  · have e : c = d := by
      have n1 : ¬ c < d := fun h' => by have := h1.2 h'; omega
      have n2 : ¬ d < c := fun h' => by have := h2.2 h'; omega
      omega
    rw [Int.compare_eq_eq.2 h, Int.compare_eq_eq.2 e]
  · rw [Int.compare_eq_gt.2 h, Int.compare_eq_gt.2 (h2.1 h)]
theorem smu_lt {f : Format} {x y : Nat} : smu f x < smu f y ↔ key f x < key f y := by
  unfold smu key
  have a1 := mu_le_iff f (rungOf f x) (rungOf f y)
  have a2 := mu_le_iff f (rungOf f y) (rungOf f x)
  have a3 := mu_le_iff f (rungOf f x) 0
  have a4 := mu_le_iff f (rungOf f y) 0
  rw [mu_zero] at a3 a4
  generalize mu f (rungOf f x) = a at *
  generalize mu f (rungOf f y) = b at *
  generalize rungOf f x = r at *
  generalize rungOf f y = s at *
  cases negOf f x <;> cases negOf f y <;> simp <;> omega
theorem notNan_le {f : Format} (he : 1 ≤ f.exponentBits) {x : Nat} (h : isNan f x = false) : rungOf f x ≤ f.infRung := by
  rcases Nat.lt_or_ge f.infRung (rungOf f x) with h1 | h1
  · rw [(nan_iff f he x).2 h1] at h
    cases h
  · exact h1
theorem inf_pos {f : Format} (he : 1 ≤ f.exponentBits) : 0 < f.infRung := Nat.lt_of_lt_of_le (binade_pos f) (binade_le_inf f he)
theorem read_inf {f : Format} (he : 1 ≤ f.exponentBits) {x : Nat} (h : rungOf f x = f.infRung) : f.read x = .infinity (negOf f x) := by
  have := binade_le_inf f he
  rw [read_eq, if_neg (by omega), if_neg (by omega), if_pos h]
/-- NUMBERS STAND TO ONE ANOTHER AS THEIR KEYS -/
theorem order_key {f : Format} (he : 1 ≤ f.exponentBits) {x y : Nat} (hx : isNan f x = false) (hy : isNan f y = false) : f.order x y = some (compare (key f x) (key f y)) := by
  have lx := notNan_le he hx
  have ly := notNan_le he hy
  have hp := inf_pos he
  by_cases h1 : rungOf f x < f.infRung
  · by_cases h2 : rungOf f y < f.infRung
    · rw [order_units h1 h2, compare_congr smu_lt smu_lt]
    · have e2 : rungOf f y = f.infRung := by omega
      obtain ⟨m, e, hr, -, -⟩ := read_fin h1
      unfold Format.order Datum.order
      rw [hr, read_inf he e2]
      simp only
      unfold key
      rw [e2]
      cases negOf f x <;> cases negOf f y <;> simp <;> (first | (symm; rw [Int.compare_eq_lt]; omega) | (symm; rw [Int.compare_eq_gt]; omega))
  · have e1 : rungOf f x = f.infRung := by omega
    by_cases h2 : rungOf f y < f.infRung
    · obtain ⟨m, e, hr, -, -⟩ := read_fin h2
      unfold Format.order Datum.order
      rw [hr, read_inf he e1]
      simp only
      unfold key
      rw [e1]
      cases negOf f x <;> cases negOf f y <;> simp <;> (first | (symm; rw [Int.compare_eq_lt]; omega) | (symm; rw [Int.compare_eq_gt]; omega))
    · have e2 : rungOf f y = f.infRung := by omega
      unfold Format.order Datum.order
      rw [read_inf he e1, read_inf he e2]
      simp only
      unfold key
      rw [e1, e2]
      have c0 : ∀ a : Int, compare a a = .eq := fun a => Int.compare_eq_eq.2 rfl
      have c1 : compare ((f.infRung : Nat) : Int) (-((f.infRung : Nat) : Int)) = .gt := Int.compare_eq_gt.2 (by omega)
      have c2 : compare (-((f.infRung : Nat) : Int)) ((f.infRung : Nat) : Int) = .lt := Int.compare_eq_lt.2 (by omega)
      cases negOf f x <;> cases negOf f y <;> simp only [if_true, Bool.false_eq_true, if_false, c0, c1, c2] <;> rfl

/-! ### tests in terms of keys -/
section
variable {f : Format} (he : 1 ≤ f.exponentBits) {x y : Nat} (hx : isNan f x = false) (hy : isNan f y = false)
include he hx hy
theorem lt_key : (f.order x y == some .lt) = decide (key f x < key f y) := by
  rw [order_key he hx hy]
  rcases Int.lt_trichotomy (key f x) (key f y) with h | h | h
  · rw [Int.compare_eq_lt.2 h, decide_eq_true h]; rfl
  · rw [Int.compare_eq_eq.2 h, decide_eq_false (by omega)]; rfl
  · rw [Int.compare_eq_gt.2 h, decide_eq_false (by omega)]; rfl
theorem gt_key : (f.order x y == some .gt) = decide (key f y < key f x) := by
  rw [order_key he hx hy]
  rcases Int.lt_trichotomy (key f x) (key f y) with h | h | h
  · rw [Int.compare_eq_lt.2 h, decide_eq_false (by omega)]; rfl
  · rw [Int.compare_eq_eq.2 h, decide_eq_false (by omega)]; rfl
  · rw [Int.compare_eq_gt.2 h, decide_eq_true h]; rfl
theorem eq_key : (f.order x y == some .eq) = decide (key f x = key f y) := by
  rw [order_key he hx hy]
  rcases Int.lt_trichotomy (key f x) (key f y) with h | h | h
  · rw [Int.compare_eq_lt.2 h, decide_eq_false (by omega)]; rfl
  · rw [Int.compare_eq_eq.2 h, decide_eq_true h]; rfl
  · rw [Int.compare_eq_gt.2 h, decide_eq_false (by omega)]; rfl
theorem le_key : (f.order x y == some .lt || f.order x y == some .eq) = decide (key f x ≤ key f y) := by
  rw [lt_key he hx hy, eq_key he hx hy, ← Bool.decide_or]
  apply decide_eq_decide.2
  omega
theorem ge_key : (f.order x y == some .gt || f.order x y == some .eq) = decide (key f y ≤ key f x) := by
  rw [gt_key he hx hy, eq_key he hx hy, ← Bool.decide_or]
  apply decide_eq_decide.2
  omega
end

/-! ### which results are no NaN -/
theorem notNan_word {f : Format} (he : 1 ≤ f.exponentBits) {d : Datum} (h : d.isNaN = false) : isNan f (f.write d) = false := notNan_write f he d h
theorem read_notNan {f : Format} {x : Nat} (h : isNan f x = false) : (∃ m e, f.read x = .number (negOf f x) m e) ∨ f.read x = .infinity (negOf f x) := by
  have hh := h
  unfold isNan Datum.isNaN at hh
  rw [read_eq] at hh ⊢
  by_cases h1 : rungOf f x < f.binade
  · rw [if_pos h1]; exact .inl ⟨_, _, rfl⟩
  · rw [if_neg h1] at hh ⊢
    by_cases h2 : rungOf f x < f.infRung
    · rw [if_pos h2]; exact .inl ⟨_, _, rfl⟩
    · rw [if_neg h2] at hh ⊢
      by_cases h3 : rungOf f x = f.infRung
      · rw [if_pos h3]; exact .inr rfl
      · rw [if_neg h3] at hh; cases hh
theorem read_isFin {f : Format} {x : Nat} (h : isFin f x = true) : ∃ m e, f.read x = .number (negOf f x) m e := by
  rcases read_notNan (fin_not_nan h) with h1 | h1
  · exact h1
  · unfold isFin at h
    rw [h1] at h
    cases h
/-- a sum of which one part is finite and the other no NaN -/
theorem add_some {f : Format} (he : 1 ≤ f.exponentBits) {x y : Nat} (hx : isNan f x = false) (hy : isFin f y = true) : ∃ r, f.add x y = some r ∧ isNan f r = false := by
  obtain ⟨n, d, hs⟩ := read_isFin hy
  unfold Format.add
  rcases read_notNan hx with ⟨m, e, hr⟩ | hr <;> rw [hr, hs]
  · exact ⟨_, rfl, notNan_write f he _ rfl⟩
  · exact ⟨_, rfl, notNan_write f he _ rfl⟩
theorem sub_some {f : Format} (he : 1 ≤ f.exponentBits) {x y : Nat} (hx : isNan f x = false) (hy : isFin f y = true) : ∃ r, f.sub x y = some r ∧ isNan f r = false := by
  obtain ⟨n, d, hs⟩ := read_isFin hy
  unfold Format.sub
  rcases read_notNan hx with ⟨m, e, hr⟩ | hr <;> rw [hr, hs]
  · exact ⟨_, rfl, notNan_write f he _ rfl⟩
  · exact ⟨_, rfl, notNan_write f he _ rfl⟩
theorem mul_some {f : Format} (he : 1 ≤ f.exponentBits) {x y : Nat} (hx : isFin f x = true) (hy : isFin f y = true) : ∃ r, f.mul x y = some r ∧ isNan f r = false := by
  obtain ⟨m, e, hr⟩ := read_isFin hx
  obtain ⟨n, d, hs⟩ := read_isFin hy
  unfold Format.mul
  rw [hr, hs]
  exact ⟨_, rfl, notNan_write f he _ rfl⟩
end Go.Proofs.Ytfkjnaaplhcheaa
namespace Go.Proofs.Ytfkjnaaplhcheaa
open Go Go.RowKit Ieee

/-- a row: finite numbers of at least 0, from 1 to 12 of them -/
def rowB (xs : List Nat) : Bool := xs.all leastB && (decide (1 ≤ xs.length) && decide (xs.length ≤ 12))

/-- where the first number is of which a test says yes -/
def idxOf (p : Nat → Bool) (xs : List Nat) : Int := match xs.findIdx? p with | some i => i | none => -1
theorem idxOf_hit {p : Nat → Bool} {xs : List Nat} {k : Nat} (hk : k < xs.length) (h0 : (xs.take k).any p = false) (h1 : p xs[k] = true) : idxOf p xs = k := by
  have : xs.findIdx? p = some k := by
    rw [List.findIdx?_eq_some_iff_getElem]
    refine ⟨hk, h1, fun j hj => ?_⟩
    have := List.any_eq_false.1 h0 xs[j] (List.mem_take_iff_getElem.2 ⟨j, by omega, rfl⟩)
    simpa using this
  unfold idxOf
  rw [this]
theorem idxOf_none {p : Nat → Bool} {xs : List Nat} (h : xs.any p = false) : idxOf p xs = -1 := by
  have : xs.findIdx? p = none := by
    rw [List.findIdx?_eq_none_iff]
    intro x hx
    simpa using List.any_eq_false.1 h x hx
  unfold idxOf
  rw [this]
theorem idxOf_any (p : Nat → Bool) (xs : List Nat) : (decide (0 ≤ idxOf p xs)) = xs.any p := by
  cases ha : xs.any p with
  | false => rw [idxOf_none ha]; rfl
  | true =>
    unfold idxOf
    cases hf : xs.findIdx? p with
    | none =>
      rw [List.findIdx?_eq_none_iff] at hf
      obtain ⟨x, hx, hp⟩ := List.any_eq_true.1 ha
      rw [hf x hx] at hp
      cases hp
    | some i => simp

/-- the tests that are handed to the search: functions without captured variables -/
def testOf (g : Nat) : Prop := g = 114

set_option maxHeartbeats 1600000 in
theorem IndexFunc_fl (g : Nat) (hgs : testOf g) (p : Nat → Bool) (hg : ∀ (x : Nat) (w : World), Calls Try.prog g #[.float .f32 x] w (Quiet (.bool (p x)) w))
    (A : Option Addr) (xs : List Nat) (c : Nat) (w : World) (hx : xs.length ≤ 9223372036854775807) (h : Rd w w.heap.size A (fl xs)) :
    Calls Try.prog 120 #[.slice A xs.length c, .func (.func g) #[] #[]] w (Quiet (.int .i64 (idxOf p xs)) w) := by
  have HG := Lib.hid hg
  clear hg
  obtain rfl : g = 114 := hgs
  all_goals
    go_enter Try.func120, Try.ntmps120
    go_wp2
    go_loopw [5, 8] (fun _ i wr => ∃ k m : Nat, k ≤ xs.length ∧ i = .int .i64 k ∧ (xs.take k).any p = false ∧ wr = w.drewN m) (fun _ i _ => xs.length - (intOf i).toNat)
    case atStart => exact ⟨0, 0, Nat.zero_le _, rfl, by simp, rfl⟩
    case round =>
      obtain ⟨k, m, hk, rfl, hall, rfl⟩ := hrel
      have HALL := Lib.hid hall
      clear hall
      by_cases hlt : k < xs.length
      · obtain ⟨b, off, rfl, hb, hc⟩ := h.flAt hlt
        clear h
        cases hle : p xs[k] with
        | false =>
          have HLE := Lib.hid hle
          clear hle
          go_wp2_with ((with_reducible refine (HG.out _ _).mono ?_); rw [HLE.out]; rintro e w' ⟨rfl, n, rfl⟩)
          go_roundw
          case rel => exact ⟨k + 1, m + n, by omega, by go_num, by rw [List.take_succ_eq_append_getElem hlt, List.any_append, HALL.out]; simp [HLE.out], by simp⟩
          case measure => simp [intOf]; omega
        | true =>
          have HLE := Lib.hid hle
          clear hle
          go_wp2_with ((with_reducible refine (HG.out _ _).mono ?_); rw [HLE.out]; rintro e w' ⟨rfl, n, rfl⟩)
          go_ret
          rw [idxOf_hit hlt HALL.out HLE.out]
          exact ⟨rfl, m + n, rfl⟩
      · have hr : idxOf p xs = -1 := by
          have h1 := HALL.out
          rw [List.take_of_length_le (by omega)] at h1
          exact idxOf_none h1
        have HR := Lib.hid hr
        clear hr
        go_wp2
        go_ret
        rw [HR.out]
        exact ⟨rfl, m, rfl⟩

set_option maxHeartbeats 400000 in
theorem ContainsFunc_fl (g : Nat) (hgs : testOf g) (p : Nat → Bool) (hg : ∀ (x : Nat) (w : World), Calls Try.prog g #[.float .f32 x] w (Quiet (.bool (p x)) w))
    (A : Option Addr) (xs : List Nat) (c : Nat) (w : World) (hx : xs.length ≤ 9223372036854775807) (h : Rd w w.heap.size A (fl xs)) :
    Calls Try.prog 102 #[.slice A xs.length c, .func (.func g) #[] #[]] w (Quiet (.bool (xs.any p)) w) := by
  have HG := Lib.hid (IndexFunc_fl g hgs p hg A xs c w hx h)
  have HA := Lib.hid (idxOf_any p xs)
  clear hg
  go_enter Try.func102, Try.ntmps102
  go_wp2_with (go_at_call 120; refine (HG.out).mono ?_; rintro e w' ⟨rfl, n, rfl⟩)
  go_ret
  exact ⟨retB HA.out, n, rfl⟩

/-- the closure of impl.IsRow: what a row's number may not be -/
def badRow (x : Nat) : Bool := !isFin single x || single.order x 0 == some .lt
theorem order_fin {x y : Nat} (hx : isNan single x = false) (hy : isNan single y = false) : single.order x y = some .lt ∨ single.order x y = some .eq ∨ single.order x y = some .gt := by
  unfold isNan Datum.isNaN at hx hy
  unfold Format.order Datum.order
  cases h1 : single.read x with
  | number s m i =>
    cases h2 : single.read y with
    | number t n j =>
      simp only
      cases compare (signed s m (i - min i j).toNat) (signed t n (j - min i j).toNat) <;> simp
    | infinity t => cases t <;> simp
    | nan t u => rw [h2] at hy; simp at hy
  | infinity s =>
    cases h2 : single.read y with
    | number t n j => cases s <;> simp
    | infinity t => simp only; cases compare t.toNat s.toNat <;> simp
    | nan t u => rw [h2] at hy; simp at hy
  | nan s u => rw [h1] at hx; simp at hx
theorem badRow_least (x : Nat) : badRow x = !leastB x := by
  unfold badRow leastB
  cases hf : isFin single x with
  | false => rfl
  | true =>
    rcases order_fin (fin_not_nan hf) (show isNan single 0 = false by decide +kernel) with h | h | h <;> simp [h]
theorem any_badRow (xs : List Nat) : xs.any badRow = !xs.all leastB := by
  rw [List.any_eq_not_all_not]
  congr 2
  funext x
  rw [badRow_least, Bool.not_not]

end Go.Proofs.Ytfkjnaaplhcheaa
namespace Go.Proofs.Ytfkjnaaplhcheaa
open Go Go.RowKit Ieee

theorem quiet_add {P : Program} {f : FuncId} {args : Array Value} {w : World} {a n : Nat} {v : Value}
    (h : Calls P f args (w.drewN (a + n)) (Quiet v (w.drewN (a + n)))) : Calls P f args (w.drewN (a + n)) fun e w'' => e = .returned v ∧ ∃ m, w'' = w.drewN (a + m) :=
  h.mono fun _ _ ⟨he, m, hm⟩ => ⟨he, n + m, by rw [hm, World.drewN_drewN, Nat.add_assoc]⟩
theorem quiet_one {P : Program} {f : FuncId} {args : Array Value} {w : World} {n : Nat} {v : Value}
    (h : Calls P f args (w.drewN n) (Quiet v (w.drewN n))) : Calls P f args (w.drewN n) fun e w'' => e = .returned v ∧ ∃ m, w'' = w.drewN m :=
  h.mono fun _ _ ⟨he, m, hm⟩ => ⟨he, n + m, by rw [hm, World.drewN_drewN]⟩

def inB (n lo hi : Int) : Bool := decide (lo ≤ n ∧ n ≤ hi)
set_option maxHeartbeats 400000 in
theorem within_any (n lo hi : Int) (w : World) : Calls Try.prog 55 #[.int .i64 n, .int .i64 lo, .int .i64 hi] w (Quiet (.bool (inB n lo hi)) w) := by
  have hi' : inB n lo hi = decide (lo ≤ n ∧ n ≤ hi) := rfl
  generalize inB n lo hi = r at *
  by_cases h1 : lo ≤ n
  · by_cases h2 : n ≤ hi
    · have HR : Hid (r = true) := by rw [hi']; exact decide_eq_true ⟨h1, h2⟩
      clear hi'
      go_enter Try.func55, Try.ntmps55
      go_wp2
      go_ret
      rw [HR.out]
      exact .mk0
    · have HR : Hid (r = false) := by rw [hi']; exact decide_eq_false (by omega)
      clear hi'
      go_enter Try.func55, Try.ntmps55
      go_wp2
      go_ret
      rw [HR.out]
      exact ⟨retB (by first | (simp; done) | (simp; omega)), 0, rfl⟩
  · have HR : Hid (r = false) := by rw [hi']; exact decide_eq_false (by omega)
    clear hi'
    go_enter Try.func55, Try.ntmps55
    go_wp2
    go_ret
    rw [HR.out]
    exact .mk0
set_option maxHeartbeats 400000 in
theorem l00In_any (n lo hi : Int) (w : World) : Calls Try.prog 82 #[.int .i64 n, .int .i64 lo, .int .i64 hi] w (Quiet (.bool (inB n lo hi)) w) := by
  have hi' : inB n lo hi = decide (lo ≤ n ∧ n ≤ hi) := rfl
  generalize inB n lo hi = r at *
  by_cases h1 : lo ≤ n
  · by_cases h2 : n ≤ hi
    · have HR : Hid (r = true) := by rw [hi']; exact decide_eq_true ⟨h1, h2⟩
      clear hi'
      go_enter Try.func82, Try.ntmps82
      go_wp2
      go_ret
      rw [HR.out]
      exact .mk0
    · have HR : Hid (r = false) := by rw [hi']; exact decide_eq_false (by omega)
      clear hi'
      go_enter Try.func82, Try.ntmps82
      go_wp2
      go_ret
      rw [HR.out]
      exact ⟨retB (by first | (simp; done) | (simp; omega)), 0, rfl⟩
  · have HR : Hid (r = false) := by rw [hi']; exact decide_eq_false (by omega)
    clear hi'
    go_enter Try.func82, Try.ntmps82
    go_wp2
    go_ret
    rw [HR.out]
    exact .mk0

/-- from 0 to 1 -/
def partB (x : Nat) : Bool := (FloatKind.f32.format.order x 0 == some .gt || FloatKind.f32.format.order x 0 == some .eq) && (FloatKind.f32.format.order x 1065353216 == some .lt || FloatKind.f32.format.order x 1065353216 == some .eq)
theorem partB_eq (x : Nat) : partB x = ((FloatKind.f32.format.order x 0 == some .gt || FloatKind.f32.format.order x 0 == some .eq) && (FloatKind.f32.format.order x 1065353216 == some .lt || FloatKind.f32.format.order x 1065353216 == some .eq)) := rfl

def notPart (x : Nat) : Bool := !partB x
set_option maxHeartbeats 400000 in
theorem areParts1_any (x : Nat) (w : World) : Calls Try.prog 114 #[.float .f32 x] w (Quiet (.bool (notPart x)) w) := by
  have hn : notPart x = !partB x := rfl
  have hp := partB_eq x
  generalize notPart x = r' at *
  generalize partB x = r at *
  cases h1 : (FloatKind.f32.format.order x 0 == some .gt || FloatKind.f32.format.order x 0 == some .eq) with
  | true =>
    rw [h1] at hp
    have HN := Lib.hid hn
    have HP := Lib.hid hp
    clear hp hn
    go_enter Try.func114, Try.ntmps114
    go_wp2
    go_ret
    rw [HN.out, HP.out]
    exact ⟨retB (by simp), 0, rfl⟩
  | false =>
    rw [h1] at hp
    have HN := Lib.hid hn
    have HP := Lib.hid hp
    clear hp hn
    go_enter Try.func114, Try.ntmps114
    go_wp2
    go_ret
    rw [HN.out, HP.out]
    exact ⟨retB (by simp), 0, rfl⟩
theorem any_notPart (xs : List Nat) : (!xs.any notPart) = xs.all partB := by
  rw [List.any_eq_not_all_not, Bool.not_not]
  congr 1
  funext x
  unfold notPart
  rw [Bool.not_not]
set_option maxHeartbeats 400000 in
theorem areParts_any (A : Option Addr) (xs : List Nat) (c : Nat) (w : World) (hx : xs.length ≤ 9223372036854775807) (h : Rd w w.heap.size A (fl xs)) :
    Calls Try.prog 79 #[.slice A xs.length c] w (Quiet (.bool (xs.all partB)) w) := by
  have HC := Lib.hid fun w h => ContainsFunc_fl 114 rfl notPart areParts1_any A xs c w hx h
  have HA := Lib.hid (any_notPart xs)
  go_enter Try.func79, Try.ntmps79
  go_wp2_with (go_at_call 102; refine (HC.out _ h).mono ?_; rintro e w' ⟨rfl, n, rfl⟩)
  go_ret
  exact ⟨retB HA.out, n, rfl⟩

/-! ### keys of constants -/
theorem one_notNan : isNan single 1065353216 = false := by decide +kernel
theorem zero_notNan : isNan single 0 = false := by decide +kernel
theorem one_fin : isFin single 1065353216 = true := by decide +kernel
theorem key_zero : key single 0 = 0 := by decide +kernel
theorem key_one : key single 1065353216 = 1065353216 := by decide +kernel
theorem part_key {x : Nat} (h : partB x = true) : isNan single x = false ∧ 0 ≤ key single x ∧ key single x ≤ 1065353216 ∧ isFin single x = true := by
  have hn : isNan single x = false := by
    cases hn : isNan single x with
    | false => rfl
    | true =>
      have h0 := order_nan_left (f := FloatKind.f32.format) 0 hn
      rw [partB_eq, h0] at h
      cases h
  have g := ge_key (f := single) (by decide) hn zero_notNan
  have l := le_key (f := single) (by decide) hn one_notNan
  rw [partB_eq] at h
  have h' : ((single.order x 0 == some .gt || single.order x 0 == some .eq) && (single.order x 1065353216 == some .lt || single.order x 1065353216 == some .eq)) = true := h
  rw [g, l, key_zero, key_one, Bool.and_eq_true, decide_eq_true_eq, decide_eq_true_eq] at h'
  refine ⟨hn, h'.1, h'.2, ?_⟩
  rw [fin_iff single (by decide)]
  have hi : single.infRung = 2139095040 := rfl
  rw [hi]
  have := h'.1
  have := h'.2
  unfold key at *
  split at this <;> omega

/-- a sum, and 0 where there is none -/
def fadd (x y : Nat) : Nat := (single.add x y).getD 0
def fsub (x y : Nat) : Nat := (single.sub x y).getD 0
def fmul (x y : Nat) : Nat := (single.mul x y).getD 0
def fdiv (x y : Nat) : Nat := (single.div x y).getD 0
theorem fadd_run {x y : Nat} (hx : isNan single x = false) (hy : isFin single y = true) : floatBits .add .f32 x y = some (fadd x y) ∧ isNan single (fadd x y) = false := by
  obtain ⟨r, h, hn⟩ := add_some (f := single) (by decide) hx hy
  have e : fadd x y = r := by unfold fadd; rw [h]; rfl
  rw [e]
  exact ⟨h, hn⟩
theorem fsub_run {x y : Nat} (hx : isNan single x = false) (hy : isFin single y = true) : floatBits .sub .f32 x y = some (fsub x y) ∧ isNan single (fsub x y) = false := by
  obtain ⟨r, h, hn⟩ := sub_some (f := single) (by decide) hx hy
  have e : fsub x y = r := by unfold fsub; rw [h]; rfl
  rw [e]
  exact ⟨h, hn⟩
theorem fmul_run {x y : Nat} (hx : isFin single x = true) (hy : isFin single y = true) : floatBits .mul .f32 x y = some (fmul x y) ∧ isNan single (fmul x y) = false := by
  obtain ⟨r, h, hn⟩ := mul_some (f := single) (by decide) hx hy
  have e : fmul x y = r := by unfold fmul; rw [h]; rfl
  rw [e]
  exact ⟨h, hn⟩
def fsum (xs : List Nat) : Nat := xs.foldl fadd 0
theorem fsum_snoc (xs : List Nat) (x : Nat) : fsum (xs ++ [x]) = fadd (fsum xs) x := by unfold fsum; rw [List.foldl_append]; rfl
theorem fsum_notNan : ∀ (xs : List Nat), (∀ x ∈ xs, isFin single x = true) → isNan single (fsum xs) = false := by
  intro xs
  rw [← List.reverse_reverse xs]
  generalize xs.reverse = ys
  induction ys with
  | nil => exact fun _ => zero_notNan
  | cons y ys ih =>
    intro h
    rw [List.reverse_cons, fsum_snoc]
    exact (fadd_run (ih fun x hx => h x (by simp only [List.mem_reverse] at hx ⊢; exact List.mem_cons_of_mem _ hx)) (h y (by simp))).2

/-- a row of a list that holds rows of n numbers -/
def rowAt (xs : List Nat) (n i : Nat) : List Nat := (xs.drop (i * n)).take n
theorem rowAt_len {xs : List Nat} {n i : Nat} (hl : xs.length = n * n) (hi : i < n) : (rowAt xs n i).length = n := by
  unfold rowAt
  have h1 : i * n + n ≤ n * n := by
    have := Nat.mul_le_mul_right n (show i + 1 ≤ n by omega)
    rw [Nat.add_mul, Nat.one_mul] at this
    exact this
  rw [List.length_take, List.length_drop]
  omega
theorem idx_lt {n i k : Nat} (hi : i < n) (hk : k < n) : i * n + k < n * n := by
  have := Nat.mul_le_mul_right n (show i + 1 ≤ n by omega)
  rw [Nat.add_mul, Nat.one_mul] at this
  omega
theorem rowAt_get {xs : List Nat} {n i k : Nat} (hl : xs.length = n * n) (hi : i < n) (hk : k < n) (h : k < (rowAt xs n i).length) : (rowAt xs n i)[k] = xs[i * n + k]'(by rw [hl]; exact idx_lt hi hk) := by
  have e : rowAt xs n i = (xs.drop (i * n)).take n := rfl
  have h2 : k < ((xs.drop (i * n)).take n).length := by rw [← e]; exact h
  show ((xs.drop (i * n)).take n)[k]'h2 = _
  rw [List.getElem_take, List.getElem_drop]

theorem Rd.row {w : World} {B : Nat} {b off : Nat} {vs : List Value} {lo m : Nat} (h : Rd w B (some ⟨b, off, none⟩) vs) (hm : lo + m ≤ vs.length) : Rd w B (some ⟨b, off + lo, none⟩) ((vs.drop lo).take m) := fun h0 => by
  have hlen : ((vs.drop lo).take m).length = m := by rw [List.length_take, List.length_drop]; omega
  obtain ⟨b', off', e, hb, hc⟩ := h (by omega)
  injection e with e
  injection e with e1 e2
  subst e1 e2
  refine ⟨b, off + lo, rfl, hb, fun k hk => ?_⟩
  have := hc (lo + k) (by omega)
  rw [← Nat.add_assoc] at this
  rw [this, List.getElem_take, List.getElem_drop]

end Go.Proofs.Ytfkjnaaplhcheaa
namespace Go.Proofs.Ytfkjnaaplhcheaa
open Go Go.RowKit Ieee

theorem neg_parts (x : Nat) : rungOf single (Op.negFloat .f32 x) = rungOf single x ∧ negOf single (Op.negFloat .f32 x) = !negOf single x := by
  have h1 : single.signWeight = 2 ^ 31 := rfl
  have h2 : Op.negFloat .f32 x = x ^^^ 2 ^ 31 := rfl
  unfold rungOf negOf
  rw [h1, h2]
  constructor
  · rw [Nat.xor_mod_two_pow, Nat.mod_self, Nat.xor_zero]
  · rw [← Nat.shiftRight_eq_div_pow, ← Nat.shiftRight_eq_div_pow, Nat.shiftRight_xor_distrib]
    have h3 : (2 ^ 31 : Nat) >>> 31 = 1 := rfl
    rw [h3]
    generalize x >>> 31 = y
    have h4 : (y ^^^ 1) % 2 = 1 - y % 2 := by
      have h5 := Nat.xor_mod_two_pow (a := y) (b := 1) (n := 1)
      simp only [Nat.pow_one] at h5
      rw [h5]
      rcases Nat.mod_two_eq_zero_or_one y with h | h <;> rw [h] <;> rfl
    rw [h4]
    rcases Nat.mod_two_eq_zero_or_one y with h | h <;> rw [h] <;> rfl
theorem key_neg (x : Nat) : key single (Op.negFloat .f32 x) = -key single x := by
  unfold key
  rw [(neg_parts x).1, (neg_parts x).2]
  cases negOf single x <;> simp
theorem neg_notNan {x : Nat} (h : isNan single x = false) : isNan single (Op.negFloat .f32 x) = false := by
  rw [Bool.eq_false_iff] at h ⊢
  rw [ne_eq, nan_iff single (by decide)] at h ⊢
  rw [(neg_parts x).1]
  exact h

/-- the absolute value -/
def fabs (x : Nat) : Nat := if key single x < 0 then Op.negFloat .f32 x else x
theorem fabs_notNan {x : Nat} (h : isNan single x = false) : isNan single (fabs x) = false := by
  unfold fabs
  split
  · exact neg_notNan h
  · exact h
theorem key_fabs (x : Nat) : key single (fabs x) = (key single x).natAbs := by
  unfold fabs
  split
  · rw [key_neg]; omega
  · omega
/-- a row's sum lies near 1 -/
def okSum (s : Nat) : Bool := decide (-981668463 ≤ key single (fsub s 1065353216) ∧ key single (fsub s 1065353216) ≤ 981668463)
theorem thou_notNan : isNan single 981668463 = false := by decide +kernel
theorem key_thou : key single 981668463 = 981668463 := by decide +kernel
theorem mthou_notNan : isNan single 3129152111 = false := by decide +kernel
theorem key_mthou : key single 3129152111 = -981668463 := by decide +kernel
theorem okSum_abs {s : Nat} (h : isNan single s = false) : (FloatKind.f32.format.order (fabs (fsub s 1065353216)) 981668463 == some .gt) = !okSum s := by
  have hd := (fsub_run h one_fin).2
  have := gt_key (f := single) (by decide) (fabs_notNan hd) thou_notNan
  have h2 : (FloatKind.f32.format.order (fabs (fsub s 1065353216)) 981668463 == some .gt) = decide (key single 981668463 < key single (fabs (fsub s 1065353216))) := this
  rw [h2, key_thou, key_fabs]
  unfold okSum
  rw [← decide_not]
  apply decide_eq_decide.2
  omega

def rowsOk (xs : List Nat) (n m : Nat) : Bool := (List.range m).all fun i => okSum (fsum (rowAt xs n i))
theorem rowsOk_succ (xs : List Nat) (n m : Nat) : rowsOk xs n (m + 1) = (rowsOk xs n m && okSum (fsum (rowAt xs n m))) := by
  unfold rowsOk
  rw [List.range_succ, List.all_append]
  simp
/-- a chain is valid -/
def validB (side : Int) (xs : List Nat) : Bool := inB side 1 12 && (decide ((xs.length : Int) = side * side) && (xs.all partB && rowsOk xs side.toNat side.toNat))
theorem validB_facts {side : Int} {xs : List Nat} (h : validB side xs = true) : ∃ n : Nat, side = n ∧ 1 ≤ n ∧ n ≤ 12 ∧ xs.length = n * n ∧ xs.all partB = true ∧ rowsOk xs n n = true := by
  unfold validB inB at h
  simp only [Bool.and_eq_true, decide_eq_true_eq] at h
  obtain ⟨⟨h1, h2⟩, h3, h4, h5⟩ := h
  obtain ⟨n, rfl⟩ := Int.eq_ofNat_of_zero_le (show 0 ≤ side by omega)
  refine ⟨n, rfl, by omega, by omega, ?_, h4, h5⟩
  have : ((xs.length : Nat) : Int) = ((n * n : Nat) : Int) := by rw [h3]; push_cast; rfl
  exact Int.ofNat.inj this
theorem validB_bad1 {side : Int} {xs : List Nat} (h : inB side 1 12 = false) : validB side xs = false := by unfold validB; rw [h]; rfl
theorem validB_nat {n : Nat} {xs : List Nat} (h1 : 1 ≤ n) (h2 : n ≤ 12) : validB n xs = (decide (xs.length = n * n) && (xs.all partB && rowsOk xs n n)) := by
  unfold validB inB
  rw [decide_eq_true (by omega), Bool.true_and, Int.toNat_natCast]
  congr 1
  apply decide_eq_decide.2
  constructor
  · intro h
    have : ((xs.length : Nat) : Int) = ((n * n : Nat) : Int) := by rw [h]; push_cast; rfl
    exact Int.ofNat.inj this
  · intro h
    rw [h]
    push_cast
    rfl
theorem rowsOk_false {xs : List Nat} {n m : Nat} (h : rowsOk xs n m = false) (hm : m ≤ n) : rowsOk xs n n = false := by
  unfold rowsOk at *
  rw [List.all_eq_false] at h ⊢
  obtain ⟨i, hi, hb⟩ := h
  exact ⟨i, List.mem_range.2 (by have := List.mem_range.1 hi; omega), hb⟩

end Go.Proofs.Ytfkjnaaplhcheaa
namespace Go.Proofs.Ytfkjnaaplhcheaa
open Go Ieee

theorem mul_pow_add (a b c : Nat) : a * 2 ^ (b + c) = a * 2 ^ b * 2 ^ c := by rw [Nat.pow_add, Nat.mul_assoc]

theorem kept_err (f : Format) (mag : Nat) (place B : Int) (h1 : B ≤ place) (h2 : B ≤ f.leastPlace) :
    2 * (keptOf f mag place * 2 ^ ((lastOf f mag place - f.leastPlace).toNat + (f.leastPlace - B).toNat)) ≤ 2 * (mag * 2 ^ (place - B).toNat) + 2 ^ ((lastOf f mag place - f.leastPlace).toNat + (f.leastPlace - B).toNat) ∧
    2 * (mag * 2 ^ (place - B).toNat) ≤ 2 * (keptOf f mag place * 2 ^ ((lastOf f mag place - f.leastPlace).toNat + (f.leastPlace - B).toNat)) + 2 ^ ((lastOf f mag place - f.leastPlace).toNat + (f.leastPlace - B).toNat) := by
  have hl : f.leastPlace ≤ lastOf f mag place := by unfold lastOf; omega
  unfold keptOf
  generalize lastOf f mag place = last at *
  by_cases hlp : last ≤ place
  · have e1 : (last - place).toNat = 0 := by omega
    have e2 : (place - B).toNat = (place - last).toNat + ((last - f.leastPlace).toNat + (f.leastPlace - B).toNat) := by omega
    rw [e1, cut_zero, Nat.shiftLeft_eq, e2, mul_pow_add mag]
    exact ⟨Nat.le_add_right _ _, Nat.le_add_right _ _⟩
  · have e1 : (place - last).toNat = 0 := by omega
    have e2 : (last - f.leastPlace).toNat + (f.leastPlace - B).toNat = (last - place).toNat + (place - B).toNat := by omega
    rw [e1, Nat.shiftLeft_zero, e2, mul_pow_add, Nat.pow_add]
    obtain ⟨c1, c2⟩ := cut_even mag (last - place).toNat
    generalize Toward.even.cut false mag (last - place).toNat * 2 ^ (last - place).toNat = k at *
    generalize 2 ^ (last - place).toNat = g at *
    generalize 2 ^ (place - B).toNat = p at *
    have m1 := Nat.mul_le_mul_right p c1
    have m2 := Nat.mul_le_mul_right p c2
    rw [Nat.add_mul, Nat.mul_assoc, Nat.mul_assoc] at m1 m2
    exact ⟨m1, m2⟩

/-- the units of a rung told by its stair and its digits -/
theorem mu_stair (f : Format) (e k : Nat) (h : e = 0 ∨ f.binade ≤ k) (h2 : k ≤ 2 * f.binade) : mu f (e * f.binade + k) = k * 2 ^ e := by
  have hb := binade_pos f
  unfold mu
  by_cases hk : k < f.binade
  · have he : e = 0 := by omega
    subst he
    rw [Nat.zero_mul, Nat.zero_add, if_pos hk, Nat.pow_zero, Nat.mul_one]
  · rw [if_neg (by have := Nat.zero_le (e * f.binade); omega)]
    by_cases h3 : k = 2 * f.binade
    · subst h3
      have e1 : e * f.binade + 2 * f.binade = (e + 2) * f.binade := by rw [Nat.add_mul]
      rw [e1, Nat.mul_mod_left, Nat.mul_div_cancel _ hb, Nat.add_zero, show e + 2 - 1 = e + 1 by omega, Nat.pow_succ, Nat.mul_comm 2 f.binade, Nat.mul_assoc, Nat.mul_comm 2]
    · have e1 : e * f.binade + k = f.binade * (e + 1) + (k - f.binade) := by rw [Nat.mul_add, Nat.mul_one, Nat.mul_comm]; omega
      rw [e1, Nat.mul_add_mod, Nat.mul_add_div hb, Nat.mod_eq_of_lt (by omega), Nat.div_eq_of_lt (show k - f.binade < f.binade by omega), Nat.add_zero, Nat.add_sub_cancel, show f.binade + (k - f.binade) = k by omega]

/-- what is not greater than a number of the format rounds to nothing greater -/
theorem rungTo_mono (f : Format) (mag : Nat) (place B : Int) (r : Nat) (h1 : B ≤ place) (h2 : B ≤ f.leastPlace) (hM : mag * 2 ^ (place - B).toNat ≤ mu f r * 2 ^ (f.leastPlace - B).toNat) : rungTo f mag place ≤ r := by
  unfold rungTo
  split
  · exact Nat.zero_le _
  · rename_i hm
    refine Nat.le_trans (Nat.min_le_left _ _) ?_
    obtain ⟨c1, c2⟩ := kept_err f mag place B h1 h2
    have hlog : mag < 2 ^ (mag.log2 + 1) := Nat.lt_log2_self
    have hlog2 : 2 ^ mag.log2 ≤ mag := Nat.log2_self_le hm
    have hlast : lastOf f mag place = max (place + mag.log2 - f.fractionBits) f.leastPlace := rfl
    have hbin : f.binade = 2 ^ f.fractionBits := rfl
    have hb := binade_pos f
    generalize keptOf f mag place = k at *
    have hl : f.leastPlace ≤ lastOf f mag place := by omega
    obtain ⟨e, he⟩ : ∃ e, (lastOf f mag place - f.leastPlace).toNat = e := ⟨_, rfl⟩
    obtain ⟨L, hL⟩ : ∃ L, (f.leastPlace - B).toNat = L := ⟨_, rfl⟩
    obtain ⟨P, hP⟩ : ∃ P, (place - B).toNat = P := ⟨_, rfl⟩
    rw [he, hL, hP] at c1 c2
    rw [hL, hP] at hM
    rw [he]
    have hpe : 0 < 2 ^ (e + L) := Nat.two_pow_pos _
    -- less than two stairs
    have up : mag * 2 ^ P < 2 * f.binade * 2 ^ (e + L) := by
      have a1 : mag * 2 ^ P < 2 ^ (mag.log2 + 1) * 2 ^ P := Nat.mul_lt_mul_of_pos_right hlog (Nat.two_pow_pos _)
      rw [← Nat.pow_add] at a1
      have a2 : 2 * f.binade * 2 ^ (e + L) = 2 ^ (1 + f.fractionBits + (e + L)) := by rw [hbin, Nat.pow_add 2 (1 + f.fractionBits), Nat.pow_add 2 1, Nat.pow_one]
      rw [a2]
      exact Nat.lt_of_lt_of_le a1 (Nat.pow_le_pow_right (by decide) (by omega))
    have hk2 : k ≤ 2 * f.binade := by
      rcases Nat.lt_or_ge (2 * f.binade) k with hlt | hge
      · exfalso
        have a1 := Nat.mul_le_mul_right (2 ^ (e + L)) (show 2 * f.binade + 1 ≤ k by omega)
        rw [Nat.add_mul, Nat.one_mul] at a1
        omega
      · exact hge
    have lo : 0 < e → f.binade * 2 ^ (e + L) ≤ mag * 2 ^ P := fun h0 => by
      have a1 : 2 ^ mag.log2 * 2 ^ P ≤ mag * 2 ^ P := Nat.mul_le_mul_right _ hlog2
      rw [← Nat.pow_add] at a1
      have a2 : f.binade * 2 ^ (e + L) = 2 ^ (mag.log2 + P) := by rw [hbin, ← Nat.pow_add]; congr 1; omega
      rw [a2]
      exact a1
    have hk1 : 0 < e → f.binade ≤ k := fun h0 => by
      rcases Nat.lt_or_ge k f.binade with hlt | hge
      · exfalso
        have a0 := lo h0
        have a1 := Nat.mul_le_mul_right (2 ^ (e + L)) (show k + 1 ≤ f.binade by omega)
        rw [Nat.add_mul, Nat.one_mul] at a1
        omega
      · exact hge
    rcases Nat.lt_or_ge r (e * f.binade + k) with hlt | hge
    · exfalso
      by_cases hc : e = 0 ∨ f.binade < k
      · have hkp : 0 < k := by
          rcases hc with h | h
          · subst h; omega
          · omega
        have hmu : mu f (e * f.binade + (k - 1)) = (k - 1) * 2 ^ e := mu_stair f e (k - 1) (by omega) (by omega)
        have hle : mu f r ≤ mu f (e * f.binade + (k - 1)) := (mu_le_iff f _ _).2 (by omega)
        rw [hmu] at hle
        have a1 := Nat.mul_le_mul_right (2 ^ L) hle
        rw [Nat.mul_assoc, ← Nat.pow_add] at a1
        have a2 : k * 2 ^ (e + L) = (k - 1) * 2 ^ (e + L) + 2 ^ (e + L) := by
          rw [← Nat.succ_mul]
          congr 1
          omega
        omega
      · have hk3 : k = f.binade := by have := hk1 (by omega); omega
        have hmu : mu f (e * f.binade + k) = k * 2 ^ e := mu_stair f e k (by omega) hk2
        have hlt2 : mu f r < mu f (e * f.binade + k) := mu_mono f hlt
        rw [hmu] at hlt2
        have a1 : mu f r * 2 ^ L < k * 2 ^ e * 2 ^ L := Nat.mul_lt_mul_of_pos_right hlt2 (Nat.two_pow_pos _)
        rw [Nat.mul_assoc, ← Nat.pow_add, hk3] at a1
        have := lo (by omega)
        omega
    · exact hge
end Go.Proofs.Ytfkjnaaplhcheaa
