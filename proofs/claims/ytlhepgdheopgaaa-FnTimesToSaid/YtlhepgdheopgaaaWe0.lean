/-
  The Steps of a chain that is weighed: what they are; that a NaN comes just where 0 is divided by 0. No program.
-/
import Derived.Test.YtlhepgdheopgaaaGw3
import Derived.Test.YtlhepgdheopgaaaRaf
import Derived.Test.YtlhepgdheopgaaaRow
import Derived.Test.YtlhepgdheopgaaaGive
namespace Go.Proofs.Ytlhepgdheopgaaa
open Go Ieee

theorem quo_nn {x y : Nat} (fx : isFin single x = true) (kx : 0 ≤ key single x) (fy : isFin single y = true) (ny : negOf single y = false) :
    single.div x y = none ∨ ∃ q, single.div x y = some q ∧ isNan single q = false ∧ 0 ≤ key single q := by
  have he : 1 ≤ single.exponentBits := by decide
  obtain ⟨s, m, e, h1, hs, -, -, -⟩ := read_nn he fx kx
  obtain ⟨n, j, g1, g2, g3⟩ := read_fin ((fin_iff single he y).1 fy)
  rw [ny] at g1
  have hd : single.div x y = Option.map single.write (if n = 0 then if m = 0 then none else some (.infinity (s ^^ false)) else some (.number (s ^^ false) (2 * (m <<< (25 + n.log2 - m.log2) / n) + (m <<< (25 + n.log2 - m.log2) % n != 0).toNat) (e - j - (25 + n.log2 - m.log2 : Nat) - 1))) := by
    unfold Format.div
    rw [h1, g1]
    rfl
  rw [hd]
  by_cases hn : n = 0
  · rw [if_pos hn]
    by_cases hm : m = 0
    · rw [if_pos hm]
      exact .inl rfl
    · rw [if_neg hm]
      have hsf : s = false := by rcases hs with h | h; exact h; exact absurd h hm
      rw [hsf]
      exact .inr ⟨_, rfl, by decide +kernel, by decide +kernel⟩
  · rw [if_neg hn]
    refine .inr ⟨_, rfl, notNan_word he rfl, ?_⟩
    show 0 ≤ key single (single.nearest (s ^^ false) (2 * (m <<< (25 + n.log2 - m.log2) / n) + (m <<< (25 + n.log2 - m.log2) % n != 0).toNat) (e - j - (25 + n.log2 - m.log2 : Nat) - 1))
    rw [key_nearest]
    rcases hs with rfl | rfl
    · simp
    · have h0 : 2 * (0 <<< (25 + n.log2 - (0 : Nat).log2) / n) + (0 <<< (25 + n.log2 - (0 : Nat).log2) % n != 0).toNat = 0 := by simp
      rw [h0]
      have : ∀ p, rungTo single 0 p = 0 := fun _ => rfl
      rw [this]
      split <;> simp

def zB (xs : List Nat) (n i k : Nat) : Bool := decide (key single (stepOf xs n i k) = 0)
def wA (xs ws : List Nat) (n i k : Nat) : Nat := fmul (rowOf ws k) (stepOf xs n k i)
def wB (xs ws : List Nat) (n i k : Nat) : Nat := fmul (rowOf ws i) (stepOf xs n i k)
def wQ (xs ws : List Nat) (n i k : Nat) : Option Nat := single.div (wA xs ws n i k) (wB xs ws n i k)
def capF (q : Nat) : Nat := if key single 1065353216 < key single q then 1065353216 else q
/-- what is offered for a step -/
def offF (xs ws : List Nat) (n i k : Nat) : Nat := if zB xs n i k = true then 0 else match wQ xs ws n i k with | some q => fmul (stepOf xs n i k) (capF q) | none => 2143289344
def offV (xs ws : List Nat) (n i k v : Nat) : Prop := if zB xs n i k = true then v = 0 else match wQ xs ws n i k with | some q => v = fmul (stepOf xs n i k) (capF q) | none => isNan single v = true
/-- no NaN comes -/
def noNan (xs ws : List Nat) (n : Nat) : Prop := ∀ i k, i < n → k < n → i ≠ k → zB xs n i k = false → wQ xs ws n i k ≠ none
def sumF (xs ws : List Nat) (n i : Nat) : Nat → Nat
  | 0 => 0
  | j + 1 => if j = i then sumF xs ws n i j else fadd (sumF xs ws n i j) (offF xs ws n i j)
def restF (xs ws : List Nat) (n i : Nat) : Nat := fsub 1065353216 (sumF xs ws n i n)
def diagF (xs ws : List Nat) (n i : Nat) : Nat := if key single (restF xs ws n i) < 0 then 0 else restF xs ws n i
def weighF (xs ws : List Nat) (n i k : Nat) : Nat := if i = k then diagF xs ws n i else offF xs ws n i k

theorem offF_V (xs ws : List Nat) (n i k : Nat) : offV xs ws n i k (offF xs ws n i k) := by
  unfold offV offF
  split
  · rfl
  · cases wQ xs ws n i k with
    | some q => rfl
    | none => show isNan single 2143289344 = true; decide +kernel
theorem offV_zero {xs ws : List Nat} {n i k v : Nat} (hz : zB xs n i k = true) : offV xs ws n i k v ↔ v = 0 := by unfold offV; rw [if_pos hz]
theorem offV_some {xs ws : List Nat} {n i k v q : Nat} (hz : zB xs n i k = false) (hq : wQ xs ws n i k = some q) : offV xs ws n i k v ↔ v = fmul (stepOf xs n i k) (capF q) := by unfold offV; rw [if_neg (by rw [hz]; simp), hq]
theorem offV_none {xs ws : List Nat} {n i k v : Nat} (hz : zB xs n i k = false) (hq : wQ xs ws n i k = none) : offV xs ws n i k v ↔ isNan single v = true := by unfold offV; rw [if_neg (by rw [hz]; simp), hq]
theorem offV_eq {xs ws : List Nat} {n i k v : Nat} (hN : noNan xs ws n) (hi : i < n) (hk : k < n) (hik : i ≠ k) (h : offV xs ws n i k v) : v = offF xs ws n i k := by
  have h2 := offF_V xs ws n i k
  cases hz : zB xs n i k with
  | true => rw [(offV_zero hz).1 h, (offV_zero hz).1 h2]
  | false =>
    cases hq : wQ xs ws n i k with
    | none => exact absurd hq (hN i k hi hk hik hz)
    | some q => rw [(offV_some hz hq).1 h, (offV_some hz hq).1 h2]
theorem pos_neg {x : Nat} (h : 0 < key single x) : negOf single x = false := by
  unfold key at h
  cases hn : negOf single x with
  | false => rfl
  | true => rw [hn, if_pos rfl] at h; omega

section
variable {xs ws : List Nat} {n : Nat}
theorem w_row (hrl : ws.length = n) (hr : ws.all leastB = true) (ha : ws.all aboveB = true) {i : Nat} (hi : i < n) : isFin single (rowOf ws i) = true ∧ 0 < key single (rowOf ws i) := by
  obtain ⟨f1, k1⟩ := rowOf_least hr (show i < ws.length by omega)
  refine ⟨f1, above_key ?_ f1⟩
  unfold rowOf
  rw [List.getD_eq_getElem?_getD, List.getElem?_eq_getElem (show i < ws.length by omega)]
  exact List.all_eq_true.1 ha _ (List.getElem_mem _)
theorem w_runs (hl : xs.length = n * n) (hp : xs.all partB = true) (hrl : ws.length = n) (hr : ws.all leastB = true) (ha : ws.all aboveB = true) {i k : Nat} (hi : i < n) (hk : k < n) (hz : zB xs n i k = false) :
    floatBits .mul .f32 (rowOf ws k) (stepOf xs n k i) = some (wA xs ws n i k) ∧ floatBits .mul .f32 (rowOf ws i) (stepOf xs n i k) = some (wB xs ws n i k) ∧
    (wQ xs ws n i k = none ∨ ∃ q, wQ xs ws n i k = some q ∧ isNan single q = false ∧ 0 ≤ key single q) := by
  obtain ⟨f1, k1⟩ := w_row hrl hr ha hi
  obtain ⟨f2, k2⟩ := w_row hrl hr ha hk
  obtain ⟨p1, p2, p3, p4⟩ := part_key (stepOf_part hl hp hk hi)
  obtain ⟨q1, q2, q3, q4⟩ := part_key (stepOf_part hl hp hi hk)
  obtain ⟨m1, m2, m3⟩ := mul_nn f2 p4 (by omega) p2 p3
  obtain ⟨m4, m5, m6⟩ := mul_nn f1 q4 (by omega) q2 q3
  have hk0 : 0 < key single (stepOf xs n i k) := by
    have : ¬ key single (stepOf xs n i k) = 0 := of_decide_eq_false hz
    omega
  obtain ⟨m', e', n', j', -, -, -, -, -, -, hw⟩ := mul_word f1 q4 (pos_neg k1) (pos_neg hk0)
  refine ⟨(fmul_run f2 p4).1, (fmul_run f1 q4).1, quo_nn m1 m2 m4 ?_⟩
  show negOf single (fmul (rowOf ws i) (stepOf xs n i k)) = false
  rw [hw]
  exact (word_parts (rungTo_le single _ _)).1
theorem cap_ok {q : Nat} (h1 : isNan single q = false) (h2 : 0 ≤ key single q) : isFin single (capF q) = true ∧ 0 ≤ key single (capF q) ∧ key single (capF q) ≤ 1065353216 := by
  unfold capF
  have ho := key_one
  split
  · exact ⟨one_fin, by rw [ho]; decide, by rw [ho]; decide⟩
  · rename_i h
    refine ⟨?_, h2, by omega⟩
    cases hf : isFin single q with
    | true => rfl
    | false =>
      obtain ⟨g1, g2⟩ := inf_nn h1 hf h2
      exfalso
      apply h
      rw [ho]
      unfold key
      rw [g2, g1, inf_lit]
      decide
theorem own_mul (hl : xs.length = n * n) (hp : xs.all partB = true) {i k q : Nat} (hi : i < n) (hk : k < n) (h1 : isNan single q = false) (h2 : 0 ≤ key single q) :
    floatBits .mul .f32 (stepOf xs n i k) (capF q) = some (fmul (stepOf xs n i k) (capF q)) ∧ isFin single (fmul (stepOf xs n i k) (capF q)) = true ∧ 0 ≤ key single (fmul (stepOf xs n i k) (capF q)) ∧ key single (fmul (stepOf xs n i k) (capF q)) ≤ 1065353216 := by
  obtain ⟨q1, q2, q3, q4⟩ := part_key (stepOf_part hl hp hi hk)
  obtain ⟨c1, c2, c3⟩ := cap_ok h1 h2
  obtain ⟨m1, m2, m3⟩ := mul_nn q4 c1 q2 c2 c3
  exact ⟨(fmul_run q4 c1).1, m1, m2, by omega⟩
theorem off_ok (hl : xs.length = n * n) (hp : xs.all partB = true) (hrl : ws.length = n) (hr : ws.all leastB = true) (ha : ws.all aboveB = true) (hN : noNan xs ws n) {i k : Nat} (hi : i < n) (hk : k < n) (hik : i ≠ k) :
    isFin single (offF xs ws n i k) = true ∧ 0 ≤ key single (offF xs ws n i k) ∧ val (offF xs ws n i k) ≤ 2 ^ 149 := by
  have h := offF_V xs ws n i k
  cases hz : zB xs n i k with
  | true =>
    rw [(offV_zero hz).1 h]
    exact ⟨by decide +kernel, by rw [key_zero]; exact Int.le_refl _, by rw [val_zero]; exact Nat.zero_le _⟩
  | false =>
    obtain ⟨-, -, hq | ⟨q, hq, q1, q2⟩⟩ := w_runs hl hp hrl hr ha hi hk hz
    · exact absurd hq (hN i k hi hk hik hz)
    · rw [(offV_some hz hq).1 h]
      obtain ⟨-, a, b, c⟩ := own_mul hl hp hi hk q1 q2
      refine ⟨a, b, ?_⟩
      rw [← val_one]
      exact val_mono b (by rw [key_one]; exact c)
end
/-- a sum that began at 0: 0 itself, or greater than 0 -/
def sumP (s : Nat) : Prop := s < 4294967296 ∧ isFin single s = true ∧ (s = 0 ∨ 0 < key single s)
theorem sumP.nn {s : Nat} (h : sumP s) : 0 ≤ key single s := by
  rcases h.2.2 with rfl | h
  · rw [key_zero]; exact Int.le_refl _
  · omega
theorem fadd_zero {s : Nat} (h : sumP s) : fadd s 0 = s := by
  obtain ⟨h1, h2, h3⟩ := h
  rcases h3 with rfl | h3
  · decide +kernel
  · obtain ⟨mag, place, a, b, c⟩ := add_mag h2 (by omega) (show isFin single 0 = true by decide +kernel) (by rw [key_zero]; exact Int.le_refl _)
    rw [val_zero, Nat.add_zero] at b
    have hr := rungTo_exact single mag place single.leastPlace (rungOf single s) a (Int.le_refl _) (by have := fin_rung h2; omega) (by rw [b, Int.sub_self, Int.toNat_zero, Nat.pow_zero, Nat.mul_one]; rfl)
    rw [hr] at c
    have hks : key single s = rungOf single s := by
      have := pos_neg h3
      unfold key
      rw [this]
      simp
    have n2 := pos_neg (x := fadd s 0) (by omega)
    have hk2 : key single (fadd s 0) = rungOf single (fadd s 0) := by
      unfold key
      rw [n2]
      simp
    have w1 := word_nn (fadd_lt s 0) n2
    have w2 := word_nn h1 (pos_neg h3)
    omega
theorem sumP_add {s y : Nat} (h : sumP s) (hy : isFin single y = true) (hky : 0 ≤ key single y) (hf : isFin single (fadd s y) = true) : sumP (fadd s y) := by
  refine ⟨fadd_lt _ _, hf, ?_⟩
  rcases h.2.2 with rfl | h3
  · by_cases h0 : key single y = 0
    · left
      exact fadd_zeros hy h0
    · right
      obtain ⟨mag, place, a, b, c⟩ := add_mag h.2.1 h.nn hy hky
      rw [val_zero, Nat.zero_add] at b
      have hyr : key single y = rungOf single y := by
        have := pos_neg (x := y) (by omega)
        unfold key
        rw [this]
        simp
      have hr := rungTo_exact single mag place single.leastPlace (rungOf single y) a (Int.le_refl _) (by have := fin_rung hy; omega) (by rw [b, Int.sub_self, Int.toNat_zero, Nat.pow_zero, Nat.mul_one]; rfl)
      rw [c, hr]
      omega
  · right
    obtain ⟨mag, place, a, b, c⟩ := add_mag h.2.1 h.nn hy hky
    have hks : key single s = rungOf single s := by
      have := pos_neg h3
      unfold key
      rw [this]
      simp
    have hr := rungTo_low single mag place single.leastPlace (rungOf single s) a (Int.le_refl _) (by have := fin_rung h.2.1; omega) (by
      rw [b, Int.sub_self, Int.toNat_zero, Nat.pow_zero, Nat.mul_one]
      exact Nat.le_add_right _ _)
    rw [c]
    omega
theorem grow_four {V X E : Nat} {j : Nat} (h : V * 1024 ≤ (X + E) * 1025 + 1024) (hX : X ≤ 4 ^ j * E) (hE : 1 ≤ E) : V ≤ 4 ^ (j + 1) * E := by
  have h1 : 1 ≤ 4 ^ j := Nat.pow_pos (by decide)
  have h2 : 4 ^ (j + 1) * E = 4 * (4 ^ j * E) := by rw [Nat.pow_succ, Nat.mul_comm (4 ^ j) 4, Nat.mul_assoc]
  have h3 : E ≤ 4 ^ j * E := by
    have := Nat.mul_le_mul_right E h1
    rwa [Nat.one_mul] at this
  rw [h2]
  generalize 4 ^ j * E = Y at *
  omega
section
variable {xs ws : List Nat} {n : Nat}
theorem sum_ok (hn2 : n ≤ 12) (hl : xs.length = n * n) (hp : xs.all partB = true) (hrl : ws.length = n) (hr : ws.all leastB = true) (ha : ws.all aboveB = true) (hN : noNan xs ws n) {i : Nat} (hi : i < n) :
    ∀ j, j ≤ n → sumP (sumF xs ws n i j) ∧ val (sumF xs ws n i j) ≤ 4 ^ j * 2 ^ 149 := by
  intro j
  induction j with
  | zero =>
    intro _
    exact ⟨⟨by show 0 < 4294967296; decide, by show isFin single 0 = true; decide +kernel, .inl rfl⟩, by show val 0 ≤ _; rw [val_zero]; exact Nat.zero_le _⟩
  | succ j ih =>
    intro hj
    obtain ⟨h1, h2⟩ := ih (by omega)
    by_cases hji : j = i
    · have e : sumF xs ws n i (j + 1) = sumF xs ws n i j := if_pos hji
      rw [e]
      refine ⟨h1, Nat.le_trans h2 (Nat.mul_le_mul_right _ (Nat.pow_le_pow_right (by decide) (by omega)))⟩
    · have e : sumF xs ws n i (j + 1) = fadd (sumF xs ws n i j) (offF xs ws n i j) := if_neg hji
      obtain ⟨a, b, c⟩ := off_ok hl hp hrl hr ha hN hi (show j < n by omega) (fun h => hji h.symm)
      have hu := add_up h1.2.1 h1.nn a b
      have hu2 : val (fadd (sumF xs ws n i j) (offF xs ws n i j)) ≤ 4 ^ (j + 1) * 2 ^ 149 := grow_four (Nat.le_trans hu (Nat.add_le_add_right (Nat.mul_le_mul_right _ (Nat.add_le_add_left c _)) _)) h2 (Nat.two_pow_pos _)
      have hf : isFin single (fadd (sumF xs ws n i j) (offF xs ws n i j)) = true := by
        refine val_fin (Nat.lt_of_le_of_lt hu2 ?_)
        rw [val_inf]
        refine Nat.lt_of_le_of_lt (Nat.mul_le_mul_right _ (Nat.pow_le_pow_right (by decide) (show j + 1 ≤ 12 by omega))) ?_
        decide +kernel
      rw [e]
      exact ⟨sumP_add h1 a b hf, hu2⟩
/-- an offer of 0 changes no sum -/
theorem sum_skip (hn2 : n ≤ 12) (hl : xs.length = n * n) (hp : xs.all partB = true) (hrl : ws.length = n) (hr : ws.all leastB = true) (ha : ws.all aboveB = true) (hN : noNan xs ws n) {i j : Nat} (hi : i < n) (hj : j < n) (hz : zB xs n i j = true) :
    sumF xs ws n i (j + 1) = sumF xs ws n i j := by
  by_cases hji : j = i
  · exact if_pos hji
  · have e : sumF xs ws n i (j + 1) = fadd (sumF xs ws n i j) (offF xs ws n i j) := if_neg hji
    rw [e, (offV_zero hz).1 (offF_V xs ws n i j)]
    exact fadd_zero (sum_ok hn2 hl hp hrl hr ha hN hi j (by omega)).1
theorem sum_step (hn2 : n ≤ 12) (hl : xs.length = n * n) (hp : xs.all partB = true) (hrl : ws.length = n) (hr : ws.all leastB = true) (ha : ws.all aboveB = true) (hN : noNan xs ws n) {i j : Nat} (hi : i < n) (hj : j < n) (hji : j ≠ i) :
    floatBits .add .f32 (sumF xs ws n i j) (offF xs ws n i j) = some (sumF xs ws n i (j + 1)) := by
  have e : sumF xs ws n i (j + 1) = fadd (sumF xs ws n i j) (offF xs ws n i j) := if_neg hji
  rw [e]
  exact (fadd_run (fin_not_nan (sum_ok hn2 hl hp hrl hr ha hN hi j (by omega)).1.2.1) (off_ok hl hp hrl hr ha hN hi hj (fun h => hji h.symm)).1).1
theorem rest_run (hn2 : n ≤ 12) (hl : xs.length = n * n) (hp : xs.all partB = true) (hrl : ws.length = n) (hr : ws.all leastB = true) (ha : ws.all aboveB = true) (hN : noNan xs ws n) {i : Nat} (hi : i < n) :
    floatBits .sub .f32 1065353216 (sumF xs ws n i n) = some (restF xs ws n i) ∧ (FloatKind.f32.format.order (restF xs ws n i) 0 == some .lt) = decide (key single (restF xs ws n i) < 0) := by
  have h := fsub_run one_notNan (sum_ok hn2 hl hp hrl hr ha hN hi n (Nat.le_refl _)).1.2.1
  refine ⟨h.1, ?_⟩
  have := lt_key (f := single) (by decide) h.2 zero_notNan
  rw [key_zero] at this
  exact this
/-- what a closure may give -/
def weighV (xs ws : List Nat) (n i k v : Nat) : Prop := if i = k then (noNan xs ws n → v = diagF xs ws n i) else offV xs ws n i k v
theorem weigh_same {g : Nat → Nat → Nat} (h : ∀ i k, i < n → k < n → weighV xs ws n i k (g i k)) :
    validB n (tab n g) = validB n (tab n (weighF xs ws n)) ∧ (validB n (tab n (weighF xs ws n)) = true → tab n g = tab n (weighF xs ws n)) := by
  have hmem : ∀ (f : Nat → Nat → Nat) i k, i < n → k < n → f i k ∈ tab n f := by
    intro f i k hi hk
    unfold tab tabTo
    refine List.mem_map.2 ⟨i * n + k, List.mem_range.2 (idx_lt hi hk), ?_⟩
    have e1 : (i * n + k) / n = i := by rw [Nat.mul_comm, Nat.mul_add_div (by omega), Nat.div_eq_of_lt hk, Nat.add_zero]
    have e2 : (i * n + k) % n = k := by rw [Nat.mul_comm, Nat.mul_add_mod, Nat.mod_eq_of_lt hk]
    rw [e1, e2]
  have hbad : ∀ (f : Nat → Nat → Nat) i k, i < n → k < n → isNan single (f i k) = true → validB n (tab n f) = false := by
    intro f i k hi hk hnan
    rw [Bool.eq_false_iff]
    intro hv
    obtain ⟨n', hn', -, -, -, hp, -⟩ := validB_facts hv
    have := (part_key (List.all_eq_true.1 hp _ (hmem f i k hi hk))).1
    rw [hnan] at this
    cases this
  by_cases hN : noNan xs ws n
  · have : tab n g = tab n (weighF xs ws n) := by
      unfold tab tabTo
      refine List.map_congr_left fun p hp => ?_
      have hpn : p < n * n := List.mem_range.1 hp
      have hn0 : 0 < n := by
        rcases Nat.eq_zero_or_pos n with h | h
        · rw [h] at hpn; omega
        · exact h
      have h1 : p / n < n := Nat.div_lt_of_lt_mul hpn
      have h2 : p % n < n := Nat.mod_lt _ hn0
      have := h _ _ h1 h2
      unfold weighV at this
      unfold weighF
      split
      · rename_i he
        rw [if_pos he] at this
        exact this hN
      · rename_i he
        rw [if_neg he] at this
        exact offV_eq hN h1 h2 he this
    rw [this]
    exact ⟨rfl, fun _ => rfl⟩
  · obtain ⟨i, k, hi, hk, hik, hz, hq⟩ : ∃ i k, i < n ∧ k < n ∧ i ≠ k ∧ zB xs n i k = false ∧ wQ xs ws n i k = none := by
      apply Classical.byContradiction
      intro hno
      apply hN
      intro i k hi hk hik hz hq
      exact hno ⟨i, k, hi, hk, hik, hz, hq⟩
    have h1 := h i k hi hk
    unfold weighV at h1
    rw [if_neg hik] at h1
    have n1 := (offV_none hz hq).1 h1
    have n2 : isNan single (weighF xs ws n i k) = true := by
      unfold weighF
      rw [if_neg hik]
      exact (offV_none hz hq).1 (offF_V xs ws n i k)
    have b1 := hbad g i k hi hk n1
    have b2 := hbad (weighF xs ws n) i k hi hk n2
    rw [b1, b2]
    exact ⟨rfl, fun h => by cases h⟩
end
end Go.Proofs.Ytlhepgdheopgaaa

