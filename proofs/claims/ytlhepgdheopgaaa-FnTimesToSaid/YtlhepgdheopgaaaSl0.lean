/-
  Rows that are solved by elimination with pivots: what they are. Two numbers are the same but for a NaN's bits (sameN); the operations respect it. No program.
-/
import Derived.Test.YtlhepgdheopgaaaGw3
import Derived.Test.YtlhepgdheopgaaaRow
import Derived.Test.YtlhepgdheopgaaaVa2
namespace Go.Proofs.Ytlhepgdheopgaaa
open Go Ieee

def sameN (a b : Nat) : Prop := a = b ∨ (isNan single a = true ∧ isNan single b = true)
theorem sameN.refl (a : Nat) : sameN a a := .inl rfl
/-- an operation's result, if a NaN comes: one and the same -/
def can (op : BinOp) (x y : Nat) : Nat := (floatBits op .f32 x y).getD 2143289344
def opv (op : BinOp) (x y : Nat) (w : World) : Nat := match floatBits op .f32 x y with | some r => r | none => nanDraw .f32 (.nanBits .f32 x y) w
def opn (op : BinOp) (x y : Nat) : Nat := if (floatBits op .f32 x y).isSome then 0 else 1
theorem run_opv {P : Program} (op : BinOp) (hop : op = .add ∨ op = .sub ∨ op = .mul ∨ op = .quo) (t : TypeId) (x y : Nat) (w : World) : (binOp op t (.float .f32 x) (.float .f32 y)).run P w = .ok (.float .f32 (opv op x y w)) (w.drewN (opn op x y)) := by
  unfold opv opn
  cases h : floatBits op .f32 x y with
  | none => exact run_float_nan w op hop t .f32 x y h
  | some r =>
    unfold floatBits at h
    rcases hop with rfl | rfl | rfl | rfl <;> simp only at h <;> simp [binOp, Op.floatArith, h] <;> rfl
theorem nan_operand {op : BinOp} (hop : op = .add ∨ op = .sub ∨ op = .mul ∨ op = .quo) {x y : Nat} (h : isNan single x = true ∨ isNan single y = true) : floatBits op .f32 x y = none := by
  have e : ∀ z, isNan single z = true → ∃ s t, single.read z = .nan s t := by
    intro z hz
    unfold isNan Datum.isNaN at hz
    cases hd : single.read z with
    | number s m i => rw [hd] at hz; simp at hz
    | infinity s => rw [hd] at hz; simp at hz
    | nan s t => exact ⟨s, t, rfl⟩
  rcases hop with rfl | rfl | rfl | rfl
  · show single.add x y = none
    unfold Format.add
    rcases h with h | h
    · obtain ⟨s, t, hr⟩ := e _ h; rw [hr]; cases single.read y <;> rfl
    · obtain ⟨s, t, hr⟩ := e _ h; rw [hr]; cases single.read x <;> rfl
  · show single.sub x y = none
    unfold Format.sub
    rcases h with h | h
    · obtain ⟨s, t, hr⟩ := e _ h; rw [hr]; cases single.read y <;> rfl
    · obtain ⟨s, t, hr⟩ := e _ h; rw [hr]; cases single.read x <;> rfl
  · show single.mul x y = none
    unfold Format.mul
    rcases h with h | h
    · obtain ⟨s, t, hr⟩ := e _ h; rw [hr]; cases single.read y <;> rfl
    · obtain ⟨s, t, hr⟩ := e _ h; rw [hr]; cases single.read x <;> rfl
  · show single.div x y = none
    unfold Format.div
    rcases h with h | h
    · obtain ⟨s, t, hr⟩ := e _ h; rw [hr]; cases single.read y <;> rfl
    · obtain ⟨s, t, hr⟩ := e _ h; rw [hr]; cases single.read x <;> rfl
theorem can_nan {op : BinOp} {x y : Nat} (h : floatBits op .f32 x y = none) : isNan single (can op x y) = true := by
  unfold can
  rw [h]
  decide +kernel
theorem sameN_op {op : BinOp} (hop : op = .add ∨ op = .sub ∨ op = .mul ∨ op = .quo) {a a' b b' : Nat} (ha : sameN a a') (hb : sameN b b') (w : World) : sameN (opv op a b w) (can op a' b') := by
  have hnan : floatBits op .f32 a b = none → isNan single (opv op a b w) = true := by
    intro h
    unfold opv
    rw [h]
    exact nanDraw_bits .f32 a b w
  rcases ha with rfl | ⟨h1, h2⟩
  · rcases hb with rfl | ⟨h1, h2⟩
    · cases h : floatBits op .f32 a b with
      | none => exact .inr ⟨hnan h, can_nan h⟩
      | some r =>
        left
        unfold opv can
        rw [h]
        rfl
    · exact .inr ⟨hnan (nan_operand hop (.inr h1)), can_nan (nan_operand hop (.inr h2))⟩
  · exact .inr ⟨hnan (nan_operand hop (.inl h1)), can_nan (nan_operand hop (.inl h2))⟩
theorem order_same {a a' b b' : Nat} (ha : sameN a a') (hb : sameN b b') : FloatKind.f32.format.order a b = FloatKind.f32.format.order a' b' := by
  rcases ha with rfl | ⟨h1, h2⟩
  · rcases hb with rfl | ⟨h1, h2⟩
    · rfl
    · rw [order_nan_right (f := FloatKind.f32.format) a h1, order_nan_right (f := FloatKind.f32.format) a h2]
  · rw [order_nan_left (f := FloatKind.f32.format) b h1, order_nan_left (f := FloatKind.f32.format) b' h2]
theorem fin_same {a b : Nat} (h : sameN a b) : isFin single a = isFin single b := by
  rcases h with rfl | ⟨h1, h2⟩
  · rfl
  · have e : ∀ z, isNan single z = true → isFin single z = false := by
      intro z hz
      cases hf : isFin single z with
      | false => rfl
      | true => rw [fin_not_nan hf] at hz; cases hz
    rw [e _ h1, e _ h2]
theorem same_fin {a b : Nat} (h : sameN a b) (hf : isFin single a = true) : a = b := by
  rcases h with rfl | ⟨h1, -⟩
  · rfl
  · rw [fin_not_nan hf] at h1; cases h1

/-- sizes, as the two programs take them -/
def absA (x : Nat) : Nat := if (FloatKind.f32.format.order x 0 == some .lt) = true then Op.negFloat .f32 x else x
def sizA (x : Nat) : Nat := if (FloatKind.f32.format.order x 0 == some .lt || FloatKind.f32.format.order x 0 == some .eq) = true then fsub 0 x else x
theorem absA_nan {x : Nat} (h : isNan single x = true) : absA x = x := by
  unfold absA
  rw [order_nan_left (f := FloatKind.f32.format) 0 h]
  rfl
theorem sizA_nan {x : Nat} (h : isNan single x = true) : sizA x = x := by
  unfold sizA
  rw [order_nan_left (f := FloatKind.f32.format) 0 h]
  rfl
theorem absA_key {x : Nat} (h : isNan single x = false) : isNan single (absA x) = false ∧ key single (absA x) = (key single x).natAbs := by
  have hl : (FloatKind.f32.format.order x 0 == some .lt) = decide (key single x < 0) := by
    have := lt_key (f := single) (by decide) h zero_notNan
    rw [key_zero] at this
    exact this
  have he : absA x = fabs x := by
    unfold absA fabs
    rw [hl]
    simp
  rw [he]
  exact ⟨fabs_notNan h, key_fabs x⟩
theorem sizA_key {x : Nat} (h : isNan single x = false) : isNan single (sizA x) = false ∧ key single (sizA x) = (key single x).natAbs := by
  have hl : (FloatKind.f32.format.order x 0 == some .lt || FloatKind.f32.format.order x 0 == some .eq) = decide (key single x ≤ 0) := by
    have := le_key (f := single) (by decide) h zero_notNan
    rw [key_zero] at this
    exact this
  have he : sizA x = if key single x ≤ 0 then fsub 0 x else x := by
    unfold sizA
    rw [hl]
    simp
  cases hf : isFin single x with
  | true =>
    have : sizA x = sizeF x := he
    rw [this]
    exact ⟨fin_not_nan (size_fin hf).1, key_size hf⟩
  | false =>
    by_cases hk : key single x ≤ 0
    · rw [if_pos hk] at he
      have hr : single.read x = .infinity true := by
        rcases read_notNan h with ⟨m, e, hr⟩ | hr
        · exfalso
          unfold isFin at hf
          rw [hr] at hf
          simp at hf
        · rw [hr]
          have hne : negOf single x = true := by
            cases hn : negOf single x with
            | true => rfl
            | false =>
              have := inf_nn h hf (by unfold key; rw [hn]; simp)
              unfold key at hk
              rw [hn, if_neg (by simp), this.1, inf_lit] at hk
              exact absurd hk (by decide)
          rw [hne]
      have hs : fsub 0 x = single.write (.infinity false) := by
        unfold fsub Format.sub
        rw [hr]
        have hz : single.read 0 = .number false 0 (-149) := by decide +kernel
        rw [hz]
        rfl
      have hkx : key single x = -(single.infRung : Int) := by
        have hn : negOf single x = true := by
          rcases read_notNan h with ⟨m, e, hr2⟩ | hr2
          · rw [hr] at hr2; cases hr2
          · rw [hr] at hr2; injection hr2 with hr2; exact hr2.symm
        have hru : rungOf single x = single.infRung := by
          have h1 := notNan_le (f := single) (by decide) h
          rcases Nat.lt_or_ge (rungOf single x) single.infRung with h2 | h2
          · rw [(fin_iff single (by decide) x).2 h2] at hf; cases hf
          · omega
        unfold key
        rw [hn, if_pos rfl, hru]
      rw [he, hs, hkx]
      refine ⟨by decide +kernel, ?_⟩
      rw [show key single (single.write (.infinity false)) = (single.infRung : Int) by decide +kernel]
      omega
    · rw [if_neg hk] at he
      rw [he]
      exact ⟨h, by omega⟩
/-- whether a number is greater than another, without their signs -/
def bigB (x y : Nat) : Bool := FloatKind.f32.format.order (absA x) (absA y) == some .gt
theorem bigB_size (x y : Nat) : (FloatKind.f32.format.order (sizA x) (sizA y) == some .gt) = bigB x y := by
  unfold bigB
  cases hx : isNan single x with
  | true =>
    rw [absA_nan hx, sizA_nan hx, order_nan_left (f := FloatKind.f32.format) _ hx, order_nan_left (f := FloatKind.f32.format) _ hx]
  | false =>
    cases hy : isNan single y with
    | true =>
      rw [absA_nan hy, sizA_nan hy, order_nan_right (f := FloatKind.f32.format) _ hy, order_nan_right (f := FloatKind.f32.format) _ hy]
    | false =>
      obtain ⟨a1, a2⟩ := absA_key hx
      obtain ⟨b1, b2⟩ := absA_key hy
      obtain ⟨c1, c2⟩ := sizA_key hx
      obtain ⟨d1, d2⟩ := sizA_key hy
      have h1 : (FloatKind.f32.format.order (sizA x) (sizA y) == some .gt) = decide (key single (sizA y) < key single (sizA x)) := gt_key (f := single) (by decide) c1 d1
      have h2 : (FloatKind.f32.format.order (absA x) (absA y) == some .gt) = decide (key single (absA y) < key single (absA x)) := gt_key (f := single) (by decide) a1 b1
      rw [h1, h2, a2, b2, c2, d2]
theorem bigB_self (x : Nat) : bigB x x = false := by
  unfold bigB
  cases hx : isNan single x with
  | true => rw [absA_nan hx, order_nan_left (f := FloatKind.f32.format) _ hx]; rfl
  | false => rw [order_refl (f := FloatKind.f32.format) (absA_key hx).1]; rfl
theorem bigB_same {a a' b b' : Nat} (ha : sameN a a') (hb : sameN b b') : bigB a b = bigB a' b' := by
  have e : ∀ {x y : Nat}, sameN x y → sameN (absA x) (absA y) := by
    intro x y h
    rcases h with rfl | ⟨h1, h2⟩
    · exact .inl rfl
    · rw [absA_nan h1, absA_nan h2]; exact .inr ⟨h1, h2⟩
  unfold bigB
  rw [order_same (e ha) (e hb)]
/-- a pivot that is none -/
def badP (p : Nat) : Bool := (FloatKind.f32.format.order p 0 == some .eq) || !(FloatKind.f32.format.order p p == some .eq)
theorem badP_size (p : Nat) : (!(FloatKind.f32.format.order (sizA p) 0 == some .gt)) = badP p := by
  unfold badP
  cases hp : isNan single p with
  | true => rw [sizA_nan hp, order_nan_left (f := FloatKind.f32.format) _ hp, order_nan_left (f := FloatKind.f32.format) _ hp]; rfl
  | false =>
    obtain ⟨c1, c2⟩ := sizA_key hp
    have h1 : (FloatKind.f32.format.order (sizA p) 0 == some .gt) = decide (key single 0 < key single (sizA p)) := gt_key (f := single) (by decide) c1 zero_notNan
    have h2 : (FloatKind.f32.format.order p 0 == some .eq) = decide (key single p = key single 0) := eq_key (f := single) (by decide) hp zero_notNan
    rw [h1, h2, order_refl (f := FloatKind.f32.format) hp, c2, key_zero, Bool.eq_iff_iff]
    simp
theorem badP_same {a b : Nat} (h : sameN a b) : badP a = badP b := by
  unfold badP
  rw [order_same h (sameN.refl 0), order_same h h]

/-! ### the rows -/
def sameM (n : Nat) (g C : Nat → Nat → Nat) : Prop := ∀ r c, r < n → c ≤ n → sameN (g r c) (C r c)
/-- the row with the greatest number, of j rows from k on -/
def bestM (C : Nat → Nat → Nat) (k : Nat) : Nat → Nat
  | 0 => k
  | j + 1 => if bigB (C (k + j) k) (C (bestM C k j) k) = true then k + j else bestM C k j
theorem bestM_lt {C : Nat → Nat → Nat} {k n : Nat} (hk : k < n) : ∀ j, k + j ≤ n → bestM C k j < n ∧ k ≤ bestM C k j := by
  intro j
  induction j with
  | zero => intro _; exact ⟨hk, Nat.le_refl _⟩
  | succ j ih =>
    intro hj
    unfold bestM
    split
    · omega
    · exact ih (by omega)
theorem bestM_one (C : Nat → Nat → Nat) (k : Nat) : bestM C k 1 = k := by
  show (if bigB (C (k + 0) k) (C k k) = true then k + 0 else k) = k
  split <;> rfl
theorem bestM_same {n k : Nat} {g C : Nat → Nat → Nat} (h : sameM n g C) (hk : k < n) : ∀ j, k + j ≤ n → bestM g k j = bestM C k j := by
  intro j
  induction j with
  | zero => intro _; rfl
  | succ j ih =>
    intro hj
    have e := ih (by omega)
    have hb := bestM_lt (C := C) hk j (by omega)
    show (if bigB (g (k + j) k) (g (bestM g k j) k) = true then k + j else bestM g k j) = (if bigB (C (k + j) k) (C (bestM C k j) k) = true then k + j else bestM C k j)
    rw [e, bigB_same (h (k + j) k (by omega) (by omega)) (h _ k hb.1 (by omega))]
def swapM (C : Nat → Nat → Nat) (k p : Nat) : Nat → Nat → Nat := fun r c => if r = k then C p c else if r = p then C k c else C r c
theorem swapM_same {n k p : Nat} {g C : Nat → Nat → Nat} (h : sameM n g C) (hk : k < n) (hp : p < n) : sameM n (swapM g k p) (swapM C k p) := by
  intro r c hr hc
  unfold swapM
  split
  · exact h p c hp hc
  · split
    · exact h k c hk hc
    · exact h r c hr hc
def facM (C : Nat → Nat → Nat) (k r : Nat) : Nat := can .quo (C r k) (C k k)
/-- what elimination by row k gives, up to a place -/
def elimM (C : Nat → Nat → Nat) (k r0 c0 : Nat) : Nat → Nat → Nat := fun r c => if k < r ∧ k < c ∧ (r < r0 ∨ (r = r0 ∧ c < c0)) then can .sub (C r c) (can .mul (facM C k r) (C k c)) else C r c
theorem elimM_start (C : Nat → Nat → Nat) (k : Nat) : elimM C k (k + 1) (k + 1) = C := by
  funext r c
  unfold elimM
  rw [if_neg (by omega)]
theorem elimM_row (C : Nat → Nat → Nat) (k r0 n : Nat) : ∀ r c, c ≤ n → elimM C k r0 (n + 1) r c = elimM C k (r0 + 1) (k + 1) r c := by
  intro r c hc
  unfold elimM
  by_cases h : k < r ∧ k < c ∧ (r < r0 ∨ (r = r0 ∧ c < n + 1))
  · rw [if_pos h, if_pos (by omega)]
  · rw [if_neg h, if_neg (by omega)]
theorem elimM_low (C : Nat → Nat → Nat) (k r0 c0 c : Nat) : elimM C k r0 c0 k c = C k c := by
  unfold elimM
  rw [if_neg (by omega)]
theorem elimM_left (C : Nat → Nat → Nat) (k r0 c0 r : Nat) : elimM C k r0 c0 r k = C r k := by
  unfold elimM
  rw [if_neg (by omega)]
theorem elimM_here (C : Nat → Nat → Nat) (k r0 c0 : Nat) : elimM C k r0 c0 r0 c0 = C r0 c0 := by
  unfold elimM
  rw [if_neg (by omega)]
def setM (g : Nat → Nat → Nat) (r c v : Nat) : Nat → Nat → Nat := fun a b => if a = r ∧ b = c then v else g a b
theorem elimM_step {n k r c v : Nat} {g C : Nat → Nat → Nat} (h : sameM n g (elimM C k r c)) (hr : k < r) (hc : k < c) (hv : sameN v (can .sub (C r c) (can .mul (facM C k r) (C k c)))) : sameM n (setM g r c v) (elimM C k r (c + 1)) := by
  intro a b ha hb
  have h1 := h a b ha hb
  unfold setM
  by_cases he : a = r ∧ b = c
  · rw [if_pos he, he.1, he.2]
    unfold elimM
    rw [if_pos (by omega)]
    exact hv
  · rw [if_neg he]
    have : elimM C k r (c + 1) a b = elimM C k r c a b := by
      unfold elimM
      by_cases h2 : k < a ∧ k < b ∧ (a < r ∨ (a = r ∧ b < c))
      · rw [if_pos h2, if_pos (by omega)]
      · rw [if_neg h2, if_neg (by omega)]
    rw [this]
    exact h1
/-- the rows behind k steps; none if a pivot is none -/
def stageM (C0 : Nat → Nat → Nat) (n : Nat) : Nat → Option (Nat → Nat → Nat)
  | 0 => some C0
  | k + 1 => match stageM C0 n k with
    | none => none
    | some C => if badP (C (bestM C k (n - k)) k) = true then none else some (elimM (swapM C k (bestM C k (n - k))) k n (k + 1))
theorem stage_bad {C0 C : Nat → Nat → Nat} {n k : Nat} (h : stageM C0 n k = some C) (hb : badP (C (bestM C k (n - k)) k) = true) (hk : k < n) : stageM C0 n n = none := by
  have : ∀ m, stageM C0 n (k + 1 + m) = none := by
    intro m
    induction m with
    | zero =>
      show (match stageM C0 n k with | none => none | some C => if badP (C (bestM C k (n - k)) k) = true then none else some (elimM (swapM C k (bestM C k (n - k))) k n (k + 1))) = none
      rw [h]
      exact if_pos hb
    | succ m ih =>
      show (match stageM C0 n (k + 1 + m) with | none => none | some C => if badP (C (bestM C (k + 1 + m) (n - (k + 1 + m))) (k + 1 + m)) = true then none else some (elimM (swapM C (k + 1 + m) (bestM C (k + 1 + m) (n - (k + 1 + m)))) (k + 1 + m) n ((k + 1 + m) + 1))) = none
      rw [ih]
  have h2 := this (n - (k + 1))
  rwa [show k + 1 + (n - (k + 1)) = n by omega] at h2
theorem stage_good {C0 C : Nat → Nat → Nat} {n k : Nat} (h : stageM C0 n k = some C) (hb : badP (C (bestM C k (n - k)) k) = false) : stageM C0 n (k + 1) = some (elimM (swapM C k (bestM C k (n - k))) k n (k + 1)) := by
  show (match stageM C0 n k with | none => none | some C => if badP (C (bestM C k (n - k)) k) = true then none else some (elimM (swapM C k (bestM C k (n - k))) k n (k + 1))) = _
  rw [h]
  exact if_neg (by rw [hb]; simp)
/-- the numbers, from the last one on -/
def rightM (C : Nat → Nat → Nat) (n k : Nat) (X : Nat → Nat) : Nat → Nat
  | 0 => C k n
  | m + 1 => can .sub (rightM C n k X m) (can .mul (C k (k + 1 + m)) (X (k + 1 + m)))
def backM (C : Nat → Nat → Nat) (n : Nat) : Nat → Nat → Nat
  | 0 => fun _ => 0
  | j + 1 => fun i => if i = n - 1 - j then can .quo (rightM C n (n - 1 - j) (backM C n j) j) (C (n - 1 - j) (n - 1 - j)) else backM C n j i
def solM (C0 : Nat → Nat → Nat) (n : Nat) : Option (List Nat) :=
  match stageM C0 n n with
  | none => none
  | some C => if ((List.range n).map (backM C n n)).all (isFin single) = true then some ((List.range n).map (backM C n n)) else none
def sameX (n : Nat) (x X : Nat → Nat) : Prop := ∀ i, i < n → sameN (x i) (X i)
theorem sameX_all {n : Nat} {x X : Nat → Nat} (h : sameX n x X) : ((List.range n).map x).all (isFin single) = ((List.range n).map X).all (isFin single) ∧ (((List.range n).map X).all (isFin single) = true → (List.range n).map x = (List.range n).map X) := by
  constructor
  · rw [List.all_map, List.all_map, Bool.eq_iff_iff, List.all_eq_true, List.all_eq_true]
    constructor
    · intro h1 i hi
      have := h1 i hi
      simp only [Function.comp] at this ⊢
      rw [← fin_same (h i (List.mem_range.1 hi))]
      exact this
    · intro h1 i hi
      have := h1 i hi
      simp only [Function.comp] at this ⊢
      rw [fin_same (h i (List.mem_range.1 hi))]
      exact this
  · intro h1
    refine List.map_congr_left fun i hi => ?_
    have h2 := List.all_eq_true.1 h1 (X i) (List.mem_map.2 ⟨i, hi, rfl⟩)
    have h3 := h i (List.mem_range.1 hi)
    exact same_fin h3 (by rw [fin_same h3]; exact h2)
theorem sol_none {C0 : Nat → Nat → Nat} {n : Nat} (h : stageM C0 n n = none) : solM C0 n = none := by
  unfold solM
  rw [h]
theorem sol_some {C0 C : Nat → Nat → Nat} {n : Nat} (h : stageM C0 n n = some C) : solM C0 n = if ((List.range n).map (backM C n n)).all (isFin single) = true then some ((List.range n).map (backM C n n)) else none := by
  unfold solM
  rw [h]
theorem sol_len {C0 : Nat → Nat → Nat} {n : Nat} {xs : List Nat} (h : solM C0 n = some xs) : xs.length = n := by
  unfold solM at h
  split at h
  · cases h
  · split at h
    · injection h with h
      rw [← h]
      simp
    · cases h
end Go.Proofs.Ytlhepgdheopgaaa

