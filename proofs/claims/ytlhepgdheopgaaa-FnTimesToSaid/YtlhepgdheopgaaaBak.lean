/-
  Chains that go back: quotients; impl.arePositive, spec.l07Above; impl.BackChain.
-/
import Derived.Test.YtlhepgdheopgaaaSrs
namespace Go.Proofs.Ytlhepgdheopgaaa
open Go Go.RowKit Ieee
attribute [local go_sem] run_store_float

/-- a quotient by a finite number that is not 0 is no NaN -/
theorem div_some {x y : Nat} (hx : isFin single x = true) (hy : isFin single y = true) (hk : key single y ≠ 0) : ∃ r, single.div x y = some r ∧ isNan single r = false := by
  have he : 1 ≤ single.exponentBits := by decide
  obtain ⟨m, i, hr, -, -⟩ := read_fin ((fin_iff single he x).1 hx)
  obtain ⟨n, j, hq, -, hn⟩ := read_fin ((fin_iff single he y).1 hy)
  have hn0 : n ≠ 0 := by
    intro h0
    rw [h0, Nat.zero_mul] at hn
    have h1 : rungOf single y = 0 := by
      rcases Nat.eq_zero_or_pos (rungOf single y) with h | h
      · exact h
      · have := mu_mono single h
        omega
    unfold key at hk
    rw [h1] at hk
    simp at hk
  unfold Format.div
  rw [hr, hq]
  simp only [Datum.quotient, if_neg hn0, Option.map_some]
  exact ⟨_, rfl, notNan_write single he _ rfl⟩
theorem fdiv_run {x y : Nat} (hx : isFin single x = true) (hy : isFin single y = true) (hk : key single y ≠ 0) : floatBits .quo .f32 x y = some (fdiv x y) ∧ isNan single (fdiv x y) = false := by
  obtain ⟨r, h1, h2⟩ := div_some hx hy hk
  have h3 : fdiv x y = r := by unfold fdiv; rw [h1]; rfl
  rw [h3]
  exact ⟨h1, h2⟩

def aboveB (x : Nat) : Bool := FloatKind.f32.format.order x 0 == some .gt
def posB (x : Nat) : Bool := isFin single x && (FloatKind.f32.format.order x 0 == some .gt)
def badPos (x : Nat) : Bool := !isFin single x || (FloatKind.f32.format.order x 0 == some .lt || FloatKind.f32.format.order x 0 == some .eq)
theorem badPos_pos (x : Nat) : badPos x = !posB x := by
  unfold badPos posB
  cases hf : isFin single x with
  | false => rfl
  | true =>
    have h0 : single.order x 0 = FloatKind.f32.format.order x 0 := rfl
    rcases order_fin (fin_not_nan hf) (show isNan single 0 = false by decide +kernel) with h | h | h <;> rw [h0] at h <;> simp [h]
theorem any_badPos (xs : List Nat) : (!xs.any badPos) = xs.all posB := by
  rw [List.any_eq_not_all_not, Bool.not_not]
  congr 1
  funext x
  rw [badPos_pos, Bool.not_not]
theorem pos_above {xs : List Nat} (h : xs.all leastB = true) : xs.all posB = xs.all aboveB := by
  rw [Bool.eq_iff_iff, List.all_eq_true, List.all_eq_true]
  constructor
  · intro h1 x hx
    have := h1 x hx
    unfold posB at this
    rw [Bool.and_eq_true] at this
    exact this.2
  · intro h1 x hx
    unfold posB
    rw [Bool.and_eq_true]
    exact ⟨(least_iff.1 (List.all_eq_true.1 h x hx)).1, h1 x hx⟩
theorem above_key {x : Nat} (h : aboveB x = true) (hf : isFin single x = true) : 0 < key single x := by
  unfold aboveB at h
  have := gt_key (f := single) (by decide) (fin_not_nan hf) zero_notNan
  rw [key_zero] at this
  have h2 : (single.order x 0 == some .gt) = true := h
  rw [h2] at this
  exact of_decide_eq_true this.symm

set_option maxHeartbeats 400000 in
theorem arePositive1_any (x : Nat) (w : World) : Calls Try.prog 70 #[.float .f32 x] w (Quiet (.bool (badPos x)) w) := by
  have hl : badPos x = (!isFin single x || (FloatKind.f32.format.order x 0 == some .lt || FloatKind.f32.format.order x 0 == some .eq)) := rfl
  generalize badPos x = r at *
  cases hf : isFin single x with
  | true =>
    have HF := Lib.hid hf
    rw [hf] at hl
    have HL := Lib.hid hl
    clear hf hl
    go_enter Try.func70, Try.ntmps70
    go_wp2_with (go_at_call 40; refine (IsFinite_any _ _).mono ?_; rw [HF.out]; rintro e w' ⟨rfl, n, rfl⟩)
    go_ret
    rw [HL.out]
    exact .mk _
  | false =>
    have HF := Lib.hid hf
    rw [hf] at hl
    have HL := Lib.hid hl
    clear hf hl
    go_enter Try.func70, Try.ntmps70
    go_wp2_with (go_at_call 40; refine (IsFinite_any _ _).mono ?_; rw [HF.out]; rintro e w' ⟨rfl, n, rfl⟩)
    go_ret
    rw [HL.out]
    exact .mk _
set_option maxHeartbeats 400000 in
theorem arePositive_any (A : Option Addr) (xs : List Nat) (c : Nat) (w : World) (hx : xs.length ≤ 9223372036854775807) (h : Rd w w.heap.size A (fl xs)) :
    Calls Try.prog 33 #[.slice A xs.length c] w (Quiet (.bool (xs.all posB)) w) := by
  have HC := Lib.hid fun w h => ContainsFunc_fl 70 (.inr (.inr (.inl rfl))) badPos arePositive1_any A xs c w hx h
  have HA := Lib.hid (any_badPos xs)
  go_enter Try.func33, Try.ntmps33
  go_wp2_with (go_at_call 58; refine (HC.out _ h).mono ?_; rintro e w' ⟨rfl, n, rfl⟩)
  go_ret
  exact ⟨retB HA.out, n, rfl⟩
set_option maxHeartbeats 800000 in
theorem l07Above_any (A : Option Addr) (xs : List Nat) (c : Nat) (w : World) (hx : xs.length ≤ 9223372036854775807) (h : Rd w w.heap.size A (fl xs)) :
    Calls Try.prog 47 #[.slice A xs.length c] w (Quiet (.bool (xs.all aboveB)) w) := by
  go_enter Try.func47, Try.ntmps47
  go_wp2
  go_loop [6] (fun i => ∃ k : Nat, k ≤ xs.length ∧ i = .int .i64 k ∧ (xs.take k).all aboveB = true) (fun i => xs.length - (intOf i).toNat)
  case atStart => exact ⟨0, Nat.zero_le _, rfl, by simp⟩
  case round =>
    obtain ⟨k, hk, rfl, hall⟩ := hrel
    have HALL := Lib.hid hall
    clear hall
    by_cases hlt : k < xs.length
    · obtain ⟨b, off, rfl, hb, hc⟩ := h.flAt hlt
      have HT := Lib.hid (List.take_succ_eq_append_getElem hlt)
      have HM := Lib.hid (List.getElem_mem hlt)
      have hab : aboveB xs[k] = (FloatKind.f32.format.order xs[k] 0 == some .gt) := rfl
      clear h
      generalize xs[k] = x at *
      cases hs : aboveB x with
      | true =>
        have HS := Lib.hid hs
        rw [hs] at hab
        have hab' := hab.symm
        clear hs hab
        go_wp2
        go_round
        case rel => exact ⟨k + 1, by omega, by go_num, by rw [HT.out, List.all_append, HALL.out]; simp [HS.out]⟩
        case measure => simp [intOf]; omega
      | false =>
        have HS := Lib.hid hs
        rw [hs] at hab
        have hab' := hab.symm
        clear hs hab
        go_wp2
        go_ret
        refine ⟨retB ?_, 0, rfl⟩
        symm
        rw [Bool.eq_false_iff]
        intro ha
        have := List.all_eq_true.1 ha x HM.out
        rw [HS.out] at this
        cases this
    · have hr : xs.all aboveB = true := by
        have h1 := HALL.out
        rwa [List.take_of_length_le (by omega)] at h1
      have HR := Lib.hid hr
      clear hr
      go_wp2
      go_ret
      exact ⟨retB HR.out.symm, 0, rfl⟩

/-- the Steps of a chain that goes back -/
def backF (xs row : List Nat) (n i k : Nat) : Nat := fdiv (fmul (rowOf row k) (stepOf xs n k i)) (rowOf row i)
theorem back_runs {xs row : List Nat} {n i k : Nat} (hl : xs.length = n * n) (hp : xs.all partB = true) (hrl : row.length = n) (hr : row.all leastB = true) (ha : row.all aboveB = true) (hi : i < n) (hk : k < n) :
    floatBits .mul .f32 (rowOf row k) (stepOf xs n k i) = some (fmul (rowOf row k) (stepOf xs n k i)) ∧ floatBits .quo .f32 (fmul (rowOf row k) (stepOf xs n k i)) (rowOf row i) = some (backF xs row n i k) := by
  obtain ⟨f1, k1⟩ := rowOf_least hr (show k < row.length by omega)
  obtain ⟨f2, k2⟩ := rowOf_least hr (show i < row.length by omega)
  obtain ⟨p1, p2, p3, p4⟩ := part_key (stepOf_part hl hp hk hi)
  obtain ⟨m1, m2, m3⟩ := mul_nn f1 p4 k1 p2 p3
  have hab : aboveB (rowOf row i) = true := by
    unfold rowOf
    rw [List.getD_eq_getElem?_getD, List.getElem?_eq_getElem (show i < row.length by omega)]
    exact List.all_eq_true.1 ha _ (List.getElem_mem _)
  have := above_key hab f2
  exact ⟨(fmul_run f1 p4).1, (fdiv_run m1 f2 (by omega)).1⟩

set_option maxHeartbeats 1600000 in
theorem backClo (n i k b0 b1 : Nat) (A : Option Addr) (xs : List Nat) (c : Nat) (B : Option Addr) (row : List Nat) (d : Nat) (w : World) (hn2 : n ≤ 12) (hi : i < n) (hk : k < n) (hl : xs.length = n * n) (hp : xs.all partB = true) (hrl : row.length = n) (hr : row.all leastB = true) (ha : row.all aboveB = true)
    (h0 : w.cell? ⟨b0, 0, none⟩ = some (.slice B row.length d)) (h1 : w.cell? ⟨b1, 0, none⟩ = some (.int .i64 n)) (h2 : w.cell? ⟨b1, 1, none⟩ = some (.slice A xs.length c)) (h : Rd w w.heap.size A (fl xs)) (h' : Rd w w.heap.size B (fl row)) :
    Calls Try.prog 49 #[.int .i64 i, .int .i64 k, .pointer (some ⟨b0, 0, none⟩), .pointer (some ⟨b1, 0, none⟩)] w (fun e w' => e = .returned (.float .f32 (backF xs row n i k)) ∧ Below w.heap.size w w') := by
  obtain ⟨r1, r2⟩ := back_runs hl hp hrl hr ha hi hk
  have e1 := fun w => run_float_arith (P := Try.prog) w .mul 31 .f32 _ _ _ r1
  have e2 := fun w => run_float_arith (P := Try.prog) w .quo 31 .f32 _ _ _ r2
  obtain ⟨b2, o2, rfl, hb2, hc2⟩ := h' (by rw [fl_len]; omega)
  have x1 := rowOf_cell (show i < row.length by omega) hc2
  have x2 := rowOf_cell (show k < row.length by omega) hc2
  have HT : Hid (∀ W, Below w.heap.size w W → Calls Try.prog 35 #[.agg #[.int .i64 n, .slice A xs.length c], .int .i64 k, .int .i64 i] W (fun e w' => e = .returned (.float .f32 (stepOf xs n k i)) ∧ Below W.heap.size W w')) := Lib.hid fun W hW => step_any n k i A xs c W hn2 hk hi hl (h.at_ hW)
  rw [hrl] at h0
  have hMk : Hid (∀ W, Below w.heap.size w W → W.cell? ⟨b0, 0, none⟩ = some (.slice (some ⟨b2, o2, none⟩) n d) ∧ W.cell? ⟨b1, 0, none⟩ = some (.int .i64 n) ∧ W.cell? ⟨b1, 1, none⟩ = some (.slice A xs.length c) ∧ W.cell? ⟨b2, o2 + i, none⟩ = some (.float .f32 (rowOf row i)) ∧ W.cell? ⟨b2, o2 + k, none⟩ = some (.float .f32 (rowOf row k))) := Lib.hid fun W hW => ⟨keepC hW h0, keepC hW h1, keepC hW h2, keepC hW x1, keepC hW x2⟩
  clear h hl hp hrl hr ha r1 r2 hc2 h'
  generalize stepOf xs n k i = x at *
  generalize fmul (rowOf row k) x = y at *
  generalize rowOf row i = ri at *
  generalize rowOf row k = rk at *
  generalize backF xs row n i k = res at *
  go_enter Try.func49, Try.ntmps49
  go_wp2_with fail
  go_region_held3 (fun W => W.cell? ⟨b0, 0, none⟩ = some (.slice (some ⟨b2, o2, none⟩) n d) ∧ W.cell? ⟨b1, 0, none⟩ = some (.int .i64 n) ∧ W.cell? ⟨b1, 1, none⟩ = some (.slice A xs.length c) ∧ W.cell? ⟨b2, o2 + i, none⟩ = some (.float .f32 ri) ∧ W.cell? ⟨b2, o2 + k, none⟩ = some (.float .f32 rk))
    (first | exact hMk.out _ ((Below.refl _ _).drew) | exact hMk.out _ (by assumption))
    (first | (go_at_call 35; refine (HT.out _ ((Below.refl _ _).drew)).mono ?_; rintro e w3 ⟨rfl, hb3⟩; have hk3 : Below w.heap.size w w3 := Below.trans (Below.refl _ _).drew hb3))
  all_goals
    go_wp2
    go_ret
    exact ⟨rfl, hk3⟩

set_option maxRecDepth 100000 in
set_option maxHeartbeats 3200000 in
theorem chainByBack (n : Nat) (p0 p1 : Value) (f : Nat → Nat → Nat) (w : World) (hn : 1 ≤ n) (hn2 : n ≤ 12)
    (hg : ∀ W, Below w.heap.size w W → ∀ i k : Nat, i < n → k < n → Calls Try.prog 49 #[.int .i64 i, .int .i64 k, p0, p1] W (fun e W' => e = .returned (.float .f32 (f i k)) ∧ Below W.heap.size W W')) :
    Calls Try.prog 37 #[.int .i64 n, .func (.func 49) #[] #[p0, p1]] w (ChainRes w n (tab n f)) := by
  obtain ⟨i0, hi0, hz0, hz1, hz2⟩ := info_parts info_f32
  have HG := Lib.hid hg
  clear hg
  have HV := Lib.hid fun A xs c w (hx : xs.length ≤ c) (hc : c ≤ 9223372036854775807) h => ValidChain_any n A xs c w hx hc h
  have hnn : n * n ≤ 144 := Nat.mul_le_mul hn2 hn2
  go_enter Try.func37, Try.ntmps37
  go_wp2_with fail
  generalize hW1 : ((w.alloc (.cells #[.int .i64 0, .slice none 0 0] 26)).alloc (.cells #[.int .i64 n, .slice none 0 0] 26)) = W1
  have s1 : W1.heap.size = w.heap.size + 2 := by rw [← hW1]; simp
  have k0 : W1.cell? ⟨w.heap.size, 0, none⟩ = some (.int .i64 0) := by rw [← hW1]; simp [go_sem]
  have k1 : W1.cell? ⟨w.heap.size, 1, none⟩ = some (.slice none 0 0) := by rw [← hW1]; simp [go_sem]
  have k2 : W1.cell? ⟨w.heap.size + 1, 0, none⟩ = some (.int .i64 n) := by rw [← hW1]; simp [go_sem]
  have k3 : W1.cell? ⟨w.heap.size + 1, 1, none⟩ = some (.slice none 0 0) := by rw [← hW1]; simp [go_sem]
  have f0 : ∀ o, W1.frozen? ⟨w.heap.size, o, none⟩ = false := fun o => by rw [← hW1]; simp [go_sem]
  have f1 : ∀ o, W1.frozen? ⟨w.heap.size + 1, o, none⟩ = false := fun o => by rw [← hW1]; simp [go_sem]
  have B1 : Below w.heap.size w W1 := by rw [← hW1]; exact ((Below.refl _ _).alloc (Nat.le_refl _) _).alloc (by simp) _
  have S1 := Lib.hid s1
  have K0 := Lib.hid k0
  have K1 := Lib.hid k1
  have F0 := Lib.hid f0
  have HB1 := Lib.hid B1
  have START : Hid (CB W1 w.heap.size n f 0 W1) := ⟨none, 0, Below.refl _ _, by rw [s1]; exact Nat.le_refl _, k2, k3, f1, World.ownsRow_nil _ _ _ _⟩
  clear hW1 s1 k0 k1 k2 k3 f0 f1 B1
  go_loopw [7, 12] (fun _ i wr => ∃ k : Nat, k ≤ n ∧ i = .int .i64 k ∧ CB W1 w.heap.size n f (k * n) wr) (fun _ i _ => n - (intOf i).toNat)
  case atStart => exact ⟨0, Nat.zero_le _, rfl, by rw [Nat.zero_mul]; exact START.out⟩
  case round =>
    obtain ⟨k, hk, rfl, hcb⟩ := hrel
    have HCB := Lib.hid hcb
    clear hcb
    by_cases hlt : k < n
    · go_wp2_with fail
      go_loopw [8, 16] (fun _ i wr => ∃ j : Nat, j ≤ n ∧ i = .int .i64 j ∧ CB W1 w.heap.size n f (k * n + j) wr) (fun _ i _ => n - (intOf i).toNat)
      case atStart => exact ⟨0, Nat.zero_le _, rfl, HCB.out⟩
      case round =>
        obtain ⟨j, hj, rfl, hcj⟩ := hrel
        by_cases hjt : j < n
        · rename_i wr
          obtain ⟨A, c, hbw, hsz, c0, c1, hfr, hown⟩ := hcj
          have hp : k * n + j < n * n := idx_lt hlt hjt
          have hf := tab_succ n f (i := k) (k := j) hjt
          have HF := Lib.hid hf
          have HBW := Lib.hid hbw
          have hcall := HG.out
          clear hf hbw
          have hMk : Hid (∀ W, Below wr.heap.size wr W → W.cell? ⟨w.heap.size + 1, 0, none⟩ = some (.int .i64 n) ∧ W.cell? ⟨w.heap.size + 1, 1, none⟩ = some (.slice A (k * n + j) c)) := fun W hW => ⟨keepC hW c0, keepC hW c1⟩
          have HGC : Hid (∀ W, Below wr.heap.size wr W → Calls Try.prog 49 #[.int .i64 k, .int .i64 j, p0, p1] W (fun e W' => e = .returned (.float .f32 (f k j)) ∧ Below W.heap.size W W')) := fun W hW => HG.out W ((HB1.out.trans (HBW.out.mono (by omega))).trans (hW.mono (by have := HBW.out.size; have := S1.out; omega))) k j hlt hjt
          clear hcall
          generalize hpq : k * n + j = p at *
          have HPQ := Lib.hid hpq
          clear hpq
          go_wp2_with fail
          go_region_law (first
            | (have hkk := hk2
               refine step_append_lies _ (by rfl) _ _ _ (by rfl) (w.heap.size + 2) 31 i0 _ 1 4 Try.underlying24 hi0 hz0 hz1 hz2 rfl (by omega) (.slice A p c) p (fl (tabTo n f p)) (by rfl) ((own_below hown hk2).alloc _) ⟨w2.heap.size, 0, none⟩ 1 1 [.float .f32 (f k j)] (by rfl) (by rfl) (World.news_of_block (cs := #[.float .f32 (f k j)]) (t := 31) (fr := (0, 0)) (heap_alloc_new w2 _)) (by simp [Value.oneCell']) (by omega) (by unfold maxLen; omega) (by omega) (by simp; have := hk2.size; omega) (w2.heap.size + 1) (by simp) ?_
               intro g cap w3 hown3 hgrow hat hlt
               obtain ⟨c3, f3, hcb3⟩ := CB_step HBW.out hsz c0 c1 hfr hown hk2 hgrow hown3 HF.out
               have HX := Lib.hid hcb3
               clear hcb3)
            | (go_simp; go_at_call 49; refine (HGC.out _ (Below.refl _ _).drew).mono ?_; rintro e w2 ⟨rfl, hb2⟩; have hk2 : Below wr.heap.size wr w2 := Below.trans (Below.refl _ _).drew hb2; have cc1 : w2.cell? ⟨w.heap.size + 1, 1, none⟩ = some (.slice A p c) := keepC hk2 c1; have cc2 : (w2.alloc (.cells #[.float .f32 (f k j)] 31)).cell? ⟨w.heap.size + 1, 1, none⟩ = some (.slice A p c) := keepC (hk2.alloc hk2.size _) c1))
          all_goals
            go_wp2_with fail
            go_roundw
            case rel => exact ⟨j + 1, by omega, by go_num, by rw [← Nat.add_assoc, HPQ.out]; exact HX.out⟩
            case measure => simp [intOf]; omega
        · have hje : j = n := by omega
          subst hje
          have HCJ := Lib.hid hcj
          clear hcj
          go_wp2_with fail
          go_roundw
          case rel => exact ⟨k + 1, by omega, by go_num, by rw [Nat.add_mul, Nat.one_mul]; exact HCJ.out⟩
          case measure => simp [intOf]; omega
    · rename_i wr
      have hke : n = k := by omega
      subst hke
      obtain ⟨A, c, hbw, hsz, c0, c1, hfr, hown⟩ := HCB.out
      have HV : Hid (∀ W, Below wr.heap.size wr W → Calls Try.prog 20 #[.agg #[.int .i64 n, .slice A (n * n) c]] W (fun e w' => e = .returned (.bool (validB n (tab n f))) ∧ Below W.heap.size W w')) := fun W hW => by
        have h1 : (tab n f).length = n * n := tab_len n f
        have h2 := own_cap hown
        have h := ValidChain_any n A (tab n f) c W (by rw [h1]; exact h2.1) h2.2 ((Rd.of_own hown).next (Nat.le_refl _) hW)
        rw [h1] at h
        exact h
      have g0 : wr.cell? ⟨w.heap.size, 0, none⟩ = some (.int .i64 0) := (hbw.cell (show w.heap.size < w.heap.size + 1 by omega)).trans K0.out
      have g1 : wr.cell? ⟨w.heap.size, 1, none⟩ = some (.slice none 0 0) := (hbw.cell (show w.heap.size < w.heap.size + 1 by omega)).trans K1.out
      have gf : ∀ o, wr.frozen? ⟨w.heap.size, o, none⟩ = false := fun o => (hbw.frozen (show w.heap.size < w.heap.size + 1 by omega)).trans (F0.out o)
      have hbwr : Below w.heap.size w wr := HB1.out.trans (hbw.mono (by omega))
      have HBR := Lib.hid hbwr
      have HOWN := Lib.hid hown
      have HSZ := Lib.hid hsz
      clear hbwr hown hbw hsz
      cases hvb : validB n (tab n f)
      · have HVB := Lib.hid hvb
        rw [hvb] at HV
        clear hvb
        go_wp2_with (go_at_call 20; refine (HV.out _ (by first | exact Below.refl _ _ | exact (Below.refl _ _).drew)).mono ?_; rintro e w5 ⟨rfl, hb5⟩; have hk5 : Below wr.heap.size wr w5 := hb5; have z0 : w5.cell? ⟨w.heap.size, 0, none⟩ = some (.int .i64 0) := keepC hk5 g0; have z1 : w5.cell? ⟨w.heap.size, 1, none⟩ = some (.slice none 0 0) := keepC hk5 g1; have zf : ∀ o, w5.frozen? ⟨w.heap.size, o, none⟩ = false := fun o => (hk5.frozen (p := ⟨_, o, none⟩) (lt_of_cell (a := ⟨w.heap.size, 0, none⟩) g0)).trans (gf o); have y0 : w5.cell? ⟨w.heap.size + 1, 0, none⟩ = some (.int .i64 n) := keepC hk5 c0; have y1 : w5.cell? ⟨w.heap.size + 1, 1, none⟩ = some (.slice A (n * n) c) := keepC hk5 c1)
        have hB : Below w.heap.size w w5 := HBR.out.trans (hk5.mono (by have := HSZ.out; omega))
        refine bodyPost_ret (v := .tuple #[.agg #[.int .i64 0, .slice none 0 0], .bool false]) (by simp [results, Try.results37, go_sem, z0, z1]) rfl ⟨(hB.setCell (Nat.le_refl _) _).setCell (Nat.le_refl _) _, .inl ⟨HVB.out, rfl⟩⟩
      · have HVB := Lib.hid hvb
        rw [hvb] at HV
        clear hvb
        go_wp2_with (go_at_call 20; refine (HV.out _ (by first | exact Below.refl _ _ | exact (Below.refl _ _).drew)).mono ?_; rintro e w5 ⟨rfl, hb5⟩; have hk5 : Below wr.heap.size wr w5 := hb5; have z0 : w5.cell? ⟨w.heap.size, 0, none⟩ = some (.int .i64 0) := keepC hk5 g0; have z1 : w5.cell? ⟨w.heap.size, 1, none⟩ = some (.slice none 0 0) := keepC hk5 g1; have zf : ∀ o, w5.frozen? ⟨w.heap.size, o, none⟩ = false := fun o => (hk5.frozen (p := ⟨_, o, none⟩) (lt_of_cell (a := ⟨w.heap.size, 0, none⟩) g0)).trans (gf o); have y0 : w5.cell? ⟨w.heap.size + 1, 0, none⟩ = some (.int .i64 n) := keepC hk5 c0; have y1 : w5.cell? ⟨w.heap.size + 1, 1, none⟩ = some (.slice A (n * n) c) := keepC hk5 c1)
        have hB : Below w.heap.size w w5 := HBR.out.trans (hk5.mono (by have := HSZ.out; omega))
        have hO := ownsRow_setCell_below (ownsRow_setCell_below (own_below HOWN.out hk5) (a := ⟨w.heap.size, 0, none⟩) (show w.heap.size < w.heap.size + 2 by omega) (.int .i64 n)) (a := ⟨w.heap.size, 1, none⟩) (show w.heap.size < w.heap.size + 2 by omega) (.slice A (n * n) c)
        refine bodyPost_ret (v := .tuple #[.agg #[.int .i64 n, .slice A (n * n) c], .bool true]) (by simp [results, Try.results37, go_sem, z0, z1]) rfl ⟨(hB.setCell (Nat.le_refl _) _).setCell (Nat.le_refl _) _, .inr ⟨HVB.out, A, c, by rw [tab_len], ?_⟩⟩
        rw [tab_len]
        exact own_base hO (by omega)


def bkB (side : Int) (xs row : List Nat) : Bool := fitB side xs row && row.all aboveB

set_option maxRecDepth 100000 in
set_option maxHeartbeats 3200000 in
theorem BackChain_bad (side : Int) (A : Option Addr) (xs : List Nat) (c : Nat) (B : Option Addr) (row : List Nat) (d : Nat) (w : World) (hx : xs.length ≤ c) (hc : c ≤ 9223372036854775807) (hr : row.length ≤ 9223372036854775807) (hA : Rd w w.heap.size A (fl xs)) (hB : Rd w w.heap.size B (fl row)) (hb : bkB side xs row = false) :
    Calls Try.prog 16 #[.agg #[.int .i64 side, .slice A xs.length c], .slice B row.length d] w (chOut 0 [] false w) := by
  have HF := Lib.hid fun W h h' => isRowOf_any side A xs c B row d W hx hc hr h h'
  have HP := Lib.hid fun W h => arePositive_any B row d W hr h
  unfold bkB at hb
  cases hf : fitB side xs row with
  | false =>
    rw [hf] at HF
    clear hb hf HP
    go_enter Try.func16, Try.ntmps16
    go_wp2_with fail
    generalize hW1 : World.alloc (World.alloc (World.alloc w _) _) _ = W1
    have c4 : W1.cell? ⟨w.heap.size + 1 + 1, 0, none⟩ = some (.int .i64 0) := by rw [← hW1]; simp [go_sem]
    have c5 : W1.cell? ⟨w.heap.size + 1 + 1, 1, none⟩ = some (.slice none 0 0) := by rw [← hW1]; simp [go_sem]
    have cf : ∀ o, W1.frozen? ⟨w.heap.size + 1 + 1, o, none⟩ = false := fun o => by rw [← hW1]; simp [go_sem]
    have cs : w.heap.size + 1 + 1 < W1.heap.size := by rw [← hW1]; simp
    have hb1 : Below w.heap.size w W1 := by rw [← hW1]; exact below_al (below_al (below_al (Below.refl _ _) _) _) _
    clear hW1
    refine (HF.out _ (hA.at_ hb1) (hB.at_ hb1)).mono ?_
    rintro e w2 ⟨rfl, hb2⟩
    have d4 := keepC hb2 c4
    have d5 := keepC hb2 c5
    have df : ∀ o, w2.frozen? ⟨w.heap.size + 1 + 1, o, none⟩ = false := fun o => (hb2.frozen (p := ⟨_, o, none⟩) cs).trans (cf o)
    have ds : w.heap.size + 1 + 1 < w2.heap.size := by have := hb2.size; omega
    have HB2 := Lib.hid (below_next hb1 hb2)
    clear c4 c5 cf cs hb1 hb2
    go_wp2_with fail
    refine bodyPost_ret (v := .tuple #[.agg #[.int .i64 0, .slice none 0 0], .bool false]) (by simp [results, Try.results16, go_sem, d4, d5]) rfl (chOut_none rfl ?_)
    exact (HB2.out.setCell (by simp; omega) _).setCell (by simp; omega) _
  | true =>
    rw [hf, Bool.true_and] at hb
    obtain ⟨n', -, -, -, -, -, -, hrw, -⟩ := fitB_facts hf
    rw [hf] at HF
    rw [pos_above hrw, hb] at HP
    clear hb hf hrw
    go_enter Try.func16, Try.ntmps16
    go_wp2_with fail
    generalize hW1 : World.alloc (World.alloc (World.alloc w _) _) _ = W1
    have c3 : W1.cell? ⟨w.heap.size + 1, 0, none⟩ = some (.slice B row.length d) := by rw [← hW1]; simp [go_sem]
    have c4 : W1.cell? ⟨w.heap.size + 1 + 1, 0, none⟩ = some (.int .i64 0) := by rw [← hW1]; simp [go_sem]
    have c5 : W1.cell? ⟨w.heap.size + 1 + 1, 1, none⟩ = some (.slice none 0 0) := by rw [← hW1]; simp [go_sem]
    have cf : ∀ o, W1.frozen? ⟨w.heap.size + 1 + 1, o, none⟩ = false := fun o => by rw [← hW1]; simp [go_sem]
    have cs : w.heap.size + 1 + 1 < W1.heap.size := by rw [← hW1]; simp
    have hb1 : Below w.heap.size w W1 := by rw [← hW1]; exact below_al (below_al (below_al (Below.refl _ _) _) _) _
    clear hW1
    refine (HF.out _ (hA.at_ hb1) (hB.at_ hb1)).mono ?_
    rintro e w2 ⟨rfl, hb2⟩
    have d3 := keepC hb2 c3
    have d4 := keepC hb2 c4
    have d5 := keepC hb2 c5
    have df : ∀ o, w2.frozen? ⟨w.heap.size + 1 + 1, o, none⟩ = false := fun o => (hb2.frozen (p := ⟨_, o, none⟩) cs).trans (cf o)
    have ds : w.heap.size + 1 + 1 < w2.heap.size := by have := hb2.size; omega
    have HB2 := Lib.hid (below_next hb1 hb2)
    clear c3 c4 c5 cf cs hb1 hb2
    go_wp2_with (go_at_call 33; refine (HP.out _ (hB.at_ HB2.out)).mono ?_; rintro e w3 ⟨rfl, m3, rfl⟩)
    refine bodyPost_ret (v := .tuple #[.agg #[.int .i64 0, .slice none 0 0], .bool false]) (by simp [results, Try.results16, go_sem, d4, d5]) rfl (chOut_none rfl ?_)
    exact ((below_drewN HB2.out _).setCell (by simp; omega) _).setCell (by simp; omega) _

set_option maxRecDepth 100000 in
set_option maxHeartbeats 3200000 in
theorem BackChain_ok (n : Nat) (A : Option Addr) (xs : List Nat) (c : Nat) (B : Option Addr) (row : List Nat) (d : Nat) (w : World) (hx : xs.length ≤ c) (hc : c ≤ 9223372036854775807) (hA : Rd w w.heap.size A (fl xs)) (hB : Rd w w.heap.size B (fl row)) (hb : bkB n xs row = true) :
    Calls Try.prog 16 #[.agg #[.int .i64 n, .slice A xs.length c], .slice B row.length d] w (chGive n (tab n (backF xs row n)) w) := by
  unfold bkB at hb
  rw [Bool.and_eq_true] at hb
  obtain ⟨hf, hab⟩ := hb
  obtain ⟨n', hn', hn1, hn2, hl, hp, hrl, hrw, hv, hw⟩ := fitB_facts hf
  obtain rfl : n = n' := by omega
  have HF := Lib.hid fun W h h' => isRowOf_any n A xs c B row d W hx hc (by omega) h h'
  have HP := Lib.hid fun W h => arePositive_any B row d W (by omega) h
  rw [hf] at HF
  rw [pos_above hrw, hab] at HP
  have HCB : Hid (∀ W b0 b1, Below w.heap.size w W → W.cell? ⟨b0, 0, none⟩ = some (.slice B row.length d) → W.cell? ⟨b1, 0, none⟩ = some (.int .i64 n) → W.cell? ⟨b1, 1, none⟩ = some (.slice A xs.length c) →
      Calls Try.prog 37 #[.int .i64 n, .func (.func 49) #[] #[.pointer (some ⟨b0, 0, none⟩), .pointer (some ⟨b1, 0, none⟩)]] W (chGive n (tab n (backF xs row n)) W)) := Lib.hid fun W b0 b1 hW h0 h1 h2 =>
    (chainByBack n _ _ (backF xs row n) W hn1 hn2 fun W' hW' i k hi hk => backClo n i k b0 b1 A xs c B row d W' hn2 hi hk hl hp hrl hrw hab (keepC hW' h0) (keepC hW' h1) (keepC hW' h2) ((hA.at_ hW).at_ hW') ((hB.at_ hW).at_ hW')).mono fun e W2 h => h.out
  unfold chGive at HCB ⊢
  generalize sideOf n (tab n (backF xs row n)) = sd at *
  generalize stepsOf n (tab n (backF xs row n)) = zs at *
  generalize validB n (tab n (backF xs row n)) = ok at *
  clear hv hw hl hp hrl hrw hab hx hc hn' hf
  go_enter Try.func16, Try.ntmps16
  go_wp2_with fail
  generalize hW1 : World.alloc (World.alloc (World.alloc w _) _) _ = W1
  have c0 : W1.cell? ⟨w.heap.size, 0, none⟩ = some (.int .i64 n) := by rw [← hW1]; simp [go_sem]
  have c1 : W1.cell? ⟨w.heap.size, 1, none⟩ = some (.slice A xs.length c) := by rw [← hW1]; simp [go_sem]
  have c3 : W1.cell? ⟨w.heap.size + 1, 0, none⟩ = some (.slice B row.length d) := by rw [← hW1]; simp [go_sem]
  have c4 : W1.cell? ⟨w.heap.size + 1 + 1, 0, none⟩ = some (.int .i64 0) := by rw [← hW1]; simp [go_sem]
  have c5 : W1.cell? ⟨w.heap.size + 1 + 1, 1, none⟩ = some (.slice none 0 0) := by rw [← hW1]; simp [go_sem]
  have cf : ∀ o, W1.frozen? ⟨w.heap.size + 1 + 1, o, none⟩ = false := fun o => by rw [← hW1]; simp [go_sem]
  have cs : w.heap.size + 1 + 1 < W1.heap.size := by rw [← hW1]; simp
  have hb1 : Below w.heap.size w W1 := by rw [← hW1]; exact below_al (below_al (below_al (Below.refl _ _) _) _) _
  clear hW1
  refine (HF.out _ (hA.at_ hb1) (hB.at_ hb1)).mono ?_
  rintro e w2 ⟨rfl, hb2⟩
  have d0 := keepC hb2 c0
  have d1 := keepC hb2 c1
  have d3 := keepC hb2 c3
  have d4 := keepC hb2 c4
  have d5 := keepC hb2 c5
  have df : ∀ o, w2.frozen? ⟨w.heap.size + 1 + 1, o, none⟩ = false := fun o => (hb2.frozen (p := ⟨_, o, none⟩) cs).trans (cf o)
  have ds : w.heap.size + 1 + 1 < w2.heap.size := by have := hb2.size; omega
  have HB2 := Lib.hid (below_next hb1 hb2)
  clear c0 c1 c3 c4 c5 cf cs hb1 hb2
  go_wp2_with (first
    | (go_at_call 33; refine (HP.out _ (hB.at_ HB2.out)).mono ?_; rintro e w3 ⟨rfl, m3, rfl⟩)
    | (go_at_call 37
       refine (HCB.out (w2.drewN m3) _ _ (below_drewN HB2.out _) d3 d0 d1).mono ?_
       rintro e w7 ⟨A7, c7, rfl, hown, hb7⟩
       have f3 : w7.cell? ⟨w.heap.size + 1 + 1, 0, none⟩ = some (.int .i64 0) := keepC hb7 d4
       have f4 : w7.cell? ⟨w.heap.size + 1 + 1, 1, none⟩ = some (.slice none 0 0) := keepC hb7 d5
       have f5 : ∀ o, w7.frozen? ⟨w.heap.size + 1 + 1, o, none⟩ = false := fun o => (hb7.frozen (p := ⟨_, o, none⟩) ds).trans (df o)
       skip))
  refine bodyPost_ret (v := .tuple #[.agg #[.int .i64 sd, .slice A7 zs.length c7], .bool ok]) (by simp [results, Try.results16, go_sem, f3, f4]) rfl ⟨A7, c7, rfl, ?_, ?_⟩
  · exact own_base (ownsRow_setCell_below (ownsRow_setCell_below hown (by simp; omega) _) (by simp; omega) _) (by simp; omega)
  · exact ((below_next (below_drewN HB2.out m3) hb7).setCell (by simp; omega) _).setCell (by simp; omega) _
end Go.Proofs.Ytlhepgdheopgaaa

