/-
  impl.ValidChain gives the Bool 'validB'.
-/
import Derived.Test.YtlhepgdheopgaaaVal
namespace Go.Proofs.Ytlhepgdheopgaaa
open Go Go.RowKit Ieee

theorem neg_parts (x : Nat) : rungOf single (Op.negFloat .f32 x) = rungOf single x ∧ negOf single (Op.negFloat .f32 x) = !negOf single x := by
  have h1 : single.signWeight = 2 ^ 31 := rfl
  have h2 : Op.negFloat .f32 x = x ^^^ 2 ^ 31 := rfl
  unfold rungOf negOf
  rw [h1, h2]
  constructor
  · rw [Nat.xor_mod_two_pow, Nat.mod_self, Nat.xor_zero]
  · rw [← Nat.shiftRight_eq_div_pow, ← Nat.shiftRight_eq_div_pow, Nat.shiftRight_xor_distrib]
    have h3 : (2 ^ 31 : Nat) >>> 31 = 1 := rfl
    rw [h3]
    generalize x >>> 31 = y
    have h4 : (y ^^^ 1) % 2 = 1 - y % 2 := by
      have h5 := Nat.xor_mod_two_pow (a := y) (b := 1) (n := 1)
      simp only [Nat.pow_one] at h5
      rw [h5]
      rcases Nat.mod_two_eq_zero_or_one y with h | h <;> rw [h] <;> rfl
    rw [h4]
    rcases Nat.mod_two_eq_zero_or_one y with h | h <;> rw [h] <;> rfl
theorem key_neg (x : Nat) : key single (Op.negFloat .f32 x) = -key single x := by
  unfold key
  rw [(neg_parts x).1, (neg_parts x).2]
  cases negOf single x <;> simp
theorem neg_notNan {x : Nat} (h : isNan single x = false) : isNan single (Op.negFloat .f32 x) = false := by
  rw [Bool.eq_false_iff] at h ⊢
  rw [ne_eq, nan_iff single (by decide)] at h ⊢
  rw [(neg_parts x).1]
  exact h

/-- the absolute value -/
def fabs (x : Nat) : Nat := if key single x < 0 then Op.negFloat .f32 x else x
theorem fabs_notNan {x : Nat} (h : isNan single x = false) : isNan single (fabs x) = false := by
  unfold fabs
  split
  · exact neg_notNan h
  · exact h
theorem key_fabs (x : Nat) : key single (fabs x) = (key single x).natAbs := by
  unfold fabs
  split
  · rw [key_neg]; omega
  · omega
set_option maxHeartbeats 400000 in
theorem absolute_any (x : Nat) (w : World) (hx : isNan single x = false) : Calls Try.prog 39 #[.float .f32 x] w (Quiet (.float .f32 (fabs x)) w) := by
  have hl : (FloatKind.f32.format.order x 0 == some .lt) = decide (key single x < 0) := by
    have := lt_key (f := single) (by decide) hx zero_notNan
    rw [key_zero] at this
    exact this
  by_cases h : key single x < 0
  · have HF : Hid (fabs x = Op.negFloat .f32 x) := if_pos h
    rw [decide_eq_true h] at hl
    clear h
    have hu : ∀ w, (Op.unary .neg (.float .f32 x)).run Try.prog w = .ok (.float .f32 (Op.negFloat .f32 x)) w := fun _ => rfl
    go_enter Try.func39, Try.ntmps39
    go_wp2
    go_ret
    rw [HF.out]
    exact .mk0
  · have HF : Hid (fabs x = x) := if_neg h
    rw [decide_eq_false h] at hl
    clear h
    go_enter Try.func39, Try.ntmps39
    go_wp2
    go_ret
    rw [HF.out]
    exact .mk0

/-- a row's sum lies near 1 -/
def okSum (s : Nat) : Bool := decide (-981668463 ≤ key single (fsub s 1065353216) ∧ key single (fsub s 1065353216) ≤ 981668463)
theorem thou_notNan : isNan single 981668463 = false := by decide +kernel
theorem key_thou : key single 981668463 = 981668463 := by decide +kernel
theorem mthou_notNan : isNan single 3129152111 = false := by decide +kernel
theorem key_mthou : key single 3129152111 = -981668463 := by decide +kernel
theorem okSum_abs {s : Nat} (h : isNan single s = false) : (FloatKind.f32.format.order (fabs (fsub s 1065353216)) 981668463 == some .gt) = !okSum s := by
  have hd := (fsub_run h one_fin).2
  have := gt_key (f := single) (by decide) (fabs_notNan hd) thou_notNan
  have h2 : (FloatKind.f32.format.order (fabs (fsub s 1065353216)) 981668463 == some .gt) = decide (key single 981668463 < key single (fabs (fsub s 1065353216))) := this
  rw [h2, key_thou, key_fabs]
  unfold okSum
  rw [← decide_not]
  apply decide_eq_decide.2
  omega

def rowsOk (xs : List Nat) (n m : Nat) : Bool := (List.range m).all fun i => okSum (fsum (rowAt xs n i))
theorem rowsOk_succ (xs : List Nat) (n m : Nat) : rowsOk xs n (m + 1) = (rowsOk xs n m && okSum (fsum (rowAt xs n m))) := by
  unfold rowsOk
  rw [List.range_succ, List.all_append]
  simp
/-- a chain is valid -/
def validB (side : Int) (xs : List Nat) : Bool := inB side 1 12 && (decide ((xs.length : Int) = side * side) && (xs.all partB && rowsOk xs side.toNat side.toNat))
theorem validB_facts {side : Int} {xs : List Nat} (h : validB side xs = true) : ∃ n : Nat, side = n ∧ 1 ≤ n ∧ n ≤ 12 ∧ xs.length = n * n ∧ xs.all partB = true ∧ rowsOk xs n n = true := by
  unfold validB inB at h
  simp only [Bool.and_eq_true, decide_eq_true_eq] at h
  obtain ⟨⟨h1, h2⟩, h3, h4, h5⟩ := h
  obtain ⟨n, rfl⟩ := Int.eq_ofNat_of_zero_le (show 0 ≤ side by omega)
  refine ⟨n, rfl, by omega, by omega, ?_, h4, h5⟩
  have : ((xs.length : Nat) : Int) = ((n * n : Nat) : Int) := by rw [h3]; push_cast; rfl
  exact Int.ofNat.inj this
theorem validB_bad1 {side : Int} {xs : List Nat} (h : inB side 1 12 = false) : validB side xs = false := by unfold validB; rw [h]; rfl
theorem validB_nat {n : Nat} {xs : List Nat} (h1 : 1 ≤ n) (h2 : n ≤ 12) : validB n xs = (decide (xs.length = n * n) && (xs.all partB && rowsOk xs n n)) := by
  unfold validB inB
  rw [decide_eq_true (by omega), Bool.true_and, Int.toNat_natCast]
  congr 1
  apply decide_eq_decide.2
  constructor
  · intro h
    have : ((xs.length : Nat) : Int) = ((n * n : Nat) : Int) := by rw [h]; push_cast; rfl
    exact Int.ofNat.inj this
  · intro h
    rw [h]
    push_cast
    rfl
theorem rowsOk_false {xs : List Nat} {n m : Nat} (h : rowsOk xs n m = false) (hm : m ≤ n) : rowsOk xs n n = false := by
  unfold rowsOk at *
  rw [List.all_eq_false] at h ⊢
  obtain ⟨i, hi, hb⟩ := h
  exact ⟨i, List.mem_range.2 (by have := List.mem_range.1 hi; omega), hb⟩

set_option maxHeartbeats 1600000 in
theorem ValidChain_any (side : Int) (A : Option Addr) (xs : List Nat) (c : Nat) (w : World) (hx : xs.length ≤ c) (hc2 : c ≤ 9223372036854775807) (h : Rd w w.heap.size A (fl xs)) :
    Calls Try.prog 20 #[.agg #[.int .i64 side, .slice A xs.length c]] w (fun e w' => e = .returned (.bool (validB side xs)) ∧ Below w.heap.size w w') := by
  have HW := Lib.hid fun w => within_any side 1 12 w
  cases hin : inB side 1 12 with
  | false =>
    have HI := Lib.hid hin
    have HV := Lib.hid (validB_bad1 (xs := xs) hin)
    clear hin
    go_enter Try.func20, Try.ntmps20
    go_wp2_with (go_at_call 51; refine (HW.out _).mono ?_; rw [HI.out]; rintro e w1 ⟨rfl, m, rfl⟩)
    go_ret
    rw [HV.out]
    exact ⟨rfl, below_drewN ((Below.refl _ _).alloc (Nat.le_refl _) _) _⟩
  | true =>
    have hr : 1 ≤ side ∧ side ≤ 12 := by unfold inB at hin; exact of_decide_eq_true hin
    obtain ⟨n, rfl⟩ := Int.eq_ofNat_of_zero_le (show 0 ≤ side by omega)
    have h1 : 1 ≤ n := by omega
    have h2 : n ≤ 12 := by omega
    clear hr
    have hv := validB_nat (xs := xs) h1 h2
    have HI := Lib.hid hin
    clear hin
    have b2 : n * n ≤ 144 := Nat.mul_le_mul h2 h2
    have e1 : ((n : Int) * (n : Int)) = ((n * n : Nat) : Int) := by push_cast; rfl
    have w1 : IntKind.i64.wrap ((n : Int) * (n : Int)) = (n : Int) * (n : Int) := by rw [e1]; exact IntWalk.i64_in _ (by omega)
    clear e1
    have HP := Lib.hid fun w h => areParts_any A xs c w (by omega) h
    by_cases hl : xs.length = n * n
    · have hne : (((xs.length : Nat) : Int) != (n : Int) * (n : Int)) = false := by rw [hl]; push_cast; simp
      rw [decide_eq_true hl, Bool.true_and] at hv
      cases hp : xs.all partB with
      | false =>
        rw [hp, Bool.false_and] at hv
        have HV := Lib.hid hv
        have HPF := Lib.hid hp
        have HL := Lib.hid hl
        clear hv hp hl
        go_enter Try.func20, Try.ntmps20
        go_wp2_with (first | (go_at_call 51; refine (HW.out _).mono ?_; rw [HI.out]; rintro e w1 ⟨rfl, m, rfl⟩) | (go_at_call 54; refine (HP.out _ (h.at_ (by repeat (first | exact Below.refl _ _ | refine below_drewN ?_ _ | refine Below.alloc ?_ (by simp; try omega) _)))).mono ?_; rw [HPF.out]; rintro e w2 ⟨rfl, m2, rfl⟩))
        go_ret
        rw [HV.out]
        exact ⟨rfl, below_drewN ((Below.refl _ _).alloc (Nat.le_refl _) _) _⟩
      | true =>
        rw [hp, Bool.true_and] at hv
        have HV := Lib.hid hv
        have HPF := Lib.hid hp
        have HL := Lib.hid hl
        clear hv hp hl
        go_enter Try.func20, Try.ntmps20
        go_wp2_with (first | (go_at_call 51; refine (HW.out _).mono ?_; rw [HI.out]; rintro e w1 ⟨rfl, m, rfl⟩) | (go_at_call 54; refine (HP.out _ (h.at_ (by repeat (first | exact Below.refl _ _ | refine below_drewN ?_ _ | refine Below.alloc ?_ (by simp; try omega) _)))).mono ?_; rw [HPF.out]; rintro e w2 ⟨rfl, m2, rfl⟩))
        have hs0 : (((w.alloc (.cells #[.int .i64 n, .slice A xs.length c] 26)).drewN (m + m2))).heap.size = w.heap.size + 1 := by simp
        generalize hW0 : (((w.alloc (.cells #[.int .i64 n, .slice A xs.length c] 26)).drewN (m + m2))) = W0
        have hB0 : Below w.heap.size w W0 := by rw [← hW0]; exact below_drewN ((Below.refl _ _).alloc (Nat.le_refl _) _) _
        have hc0 : W0.cell? ⟨w.heap.size, 0, none⟩ = some (.int .i64 n) := by rw [← hW0]; simp
        have hc1 : W0.cell? ⟨w.heap.size, 1, none⟩ = some (.slice A xs.length c) := by rw [← hW0]; simp
        rw [hW0] at hs0
        clear hW0
        have HS0 := Lib.hid hs0
        have HC0 := Lib.hid hc0
        have HC1 := Lib.hid hc1
        clear hs0 hc0 hc1
        go_loopw [3, 27] (fun _ i wr => ∃ k : Nat, k ≤ n ∧ i = .int .i64 k ∧ rowsOk xs n k = true ∧ Below W0.heap.size W0 wr) (fun _ i _ => n - (intOf i).toNat)
        case atStart => exact ⟨0, Nat.zero_le _, rfl, rfl, Below.refl _ _⟩
        case round =>
          obtain ⟨k, hk, rfl, hrk, hbw⟩ := hrel
          have HRK := Lib.hid hrk
          have HBW := Lib.hid hbw
          have hd0 : wr.cell? ⟨w.heap.size, 0, none⟩ = some (.int .i64 n) := (hbw.cell (p := ⟨w.heap.size, 0, none⟩) (by rw [HS0.out]; exact Nat.lt_succ_self _)).trans HC0.out
          have hd1 : wr.cell? ⟨w.heap.size, 1, none⟩ = some (.slice A xs.length c) := (hbw.cell (p := ⟨w.heap.size, 1, none⟩) (by rw [HS0.out]; exact Nat.lt_succ_self _)).trans HC1.out
          clear hrk hbw
          by_cases hlt : k < n
          · have hlen : (rowAt xs n k).length = n := rowAt_len HL.out hlt
            have hfin : ∀ x ∈ rowAt xs n k, isFin single x = true := fun x hx' => (part_key (List.all_eq_true.1 HPF.out x (List.mem_of_mem_drop (List.mem_of_mem_take hx')))).2.2.2
            have hsn := fsum_notNan _ hfin
            have HSum : Hid (∀ A' c' w, Rd w w.heap.size A' (fl (rowAt xs n k)) → Calls Try.prog 55 #[.slice A' n c'] w (Quiet (.float .f32 (fsum (rowAt xs n k))) w)) := fun A' c' w h' => by
              have := sum_any A' (rowAt xs n k) c' w (by omega) hfin h'
              rwa [hlen] at this
            have hab := okSum_abs hsn
            have hrs := rowsOk_succ xs n k
            generalize hse : fsum (rowAt xs n k) = s at *
            have hsb := fsub_run hsn one_fin
            have hrun := fun w => run_float_arith (P := Try.prog) w .sub 31 .f32 _ _ _ hsb.1
            have HAbs := Lib.hid fun w => absolute_any (fsub s 1065353216) w hsb.2
            have HRow := Lib.hid fun w h' => rowOf_any n k A xs c w h1 h2 hlt HL.out hx hc2 h'
            have hrd : Rd wr wr.heap.size A (fl xs) := h.at_ (hB0.trans (HBW.out.mono (by rw [HS0.out]; omega)))
            have HRS := Lib.hid hrs
            clear hlen hfin hsn hsb hse hrs h
            cases hok : okSum s with
            | true =>
              have HOK := Lib.hid hok
              rw [hok, Bool.not_true] at hab
              clear hok
              go_wp2_with (first | (go_at_call 56; refine (HRow.out _ hrd).mono ?_; rintro e w2 ⟨A', c', rfl, hr2, hb2⟩) | (go_at_call 55; refine (HSum.out _ _ _ hr2).mono ?_; rintro e w3 ⟨rfl, m3, rfl⟩) | (go_at_call 39; refine (HAbs.out _).mono ?_; rintro e w4 ⟨rfl, m4, rfl⟩))
              go_roundw
              case rel => exact ⟨k + 1, by omega, by go_num, by rw [HRS.out, HRK.out, HOK.out]; rfl, HBW.out.trans (below_drewN (hb2.mono HBW.out.size) _)⟩
              case measure => simp [intOf]; omega
            | false =>
              have HOK := Lib.hid hok
              rw [hok, Bool.not_false] at hab
              clear hok
              go_wp2_with (first | (go_at_call 56; refine (HRow.out _ hrd).mono ?_; rintro e w2 ⟨A', c', rfl, hr2, hb2⟩) | (go_at_call 55; refine (HSum.out _ _ _ hr2).mono ?_; rintro e w3 ⟨rfl, m3, rfl⟩) | (go_at_call 39; refine (HAbs.out _).mono ?_; rintro e w4 ⟨rfl, m4, rfl⟩))
              go_ret
              rw [HV.out, rowsOk_false (m := k + 1) (by rw [HRS.out, HRK.out, HOK.out]; rfl) (by omega)]
              exact ⟨rfl, hB0.trans ((HBW.out.trans (below_drewN (hb2.mono HBW.out.size) _)).mono (by rw [HS0.out]; omega))⟩
          · have hke : k = n := by omega
            subst hke
            go_wp2
            go_ret
            rw [HV.out, HRK.out]
            exact ⟨rfl, hB0.trans (HBW.out.mono (by rw [HS0.out]; omega))⟩
    · have hne : (((xs.length : Nat) : Int) != (n : Int) * (n : Int)) = true := by
        rw [bne_iff_ne]
        intro h'
        exact hl (Int.ofNat.inj (h'.trans (by push_cast; rfl)))
      rw [decide_eq_false hl, Bool.false_and] at hv
      have HV := Lib.hid hv
      clear hv hl
      go_enter Try.func20, Try.ntmps20
      go_wp2_with (go_at_call 51; refine (HW.out _).mono ?_; rw [HI.out]; rintro e w1 ⟨rfl, m, rfl⟩)
      go_ret
      rw [HV.out]
      exact ⟨rfl, below_drewN ((Below.refl _ _).alloc (Nat.le_refl _) _) _⟩
end Go.Proofs.Ytlhepgdheopgaaa

