/-
  spec.l07Is gives the Bool 'validB'.
-/
import Derived.Test.YtlhepgdheopgaaaVa2
namespace Go.Proofs.Ytlhepgdheopgaaa
open Go Go.RowKit Ieee

theorem okSum_spec {s : Nat} (h : isNan single s = false) : okSum s = ((FloatKind.f32.format.order (fsub s 1065353216) 981668463 == some .lt || FloatKind.f32.format.order (fsub s 1065353216) 981668463 == some .eq) && (FloatKind.f32.format.order (fsub s 1065353216) 3129152111 == some .gt || FloatKind.f32.format.order (fsub s 1065353216) 3129152111 == some .eq)) := by
  have hd := (fsub_run h one_fin).2
  have h1 := le_key (f := single) (by decide) hd thou_notNan
  have h2 := ge_key (f := single) (by decide) hd mthou_notNan
  rw [key_thou] at h1
  rw [key_mthou] at h2
  show okSum s = ((single.order (fsub s 1065353216) 981668463 == some .lt || single.order (fsub s 1065353216) 981668463 == some .eq) && (single.order (fsub s 1065353216) 3129152111 == some .gt || single.order (fsub s 1065353216) 3129152111 == some .eq))
  rw [h1, h2, ← Bool.decide_and]
  unfold okSum
  apply decide_eq_decide.2
  omega
theorem fsum_take_succ (xs : List Nat) (k : Nat) (h : k < xs.length) : fsum (xs.take (k + 1)) = fadd (fsum (xs.take k)) xs[k] := by rw [List.take_succ_eq_append_getElem h, fsum_snoc]

set_option maxRecDepth 100000 in
set_option maxHeartbeats 1600000 in
theorem l07Is_any (b : Nat) (side : Int) (A : Option Addr) (xs : List Nat) (c : Nat) (w : World) (hx : xs.length ≤ 9223372036854775807) (hc0 : w.cell? ⟨b, 0, none⟩ = some (.int .i64 side)) (hc1 : w.cell? ⟨b, 1, none⟩ = some (.slice A xs.length c)) (h : Rd w w.heap.size A (fl xs)) :
    Calls Try.prog 41 #[.pointer (some ⟨b, 0, none⟩)] w (Quiet (.bool (validB side xs)) w) := by
  cases hin : inB side 1 12 with
  | false =>
    have HV := Lib.hid (validB_bad1 (xs := xs) hin)
    have HW : Hid (∀ w, Calls Try.prog 43 #[.int .i64 side, .int .i64 1, .int .i64 12] w (Quiet (.bool false) w)) := fun w => by have := l00In_any side 1 12 w; rwa [hin] at this
    clear hin
    go_enter Try.func41, Try.ntmps41
    go_wp2
    go_quiet ((go_at_call 43; exact quiet_one (HW.out _)))
    go_wp2
    go_ret
    rw [HV.out]
    exact .mk _
  | true =>
    have hr : 1 ≤ side ∧ side ≤ 12 := by unfold inB at hin; exact of_decide_eq_true hin
    have HW : Hid (∀ w, Calls Try.prog 43 #[.int .i64 side, .int .i64 1, .int .i64 12] w (Quiet (.bool true) w)) := fun w => by have := l00In_any side 1 12 w; rwa [hin] at this
    obtain ⟨n, rfl⟩ := Int.eq_ofNat_of_zero_le (show 0 ≤ side by omega)
    have h1 : 1 ≤ n := by omega
    have h2 : n ≤ 12 := by omega
    clear hr hin
    have hv := validB_nat (xs := xs) h1 h2
    have b2 : n * n ≤ 144 := Nat.mul_le_mul h2 h2
    have e1 : ((n : Int) * (n : Int)) = ((n * n : Nat) : Int) := by push_cast; rfl
    have w1 : IntKind.i64.wrap ((n : Int) * (n : Int)) = (n : Int) * (n : Int) := by rw [e1]; exact IntWalk.i64_in _ (by omega)
    clear e1
    by_cases hl : xs.length = n * n
    · have hne : (((xs.length : Nat) : Int) != (n : Int) * (n : Int)) = false := by rw [hl]; push_cast; simp
      rw [decide_eq_true hl, Bool.true_and] at hv
      have HV := Lib.hid hv
      have HL := Lib.hid hl
      clear hv hl
      go_enter Try.func41, Try.ntmps41
      go_wp2
      go_quiet ((go_at_call 43; exact quiet_one (HW.out _)))
      go_wp2
      go_loopw [3] (fun i wr => ∃ k m : Nat, k ≤ n ∧ i = .int .i64 k ∧ rowsOk xs n k = true ∧ (xs.take (k * n)).all partB = true ∧ wr = w.drewN m) (fun i _ => n - (intOf i).toNat)
      case atStart => exact ⟨0, _, Nat.zero_le _, rfl, rfl, by simp, rfl⟩
      case round =>
        obtain ⟨k, m, hk, rfl, hrk, hpk, rfl⟩ := hrel
        have HRK := Lib.hid hrk
        have HPK := Lib.hid hpk
        clear hrk hpk
        by_cases hlt : k < n
        · have hq2 : k * n + n ≤ xs.length := by
            have := idx_lt (n := n) (i := k) (k := n - 1) hlt (by omega)
            have := HL.out
            omega
          have e1 : ((k : Int) * (n : Int)) = ((k * n : Nat) : Int) := by push_cast; rfl
          have wq : IntKind.i64.wrap ((k : Int) * (n : Int)) = ((k * n : Nat) : Int) := by rw [e1]; exact IntWalk.i64_in _ (by have := HL.out; omega)
          clear e1
          obtain ⟨row, hlen, hget, hrs⟩ : ∃ row : List Nat, row.length = n ∧ (∀ j, j < n → xs[k * n + j]? = row[j]?) ∧ rowsOk xs n (k + 1) = (rowsOk xs n k && okSum (fsum row)) := by
            refine ⟨rowAt xs n k, rowAt_len HL.out hlt, fun j hj => ?_, rowsOk_succ xs n k⟩
            have h1 : j < (rowAt xs n k).length := by rw [rowAt_len HL.out hlt]; exact hj
            rw [List.getElem?_eq_getElem h1, rowAt_get HL.out hlt hj h1, List.getElem?_eq_getElem]
          have HG := Lib.hid hget
          have HKN : Hid ((k + 1) * n = k * n + n) := by rw [Hid, Nat.add_mul, Nat.one_mul]
          have HRS := Lib.hid hrs
          clear hrs hget
          generalize hq : k * n = q at *
          have HQ := Lib.hid hq
          clear hq
          have HLEN := Lib.hid hlen
          clear hlen
          go_wp2
          go_loopw [4, 5] (fun s i wr => ∃ j m : Nat, j ≤ n ∧ i = .int .i64 j ∧ s = .float .f32 (fsum (row.take j)) ∧ (xs.take (q + j)).all partB = true ∧ wr = w.drewN m) (fun _ i _ => n - (intOf i).toNat)
          case atStart => exact ⟨0, m, Nat.zero_le _, rfl, rfl, HPK.out, rfl⟩
          case round =>
            obtain ⟨j, m, hj, rfl, rfl, hpj, rfl⟩ := hrel
            have HPJ := Lib.hid hpj
            clear hpj
            by_cases hjt : j < n
            · have hqj : q + j < xs.length := by omega
              obtain ⟨b', off, rfl, hb, hc⟩ := h.flAt hqj
              have hg : xs[q + j]? = row[j]? := HG.out j hjt
              rw [List.getElem?_eq_getElem hqj, List.getElem?_eq_getElem (by rw [HLEN.out]; exact hjt)] at hg
              have hx1 := Option.some.inj hg
              have hmem := List.getElem_mem hqj
              have hts : xs.take (q + j + 1) = xs.take (q + j) ++ [xs[q + j]] := List.take_succ_eq_append_getElem hqj
              have hft := fsum_take_succ row j (by rw [HLEN.out]; exact hjt)
              rw [← hx1] at hft
              generalize xs[q + j] = x at *
              have HTS := Lib.hid hts
              have HFT := Lib.hid hft
              have HMEM := Lib.hid hmem
              clear hts hft hmem hg hx1 h
              have HLP := Lib.hid fun w => l02Part_any x w
              cases hp : partB x with
              | false =>
                have HP := Lib.hid hp
                clear hp
                have hvf : validB (n : Int) xs = false := by
                  rw [HV.out, Bool.and_eq_false_iff]
                  refine .inl (List.all_eq_false.2 ⟨x, HMEM.out, ?_⟩)
                  rw [HP.out]
                  exact Bool.false_ne_true
                have HVF := Lib.hid hvf
                clear hvf
                have HLQ : Hid (∀ w, Calls Try.prog 71 #[.float .f32 x] w (Quiet (.bool false) w)) := fun w => by have := HLP.out w; rwa [HP.out] at this
                go_wp2
                go_quiet ((go_at_call 71; first | exact quiet_one (HLQ.out _) | exact quiet_add (HLQ.out _)))
                go_wp2
                go_ret
                rw [HVF.out]
                exact ⟨rfl, m + nq, by rw [World.drewN_drewN]⟩
              | true =>
                have HP := Lib.hid hp
                have hfx := (part_key hp).2.2.2
                clear hp
                have hnn : isNan single (fsum (row.take j)) = false := fsum_notNan _ fun y hy => by
                  obtain ⟨i, hi1, hi2⟩ := List.getElem_of_mem hy
                  have hi3 : i < j := by rw [List.length_take] at hi1; omega
                  have := HG.out i (by omega)
                  rw [List.getElem_take] at hi2
                  rw [List.getElem?_eq_getElem (show i < row.length by rw [HLEN.out]; omega), hi2] at this
                  have hall := List.all_eq_true.1 HPJ.out y (List.mem_take_iff_getElem.2 ⟨q + i, by
                    have := (List.getElem?_eq_some_iff.1 this).1
                    omega, (List.getElem?_eq_some_iff.1 this).2⟩)
                  exact (part_key hall).2.2.2
                have hrun := fun w => run_float_arith (P := Try.prog) w .add 31 .f32 _ _ _ (fadd_run hnn hfx).1
                clear hnn hfx
                have HLQ : Hid (∀ w, Calls Try.prog 71 #[.float .f32 x] w (Quiet (.bool true) w)) := fun w => by have := HLP.out w; rwa [HP.out] at this
                go_wp2
                go_quiet ((go_at_call 71; first | exact quiet_one (HLQ.out _) | exact quiet_add (HLQ.out _)))
                go_wp2
                go_quiet (fail)
                go_wp2
                go_roundw
                case rel => exact ⟨j + 1, _, by omega, by go_num, by rw [HFT.out], by rw [← Nat.add_assoc, HTS.out, List.all_append, HPJ.out]; simp [HP.out], rfl⟩
                case measure => simp [intOf]; omega
            · have hje : j = n := by omega
              subst hje
              have hrt : row.take j = row := by rw [← HLEN.out, List.take_length]
              have hnn : isNan single (fsum row) = false := fsum_notNan _ fun y hy => by
                obtain ⟨i, hi1, hi2⟩ := List.getElem_of_mem hy
                have := HG.out i (by have := HLEN.out; omega)
                rw [List.getElem?_eq_getElem hi1, hi2] at this
                have hall := List.all_eq_true.1 HPJ.out y (List.mem_take_iff_getElem.2 ⟨q + i, by
                  have := (List.getElem?_eq_some_iff.1 this).1
                  have := HLEN.out
                  omega, (List.getElem?_eq_some_iff.1 this).2⟩)
                exact (part_key hall).2.2.2
              rw [hrt]
              have hok := okSum_spec hnn
              have hrun := fun w => run_float_arith (P := Try.prog) w .sub 31 .f32 _ _ _ (fsub_run hnn one_fin).1
              clear hnn hrt
              cases h1' : (FloatKind.f32.format.order (fsub (fsum row) 1065353216) 981668463 == some .lt || FloatKind.f32.format.order (fsub (fsum row) 1065353216) 981668463 == some .eq) with
              | false =>
                rw [h1', Bool.false_and] at hok
                have hvf : validB (j : Int) xs = false := by
                  rw [HV.out, rowsOk_false (m := k + 1) (by rw [HRS.out, HRK.out, hok]; rfl) (by omega), Bool.and_false]
                have HVF := Lib.hid hvf
                clear hvf hok
                go_wp2
                go_ret
                rw [HVF.out]
                exact .mk _
              | true =>
                rw [h1', Bool.true_and] at hok
                cases h2' : (FloatKind.f32.format.order (fsub (fsum row) 1065353216) 3129152111 == some .gt || FloatKind.f32.format.order (fsub (fsum row) 1065353216) 3129152111 == some .eq) with
                | false =>
                  rw [h2'] at hok
                  have hvf : validB (j : Int) xs = false := by
                    rw [HV.out, rowsOk_false (m := k + 1) (by rw [HRS.out, HRK.out, hok]; rfl) (by omega), Bool.and_false]
                  have HVF := Lib.hid hvf
                  clear hvf hok
                  go_wp2
                  go_ret
                  rw [HVF.out]
                  exact .mk _
                | true =>
                  rw [h2'] at hok
                  have HOK := Lib.hid hok
                  clear hok
                  go_wp2
                  go_roundw
                  case rel => exact ⟨k + 1, _, by omega, by go_num, by rw [HRS.out, HRK.out, HOK.out]; rfl, by rw [HKN.out]; exact HPJ.out, rfl⟩
                  case measure => simp [intOf]; omega
        · have hke : k = n := by omega
          subst hke
          go_wp2
          go_ret
          rw [HV.out, HRK.out]
          have hall := HPK.out
          rw [← HL.out, List.take_length] at hall
          rw [hall]
          exact .mk _
    · have hne : (((xs.length : Nat) : Int) != (n : Int) * (n : Int)) = true := by
        rw [bne_iff_ne]
        intro h'
        exact hl (Int.ofNat.inj (h'.trans (by push_cast; rfl)))
      rw [decide_eq_false hl, Bool.false_and] at hv
      have HV := Lib.hid hv
      clear hv hl
      go_enter Try.func41, Try.ntmps41
      go_wp2
      go_quiet ((go_at_call 43; exact quiet_one (HW.out _)))
      go_wp2
      go_ret
      rw [HV.out]
      exact .mk _

set_option maxHeartbeats 400000 in
theorem specValidChain_any (side : Int) (A : Option Addr) (xs : List Nat) (c : Nat) (w : World) (hx : xs.length ≤ 9223372036854775807) (h : Rd w w.heap.size A (fl xs)) :
    Calls Try.prog 11 #[.agg #[.int .i64 side, .slice A xs.length c]] w (fun e w' => e = .returned (.bool (validB side xs)) ∧ Below w.heap.size w w') := by
  have HI := Lib.hid fun b w h0 h1 h2 => l07Is_any b side A xs c w hx h0 h1 h2
  go_enter Try.func11, Try.ntmps11
  go_wp2_with (go_at_call 41; refine (HI.out _ _ (by simp) (by simp) (h.at_ ((Below.refl _ _).alloc (Nat.le_refl _) _))).mono ?_; rintro e w1 ⟨rfl, m, rfl⟩)
  go_ret
  exact ⟨rfl, below_drewN ((Below.refl _ _).alloc (Nat.le_refl _) _) _⟩
end Go.Proofs.Ytlhepgdheopgaaa

