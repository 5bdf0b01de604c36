/-
  impl.RatioWalk of bits at 0.25 and 0.5: sums of two numbers.
-/
import Derived.Test.YtfkjnaaplhcheaaNo
import Derived.Test.YtfkjnaaplhcheaaQr
import Derived.Test.YtfkjnaaplhcheaaMe6
namespace Go.Proofs.Ytfkjnaaplhcheaa
open Go Go.RowKit Ieee

theorem info_f32w : (Try.prog.info? 50).map (fun i => (i.zero, i.size, i.bytes)) = some (some (.float .f32 0), 1, 4) := by kernel_rfl
def rwS (bs : List Bool) : Nat → Nat
  | 0 => 0
  | i + 1 => fadd (rwS bs i) (if bs.getD i false then 1060205080 else 3201276190)
def rwL (bs : List Bool) : List Nat := (List.range bs.length).map fun i => rwS bs (i + 1)
theorem rw_conc : floatBits .quo .f32 1056964608 1048576000 = some 1073741824 ∧ floatBits .sub .f32 1065353216 1056964608 = some 1056964608 ∧ floatBits .sub .f32 1065353216 1048576000 = some 1061158912 ∧ floatBits .quo .f32 1056964608 1061158912 = some 1059760811 ∧ FloatKind.f32.format.order 1048576000 0 = some .gt ∧ FloatKind.f32.format.order 1048576000 1065353216 = some .lt ∧ FloatKind.f32.format.order 1056964608 0 = some .gt ∧ FloatKind.f32.format.order 1056964608 1065353216 = some .lt := by decide +kernel
theorem up_fin : isFin single 1060205080 = true ∧ isFin single 3201276190 = true ∧ isFin single 0 = true := by decide +kernel
theorem rwS_nan (bs : List Bool) : ∀ i, isNan single (rwS bs i) = false
  | 0 => by show isNan single 0 = false; decide +kernel
  | i + 1 => (fadd_run (rwS_nan bs i) (by split; exact up_fin.1; exact up_fin.2.1)).2
set_option maxRecDepth 100000 in
set_option maxHeartbeats 1600000 in
theorem RatioWalk_ok (A : Option Addr) (bs : List Bool) (c : Nat) (w : World) (h1 : 1 ≤ bs.length) (h2 : bs.length ≤ 256) (h : Rd w w.heap.size A (bol bs)) (hf : (rwL bs).all (isFin single) = true) :
    Calls Try.prog 30 #[.slice A bs.length c, .float .f32 1048576000, .float .f32 1056964608] w (fun e w' => ∃ A' c', e = .returned (.tuple #[.slice A' bs.length c', .bool true]) ∧ w'.ownsRow w.heap.size 50 1 (.slice A' bs.length c') bs.length (fl (rwL bs)) ∧ Below w.heap.size w w') := by
  obtain ⟨q1, q2, q3, q4, o1, o2, o3, o4⟩ := rw_conc
  have HA := Lib.hid fun W => areBits_ok A bs.length c W h1 h2
  have HU := Lib.hid LogNumber_two
  have HD := Lib.hid LogNumber_down
  have r1 := fun w => run_float_arith (P := Try.prog) w .quo 50 .f32 _ _ _ q1
  have r2 := fun w => run_float_arith (P := Try.prog) w .sub 50 .f32 _ _ _ q2
  have r3 := fun w => run_float_arith (P := Try.prog) w .sub 50 .f32 _ _ _ q3
  have r4 := fun w => run_float_arith (P := Try.prog) w .quo 50 .f32 _ _ _ q4
  have HL : Hid (∀ i, i < bs.length → fl ((rwL bs).take (i + 1)) = fl ((rwL bs).take i) ++ [.float .f32 (rwS bs (i + 1))]) := Lib.hid fun i hi => by
    have hl : i < (rwL bs).length := by simpa [rwL] using hi
    rw [List.take_succ_eq_append_getElem hl]
    simp [fl, rwL]
  have HM : Hid (∀ i, i < bs.length → ∀ y, isFin single y = true → floatBits .add .f32 (rwS bs i) y = some (fadd (rwS bs i) y)) := Lib.hid fun i _ y hy => (fadd_run (rwS_nan bs i) hy).1
  have HS : Hid (∀ i, rwS bs (i + 1) = fadd (rwS bs i) (if bs.getD i false then 1060205080 else 3201276190)) := Lib.hid fun i => rfl
  have HC : Hid (∀ W, Below w.heap.size w W → ∀ i, i < bs.length → ∃ b off, A = some ⟨b, off, none⟩ ∧ b < W.heap.size ∧ W.cell? ⟨b, off + i, none⟩ = some (.bool (bs.getD i false))) := Lib.hid fun W hW i hi => by
    have hlen : (bol bs).length = bs.length := by simp [bol]
    obtain ⟨b, off, e, hb2, hc⟩ := (h.at_ hW) (by rw [hlen]; omega)
    refine ⟨b, off, e, hb2, ?_⟩
    rw [hc i (by rw [hlen]; exact hi), List.getD_eq_getElem?_getD, List.getElem?_eq_getElem hi]
    simp [bol]
  have HE : Hid ((rwL bs).take bs.length = rwL bs ∧ fl ((rwL bs).take 0) = [] ∧ rwS bs 0 = 0) := Lib.hid ⟨List.take_of_length_le (by simp [rwL]), rfl, rfl⟩
  have HF : Hid (∀ A' c' W, Rd W W.heap.size A' (fl (rwL bs)) → Calls Try.prog 68 #[.slice A' bs.length c'] W (Quiet (.bool true) W)) := Lib.hid fun A' c' W hr => by
    have := areFinite_any A' (rwL bs) c' W (by simp [rwL]; omega) hr
    rw [hf, show (rwL bs).length = bs.length by simp [rwL]] at this
    exact this
  obtain ⟨i0, hi0, hz0, hz1, hz2⟩ := info_parts info_f32w
  clear h hf q1 q2 q3 q4
  generalize rwL bs = PL at *
  generalize hrw : rwS bs = rw_ at *
  generalize hx : (fun i => bs.getD i false) = xv at *
  have hx' : ∀ i, bs.getD i false = xv i := fun i => by rw [← hx]
  simp only [hx'] at HS HC
  clear hx hx' hrw
  generalize bs.length = n at *
  go_enter Try.func30, Try.ntmps30
  go_upto_region 4 with (first
    | (go_at_call 77; refine (HA.out _).mono ?_; rintro e w1 ⟨rfl, rfl⟩)
    | (go_at_call 78; (with_reducible refine (HU.out _).mono ?_); rintro e w2 ⟨rfl, hb2⟩; have B2 := Lib.hid hb2; clear hb2)
    | (go_at_call 78; (with_reducible refine (HD.out _).mono ?_); rintro e w3 ⟨rfl, hb3⟩; have B3 := Lib.hid (below_next B2.out hb3); clear hb3))
  have START := Lib.hid (Grow.empty w3 50)
  clear HA HU HD B2
  go_wp2_with fail
  generalize World.alloc w3 _ = W4 at *
  go_loopw [10, 11, 48] (fun ov sv iv wr => ∃ i : Nat, i ≤ n ∧ iv = .int .i64 (i : Nat) ∧ sv = .float .f32 (rw_ i) ∧ Grow w3 50 i (fl (PL.take i)) ov wr) (fun _ _ iv _ => n - (intOf iv).toNat)
  case atStart => exact ⟨0, by omega, rfl, by rw [HE.out.2.2], by rw [HE.out.2.1]; exact START.out⟩
  case round =>
    clear START
    obtain ⟨i, hi, rfl, rfl, hbw, A4, c4, rfl, ho4⟩ := hrel
    rename World => wr
    have HB := Lib.hid hbw
    have HO := Lib.hid ho4
    have hz := HB.out.size
    clear hbw ho4
    by_cases hlt : i < n
    · obtain ⟨b, off, rfl, hb, hc⟩ := HC.out wr (below_next B3.out HB.out) i hlt
      have HLi := Lib.hid (HL.out i hlt)
      have HSi := Lib.hid (HS.out i)
      have HMi := HM.out i hlt
      have hu := fun w => run_float_arith (P := Try.prog) w .add 50 .f32 _ _ _ (HMi _ up_fin.1)
      have hd := fun w => run_float_arith (P := Try.prog) w .add 50 .f32 _ _ _ (HMi _ up_fin.2.1)
      clear HMi
      generalize hs1 : rw_ (i + 1) = s1 at *
      have HRW := Lib.hid hs1
      clear hs1
      generalize rw_ i = s0 at *
      cases hxb : xv i
      all_goals
        rw [hxb] at hc
        have HE1 := HSi.out
        rw [hxb] at HE1
        have HE2 := Lib.hid HE1
        clear HE1 hxb
        simp only [if_true, if_false, Bool.false_eq_true] at HE2
        have he := HE2.out
        subst he
        go_wp2_with (refine wpList_append_lies _ rfl _ _ _ rfl w3.heap.size 50 i0 _ 1 4 Try.underlying46 hi0 hz0 hz1 hz2 rfl (by omega) (.slice A4 i c4) i (fl (PL.take i)) (by rfl) (HO.out.alloc _) ⟨wr.heap.size, 0, none⟩ 1 1 [.float .f32 _] (by rfl) (by rfl) (World.news_of_block (cs := #[.float .f32 _]) (t := 50) (fr := (0, 0)) (heap_alloc_new wr _)) (by simp [Value.oneCell']) (by omega) (by unfold maxLen; omega) (by omega) (by simp; omega) (wr.heap.size + 1) (by simp) ?_; intro g9 cap9 w9 hown9 hgrow hat hlt9; have G9 := Lib.hid (Grow.step HB.out HO.out (Below.refl _ _) hgrow hown9); clear hown9 hgrow hat)
        go_roundw
        case rel => exact ⟨i + 1, by omega, by go_num, by rw [HRW.out], by rw [HLi.out]; exact G9.out⟩
        case measure => simp [intOf]; omega
    · obtain rfl : i = n := by omega
      have RF : Hid (Rd wr wr.heap.size A4 (fl PL)) := Lib.hid (by
        have h9 := Rd.of_own HO.out
        rw [HE.out.1] at h9
        exact h9)
      go_wp2_with (go_at_call 68; refine (HF.out _ _ _ RF.out).mono ?_; rintro e w7 ⟨rfl, q, rfl⟩)
      go_ret2
      have ho := HO.out
      rw [HE.out.1] at ho
      exact ⟨_, _, rfl, own_base (own_below ho (below_dn (Below.refl _ _) q)) B3.out.size, below_dn (below_next B3.out HB.out) q⟩
end Go.Proofs.Ytfkjnaaplhcheaa
