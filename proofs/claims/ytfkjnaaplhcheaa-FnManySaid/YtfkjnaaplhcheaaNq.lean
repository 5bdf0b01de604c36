/-
  impl.BetWealth of bits at one half and one half: products of 1.25 and 0.75.
-/
import Derived.Test.YtfkjnaaplhcheaaNo
import Derived.Test.YtfkjnaaplhcheaaMe6
import Derived.Test.YtfkjnaaplhcheaaMono
import Derived.RegionTactic
import Derived.BigRegion
import Derived.Deep.DeepCutAuto
namespace Go.Proofs.Ytfkjnaaplhcheaa
open Go Go.RowKit Ieee

theorem info_f32b : (Try.prog.info? 50).map (fun i => (i.zero, i.size, i.bytes)) = some (some (.float .f32 0), 1, 4) := by kernel_rfl
def bwS (bs : List Bool) : Nat → Nat
  | 0 => 1065353216
  | i + 1 => fmul (bwS bs i) (if bs.getD i false then 1067450368 else 1061158912)
def bwL (bs : List Bool) : List Nat := (List.range bs.length).map fun i => bwS bs (i + 1)
theorem bw_conc : floatBits .sub .f32 1065353216 1056964608 = some 1056964608 ∧ floatBits .mul .f32 1056964608 1056964608 = some 1048576000 ∧ floatBits .add .f32 1065353216 1048576000 = some 1067450368 ∧ floatBits .sub .f32 1065353216 1048576000 = some 1061158912 ∧ ([1056964608, 1056964608].all partB) = true := by decide +kernel
theorem bw_fin : isFin single 1067450368 = true ∧ isFin single 1061158912 = true ∧ isFin single 1065353216 = true := by decide +kernel
set_option maxRecDepth 100000 in
set_option maxHeartbeats 1600000 in
theorem BetWealth_ok (A : Option Addr) (bs : List Bool) (c : Nat) (w : World) (h1 : 1 ≤ bs.length) (h2 : bs.length ≤ 256) (h : Rd w w.heap.size A (bol bs)) (hf : (bwL bs).all (isFin single) = true) (hs : ∀ i, i < bs.length → isFin single (bwS bs i) = true) :
    Calls Try.prog 32 #[.slice A bs.length c, .float .f32 1056964608, .float .f32 1056964608] w (fun e w' => ∃ A' c', e = .returned (.tuple #[.slice A' bs.length c', .bool true]) ∧ w'.ownsRow w.heap.size 50 1 (.slice A' bs.length c') bs.length (fl (bwL bs)) ∧ Below w.heap.size w w') := by
  obtain ⟨q1, q2, q3, q4, hpp⟩ := bw_conc
  have HA := Lib.hid fun W => areBits_ok A bs.length c W h1 h2
  have HP : Hid (∀ A' c' W, Rd W W.heap.size A' (fl [1056964608, 1056964608]) → Calls Try.prog 79 #[.slice A' 2 c'] W (Quiet (.bool true) W)) := Lib.hid fun A' c' W hr => by
    have := areParts_any A' [1056964608, 1056964608] c' W (by decide) hr
    rw [hpp] at this
    exact this
  have HTWO : Hid (∀ W : World, Rd (W.alloc (.cells #[.float .f32 1056964608, .float .f32 1056964608] 50)) (W.alloc (.cells #[.float .f32 1056964608, .float .f32 1056964608] 50)).heap.size (some ⟨W.heap.size, 0, none⟩) (fl [1056964608, 1056964608])) := Lib.hid fun W => by
    have h4 : (W.alloc (.cells #[.float .f32 1056964608, .float .f32 1056964608] 50)).ownsRow W.heap.size 50 1 (.slice (some ⟨W.heap.size, 0, none⟩) 2 2) 2 (fl [1056964608, 1056964608]) := ⟨rfl, .inr ⟨W.heap.size, 2, _, rfl, Nat.le_refl _, heap_alloc_new W _, Nat.le_refl _, by unfold maxLen; omega, rfl, rfl⟩⟩
    exact Rd.of_own h4
  have r1 := fun w => run_float_arith (P := Try.prog) w .sub 50 .f32 _ _ _ q1
  have r2 := fun w => run_float_arith (P := Try.prog) w .mul 50 .f32 _ _ _ q2
  have r3 := fun w => run_float_arith (P := Try.prog) w .add 50 .f32 _ _ _ q3
  have r4 := fun w => run_float_arith (P := Try.prog) w .sub 50 .f32 _ _ _ q4
  have HL : Hid (∀ i, i < bs.length → fl ((bwL bs).take (i + 1)) = fl ((bwL bs).take i) ++ [.float .f32 (bwS bs (i + 1))]) := Lib.hid fun i hi => by
    have hl : i < (bwL bs).length := by simpa [bwL] using hi
    rw [List.take_succ_eq_append_getElem hl]
    simp [fl, bwL]
  have HM : Hid (∀ i, i < bs.length → ∀ y, isFin single y = true → floatBits .mul .f32 (bwS bs i) y = some (fmul (bwS bs i) y)) := Lib.hid fun i hi y hy => (fmul_run (hs i hi) hy).1
  have HS : Hid (∀ i, bwS bs (i + 1) = fmul (bwS bs i) (if bs.getD i false then 1067450368 else 1061158912)) := Lib.hid fun i => rfl
  have HC : Hid (∀ W, Below w.heap.size w W → ∀ i, i < bs.length → ∃ b off, A = some ⟨b, off, none⟩ ∧ b < W.heap.size ∧ W.cell? ⟨b, off + i, none⟩ = some (.bool (bs.getD i false))) := Lib.hid fun W hW i hi => by
    have hlen : (bol bs).length = bs.length := by simp [bol]
    obtain ⟨b, off, e, hb2, hc⟩ := (h.at_ hW) (by rw [hlen]; omega)
    refine ⟨b, off, e, hb2, ?_⟩
    rw [hc i (by rw [hlen]; exact hi), List.getD_eq_getElem?_getD, List.getElem?_eq_getElem hi]
    simp [bol]
  have HE : Hid ((bwL bs).take bs.length = bwL bs ∧ fl ((bwL bs).take 0) = [] ∧ bwS bs 0 = 1065353216) := Lib.hid ⟨List.take_of_length_le (by simp [bwL]), rfl, rfl⟩
  have HF : Hid (∀ A' c' W, Rd W W.heap.size A' (fl (bwL bs)) → Calls Try.prog 68 #[.slice A' bs.length c'] W (Quiet (.bool true) W)) := Lib.hid fun A' c' W hr => by
    have := areFinite_any A' (bwL bs) c' W (by simp [bwL]; omega) hr
    rw [hf, show (bwL bs).length = bs.length by simp [bwL]] at this
    exact this
  obtain ⟨i0, hi0, hz0, hz1, hz2⟩ := info_parts info_f32b
  clear h hf hs hpp q1 q2 q3 q4
  generalize bwL bs = PL at *
  generalize hrw : bwS bs = rw_ at *
  generalize hx : (fun i => bs.getD i false) = xv at *
  have hx' : ∀ i, bs.getD i false = xv i := fun i => by rw [← hx]
  simp only [hx'] at HS HC
  clear hx hx' hrw
  generalize bs.length = n at *
  go_enter Try.func32, Try.ntmps32
  go_upto_region 3 with (first
    | (go_at_call 77; refine (HA.out _).mono ?_; rintro e w1 ⟨rfl, rfl⟩)
    | (go_at_call 79; refine (HP.out _ _ _ (HTWO.out _)).mono ?_; rintro e w2 ⟨rfl, q, rfl⟩))
  have B3 := Lib.hid (below_dn (below_al (Below.refl w.heap.size w) (.cells #[.float .f32 1056964608, .float .f32 1056964608] 50)) q)
  generalize World.drewN _ q = w3 at *
  have START := Lib.hid (Grow.empty w3 50)
  clear HA HP HTWO
  go_wp2_with fail
  generalize World.alloc w3 _ = W4 at *
  go_loopw [8, 9, 25] (fun ov sv iv wr => ∃ i : Nat, i ≤ n ∧ iv = .int .i64 (i : Nat) ∧ sv = .float .f32 (rw_ i) ∧ Grow w3 50 i (fl (PL.take i)) ov wr) (fun _ _ iv _ => n - (intOf iv).toNat)
  case atStart => exact ⟨0, by omega, rfl, by rw [HE.out.2.2], by rw [HE.out.2.1]; exact START.out⟩
  case round =>
    clear START
    obtain ⟨i, hi, rfl, rfl, hbw, A4, c4, rfl, ho4⟩ := hrel
    rename World => wr
    have HB := Lib.hid hbw
    have HO := Lib.hid ho4
    have hz := HB.out.size
    clear hbw ho4
    by_cases hlt : i < n
    · obtain ⟨b, off, rfl, hb, hc⟩ := HC.out wr (below_next B3.out HB.out) i hlt
      have HLi := Lib.hid (HL.out i hlt)
      have HSi := Lib.hid (HS.out i)
      have HMi := HM.out i hlt
      have hu := fun w => run_float_arith (P := Try.prog) w .mul 50 .f32 _ _ _ (HMi _ bw_fin.1)
      have hd := fun w => run_float_arith (P := Try.prog) w .mul 50 .f32 _ _ _ (HMi _ bw_fin.2.1)
      clear HMi
      generalize hs1 : rw_ (i + 1) = s1 at *
      have HRW := Lib.hid hs1
      clear hs1
      generalize rw_ i = s0 at *
      cases hxb : xv i
      all_goals
        rw [hxb] at hc
        have HE1 := HSi.out
        rw [hxb] at HE1
        have HE2 := Lib.hid HE1
        clear HE1 hxb
        simp only [if_true, if_false, Bool.false_eq_true] at HE2
        have he := HE2.out
        subst he
        go_wp2_with (refine wpList_append_lies _ rfl _ _ _ rfl w3.heap.size 50 i0 _ 1 4 Try.underlying46 hi0 hz0 hz1 hz2 rfl (by omega) (.slice A4 i c4) i (fl (PL.take i)) (by rfl) (HO.out.alloc _) ⟨wr.heap.size, 0, none⟩ 1 1 [.float .f32 _] (by rfl) (by rfl) (World.news_of_block (cs := #[.float .f32 _]) (t := 50) (fr := (0, 0)) (heap_alloc_new wr _)) (by simp [Value.oneCell']) (by omega) (by unfold maxLen; omega) (by omega) (by simp; omega) (wr.heap.size + 1) (by simp) ?_; intro g9 cap9 w9 hown9 hgrow hat hlt9; have G9 := Lib.hid (Grow.step HB.out HO.out (Below.refl _ _) hgrow hown9); clear hown9 hgrow hat)
        go_roundw
        case rel => exact ⟨i + 1, by omega, by go_num, by rw [HRW.out], by rw [HLi.out]; exact G9.out⟩
        case measure => simp [intOf]; omega
    · obtain rfl : i = n := by omega
      have RF : Hid (Rd wr wr.heap.size A4 (fl PL)) := Lib.hid (by
        have h9 := Rd.of_own HO.out
        rw [HE.out.1] at h9
        exact h9)
      go_wp2_with (go_at_call 68; refine (HF.out _ _ _ RF.out).mono ?_; rintro e w7 ⟨rfl, q, rfl⟩)
      go_ret2
      have ho := HO.out
      rw [HE.out.1] at ho
      exact ⟨_, _, rfl, own_base (own_below ho (below_dn (Below.refl _ _) q)) B3.out.size, below_dn (below_next B3.out HB.out) q⟩
end Go.Proofs.Ytfkjnaaplhcheaa
