/-
  A number that a text tells: spec.l01Value, impl.ReadDecimal.
-/
import Derived.Test.YtadkpmmbnenemaaGreatDoorRd1
namespace Go.Proofs.YtadkpmmbnenemaaGreatDoor
open Go Go.RowKit

def RdOut (s : ByteArray) (w : World) (e : Ending) (w' : World) : Prop := e = .returned (.tuple #[.int .i64 (rdV s.data.toList).1, .bool (rdV s.data.toList).2]) ∧ Below w.heap.size w w'
theorem take_byte {s : ByteArray} {k : Nat} (h : k < s.size) : s.data.toList.take (k + 1) = s.data.toList.take k ++ [s[k]] := by
  rw [List.take_succ_eq_append_getElem (by rw [← Lib.size_eq]; exact h)]
  rfl
theorem u8_sub {b : UInt8} (h : (48 : Int) ≤ (b.toNat : Int)) : IntKind.u8.wrap ((b.toNat : Int) - 48) = (b.toNat : Int) - 48 := by
  have := b.toNat_lt
  rw [IntKind.wrap_u8]
  omega
theorem str_eq_iff (o s : ByteArray) : (o.toList == s.toList) = decide (o.data.toList = s.data.toList) := by
  rw [Lib.toList_data, Lib.toList_data]
  exact Bool.eq_iff_iff.2 (by simp)
set_option maxRecDepth 100000 in
set_option maxHeartbeats 3200000 in
theorem l01Value_any (s : ByteArray) (w : World) (hs : s.size ≤ 9223372036854775807) : Calls Tryz.prog 28 #[.string s] w (RdOut s w) := by
  have HLONG : Hid (s.size < 1 ∨ 17 < s.size → rdV s.data.toList = (0, false)) := Lib.hid fun h => rdV_long (by rw [← Lib.size_eq]; exact h)
  have HLT : Hid (∀ k, k ≤ 17 → sv (s.data.toList.take k) < 100000000000000000) := Lib.hid fun k hk => sv_lt 17 _ (by rw [List.length_take]; omega)
  have HS : Hid (∀ k (h : k < s.size), sv (s.data.toList.take (k + 1)) = if 48 ≤ s[k].toNat ∧ s[k].toNat ≤ 57 then 10 * sv (s.data.toList.take k) + (s[k].toNat - 48) else sv (s.data.toList.take k)) := Lib.hid fun k h => by rw [take_byte h, sv_snoc]
  have H0 : Hid (sv (s.data.toList.take 0) = 0) := Lib.hid rfl
  have HE : Hid (sv (s.data.toList.take s.size) = sv s.data.toList) := Lib.hid (by rw [List.take_of_length_le (by rw [← Lib.size_eq]; exact Nat.le_refl _)])
  have HI : Hid (∀ h : 0 < s.size, svI s.data.toList = if s[0] = 45 then -(sv s.data.toList : Int) else sv s.data.toList) := Lib.hid fun h => by
    unfold svI
    have e : s.data.toList.head? = some s[0] := by
      rw [List.head?_eq_getElem?, List.getElem?_eq_getElem (by rw [← Lib.size_eq]; exact h)]
      rfl
    rw [e]
    by_cases h2 : s[0] = 45
    · rw [if_pos h2, if_pos (by rw [h2])]
    · rw [if_neg h2, if_neg (fun hh => h2 (Option.some.inj hh))]
  have HR : Hid (rdV s.data.toList = if valB (svI s.data.toList) = true ∧ Lib.itoa (svI s.data.toList) = s.data.toList then (svI s.data.toList, true) else (0, false)) := Lib.hid (rdV_spec _)
  have HD : Hid (∀ n : Int, -9223372036854775808 ≤ n → n ≤ 9223372036854775807 → ∀ W, Calls Tryz.prog 51 #[.int .i64 n] W (DecOut n W)) := Lib.hid fun n h0 h1 W => l01Dec_any n W h0 h1
  have HIN := Lib.hid fun n w => l00In_any n (-1000000000000000) 1000000000000000 w
  have HV : Hid (∀ n, inB n (-1000000000000000) 1000000000000000 = valB n) := Lib.hid fun n => rfl
  unfold RdOut
  unfold DecOut at HD
  generalize rdV s.data.toList = Rv at *
  by_cases hlen : s.size < 1 ∨ 17 < s.size
  · have HQ := Lib.hid (HLONG.out hlen)
    clear HLONG HLT HS H0 HE HI HR HD HIN HV
    by_cases h1 : s.size < 1
    · have h2 : (s.size : Int) < 1 := by omega
      clear hlen
      go_enter Tryz.func28, Tryz.ntmps28
      go_wp2_with fail
      go_ret2
      rw [HQ.out]
      exact ⟨rfl, Below.refl _ _⟩
    · have h2 : ¬ (s.size : Int) < 1 := by omega
      have h3 : 17 < s.size := by omega
      clear hlen
      go_enter Tryz.func28, Tryz.ntmps28
      go_wp2_with fail
      go_ret2
      rw [HQ.out]
      exact ⟨rfl, Below.refl _ _⟩
  · have hp : 0 < s.size := by omega
    have hq : s.size ≤ 17 := by omega
    have HIp := Lib.hid (HI.out hp)
    have hby0 : ((s[0].toNat : Int) == 45) = decide (s[0] = 45) := by
      by_cases h : s[0] = 45
      · rw [decide_eq_true h, h]; rfl
      · rw [decide_eq_false h]
        refine beq_eq_false_iff_ne.2 fun e => h (UInt8.toNat_inj.1 ?_)
        show _ = 45
        omega
    clear HLONG hlen HI
    generalize svI s.data.toList = X at *
    generalize hF : (fun k => sv (s.data.toList.take k)) = F
    have hF' : ∀ k, sv (s.data.toList.take k) = F k := fun k => by rw [← hF]
    simp only [hF'] at HLT HS H0 HE
    clear hF hF'
    rw [← HE.out] at HIp
    clear HE
    go_enter Tryz.func28, Tryz.ntmps28
    go_wp2_with fail
    go_loop [4, 5] (fun nv iv => ∃ k : Nat, k ≤ s.size ∧ iv = .int .i64 k ∧ nv = .int .i64 (F k : Nat)) (fun _ iv => s.size - (intOf iv).toNat)
    case atStart => exact ⟨0, Nat.zero_le _, rfl, by rw [H0.out]; rfl⟩
    case round =>
      obtain ⟨k, hk, rfl, rfl⟩ := hrel
      by_cases hlt : k < s.size
      · have HSk := Lib.hid (HS.out k hlt)
        have hF1 := HLT.out k (by omega)
        have hF2 := HLT.out (k + 1) (by omega)
        by_cases ha : (48 : Int) ≤ (s[k].toNat : Int)
        · by_cases hb : (s[k].toNat : Int) ≤ 57
          · have hw := u8_sub ha
            have HK : Hid (F (k + 1) = 10 * F k + (s[k].toNat - 48)) := Lib.hid (by rw [HSk.out, if_pos (by omega)])
            have hK := HK.out
            rw [hK] at hF2
            clear hK
            generalize F k = x at *
            go_wp2_with fail
            go_round
            case rel => exact ⟨k + 1, by omega, by go_num, by first | (rw [HK.out]; go_num) | go_num⟩
            case measure => simp [intOf]; omega
          · have HK : Hid (F (k + 1) = F k) := Lib.hid (by rw [HSk.out, if_neg (by omega)])
            go_wp2_with fail
            go_round
            case rel => exact ⟨k + 1, by omega, by go_num, by rw [HK.out]⟩
            case measure => simp [intOf]; omega
        · have HK : Hid (F (k + 1) = F k) := Lib.hid (by rw [HSk.out, if_neg (by omega)])
          go_wp2_with fail
          go_round
          case rel => exact ⟨k + 1, by omega, by go_num, by rw [HK.out]⟩
          case measure => simp [intOf]; omega
      · obtain rfl : k = s.size := by omega
        have hF1 := HLT.out _ hq
        clear HLT HS H0
        generalize F s.size = x at *
        by_cases hneg : s[0] = 45
        · have hb0 : ((s[0].toNat : Int) == 45) = true := by rw [hby0]; exact decide_eq_true hneg
          have HX : Hid (X = -(x : Int)) := Lib.hid (by rw [HIp.out, if_pos hneg])
          rw [HX.out] at HR
          clear hby0 HIp hneg HX
          have HDx := Lib.hid (HD.out (-(x : Int)) (by omega) (by omega))
          have HVx := Lib.hid fun w => HIN.out (-(x : Int)) w
          rw [HV.out] at HVx
          have hcs := str_eq_iff ⟨(Lib.itoa (-(x : Int))).toArray⟩ s
          have HCS : Hid (((⟨(Lib.itoa (-(x : Int))).toArray⟩ : ByteArray).toList == s.toList) = decide (Lib.itoa (-(x : Int)) = s.data.toList)) := Lib.hid hcs
          clear hcs HD HIN HV
          generalize (⟨(Lib.itoa (-(x : Int))).toArray⟩ : ByteArray) = o at *
          cases hv : valB (-(x : Int)) with
          | false =>
            have HQ : Hid (Rv = (0, false)) := Lib.hid (by rw [HR.out, if_neg (fun hh => by rw [hv] at hh; cases hh.1)])
            rw [hv] at HVx
            clear hv HR HCS
            go_wp2_with (go_at_call 50; refine (HVx.out _).mono ?_; rintro e w1 ⟨rfl, rfl⟩)
            go_ret2
            rw [HQ.out]
            exact ⟨rfl, Below.refl _ _⟩
          | true =>
            rw [hv] at HVx
            by_cases heq : Lib.itoa (-(x : Int)) = s.data.toList
            · have HQ : Hid (Rv = (-(x : Int), true)) := Lib.hid (by rw [HR.out, if_pos ⟨hv, heq⟩])
              have hcmp := HCS.out
              rw [decide_eq_true heq] at hcmp
              clear hv HR HCS heq
              go_wp2_with (first
                | (go_at_call 50; refine (HVx.out _).mono ?_; rintro e w1 ⟨rfl, rfl⟩)
                | (go_at_call 51; refine (HDx.out _).mono ?_; rintro e w2 ⟨rfl, hb2⟩; have HB := Lib.hid hb2; clear hb2))
              go_ret2
              rw [HQ.out]
              exact ⟨rfl, HB.out⟩
            · have HQ : Hid (Rv = (0, false)) := Lib.hid (by rw [HR.out, if_neg (fun hh => heq hh.2)])
              have hcmp := HCS.out
              rw [decide_eq_false heq] at hcmp
              clear hv HR HCS heq
              go_wp2_with (first
                | (go_at_call 50; refine (HVx.out _).mono ?_; rintro e w1 ⟨rfl, rfl⟩)
                | (go_at_call 51; refine (HDx.out _).mono ?_; rintro e w2 ⟨rfl, hb2⟩; have HB := Lib.hid hb2; clear hb2))
              go_ret2
              rw [HQ.out]
              exact ⟨rfl, HB.out⟩
        · have hb0 : ((s[0].toNat : Int) == 45) = false := by rw [hby0]; exact decide_eq_false hneg
          have HX : Hid (X = (x : Int)) := Lib.hid (by rw [HIp.out, if_neg hneg])
          rw [HX.out] at HR
          clear hby0 HIp hneg HX
          have HDx := Lib.hid (HD.out ((x : Int)) (by omega) (by omega))
          have HVx := Lib.hid fun w => HIN.out ((x : Int)) w
          rw [HV.out] at HVx
          have hcs := str_eq_iff ⟨(Lib.itoa ((x : Int))).toArray⟩ s
          have HCS : Hid (((⟨(Lib.itoa ((x : Int))).toArray⟩ : ByteArray).toList == s.toList) = decide (Lib.itoa ((x : Int)) = s.data.toList)) := Lib.hid hcs
          clear hcs HD HIN HV
          generalize (⟨(Lib.itoa ((x : Int))).toArray⟩ : ByteArray) = o at *
          cases hv : valB ((x : Int)) with
          | false =>
            have HQ : Hid (Rv = (0, false)) := Lib.hid (by rw [HR.out, if_neg (fun hh => by rw [hv] at hh; cases hh.1)])
            rw [hv] at HVx
            clear hv HR HCS
            go_wp2_with (go_at_call 50; refine (HVx.out _).mono ?_; rintro e w1 ⟨rfl, rfl⟩)
            go_ret2
            rw [HQ.out]
            exact ⟨rfl, Below.refl _ _⟩
          | true =>
            rw [hv] at HVx
            by_cases heq : Lib.itoa ((x : Int)) = s.data.toList
            · have HQ : Hid (Rv = ((x : Int), true)) := Lib.hid (by rw [HR.out, if_pos ⟨hv, heq⟩])
              have hcmp := HCS.out
              rw [decide_eq_true heq] at hcmp
              clear hv HR HCS heq
              go_wp2_with (first
                | (go_at_call 50; refine (HVx.out _).mono ?_; rintro e w1 ⟨rfl, rfl⟩)
                | (go_at_call 51; refine (HDx.out _).mono ?_; rintro e w2 ⟨rfl, hb2⟩; have HB := Lib.hid hb2; clear hb2))
              go_ret2
              rw [HQ.out]
              exact ⟨rfl, HB.out⟩
            · have HQ : Hid (Rv = (0, false)) := Lib.hid (by rw [HR.out, if_neg (fun hh => heq hh.2)])
              have hcmp := HCS.out
              rw [decide_eq_false heq] at hcmp
              clear hv HR HCS heq
              go_wp2_with (first
                | (go_at_call 50; refine (HVx.out _).mono ?_; rintro e w1 ⟨rfl, rfl⟩)
                | (go_at_call 51; refine (HDx.out _).mono ?_; rintro e w2 ⟨rfl, hb2⟩; have HB := Lib.hid hb2; clear hb2))
              go_ret2
              rw [HQ.out]
              exact ⟨rfl, HB.out⟩
/-- what a reader of numbers wants of a world: the tables and the two errors of the library -/
def Env (w : World) : Prop := Tab w ∧ (∃ mx, w.cell? ⟨0, 0, none⟩ = some (.int .i64 mx)) ∧ (∃ tp p, w.cell? ⟨3, 0, none⟩ = some (.iface tp p)) ∧ ∃ tp p, w.cell? ⟨4, 0, none⟩ = some (.iface tp p)
theorem Env.keep {w w' : World} (h : Env w) (hb : Below w.heap.size w w') : Env w' := by
  obtain ⟨h1, ⟨mx, h2⟩, ⟨tp, p, h3⟩, ⟨tq, q, h4⟩⟩ := h
  exact ⟨h1.keep hb, ⟨mx, keepC hb h2⟩, ⟨tp, p, keepC hb h3⟩, ⟨tq, q, keepC hb h4⟩⟩
/-- what ParseInt gives: the number and no error, or an error -/
theorem parse_any (s : ByteArray) (w : World) (hs : s.size ≤ 1048576) (he : Env w) : Calls Tryz.prog 36 #[.string s, .int .i64 10, .int .i64 64] w (fun e w' => (∃ v, (Lib.parseIntB 64 s.data.toList = .ok v ∧ e = .returned (.tuple #[.int .i64 v, .nilIface])) ∧ Below w.heap.size w w') ∨ (∃ v t p, ((∀ u, Lib.parseIntB 64 s.data.toList = .ok u → False) ∧ e = .returned (.tuple #[.int .i64 v, .iface t p])) ∧ Below w.heap.size w w')) := by
  obtain ⟨_, _, ⟨tp, p, h3⟩, ⟨tq, q, h4⟩⟩ := he
  cases hp : Lib.parseIntB 64 s.data.toList with
  | ok v =>
    refine (Tryz.strconv_ParseInt_10_at64_ok s (by omega) v hp w).mono ?_
    rintro e w' ⟨rfl, hw⟩
    refine .inl ⟨v, ⟨rfl, rfl⟩, ?_⟩
    rcases hw with rfl | ⟨t, rfl⟩
    · exact Below.refl _ _
    · exact Lib.bytesWorld_below _ _ _
  | «syntax» =>
    refine (Tryz.strconv_ParseInt_10_at64_syntax s (by omega) hp _ w h3 (.inr ⟨_, _, rfl⟩)).mono ?_
    rintro e w' ⟨N, rfl, _, _, hb⟩
    exact .inr ⟨_, _, _, ⟨(fun u hu => by cases hu), rfl⟩, hb⟩
  | range =>
    refine (Tryz.strconv_ParseInt_10_at64_range s (by omega) hp _ w h4 (.inr ⟨_, _, rfl⟩)).mono ?_
    rintro e w' ⟨N, rfl, _, _, hb⟩
    exact .inr ⟨_, _, _, ⟨(fun u hu => by cases hu), rfl⟩, hb⟩
theorem parse_range {l : List UInt8} {v : Int} (h : Lib.parseIntB 64 l = .ok v) : -9223372036854775808 ≤ v ∧ v ≤ 9223372036854775807 := by
  cases l with
  | nil => cases h
  | cons c r =>
    simp only [Lib.parseIntB] at h
    split at h
    · cases h
    · cases h
    · rename_i u hu
      split at h
      · cases h
      · split at h
        · cases h
        · rename_i h1 h2
          injection h with h
          subst h
          have hle := Lib.parseUintB_le hu
          split <;> omega
set_option maxRecDepth 100000 in
set_option maxHeartbeats 3200000 in
theorem ReadDecimal_any (s : ByteArray) (w : World) (hs : s.size ≤ 1048576) (he : Env w) : Calls Tryz.prog 20 #[.string s] w (RdOut s w) := by
  have HP := Lib.hid (parse_any s w hs he)
  have HNO : Hid ((∀ u, Lib.parseIntB 64 s.data.toList = .ok u → False) → rdV s.data.toList = (0, false)) := Lib.hid fun h => by
    unfold rdV
    split
    · rename_i v hv
      exact (h v hv).elim
    · rfl
  have HYES : Hid (∀ v, Lib.parseIntB 64 s.data.toList = .ok v → rdV s.data.toList = if valB v = true ∧ Lib.itoa v = s.data.toList then (v, true) else (0, false)) := Lib.hid fun v h => by
    unfold rdV
    rw [h]
  have HRG : Hid (∀ v, Lib.parseIntB 64 s.data.toList = .ok v → -9223372036854775808 ≤ v ∧ v ≤ 9223372036854775807) := Lib.hid fun v h => parse_range h
  have HTB := Lib.hid he
  have HI := Lib.hid fun n w => isValue_any n w
  have HD : Hid (∀ (n : Int), -9223372036854775808 ≤ n → n ≤ 9223372036854775807 → ∀ W, Tab W → Calls Tryz.prog 38 #[.int .i64 n] W (DecOut n W)) := Lib.hid fun n h0 h1 W ht => Decimal_any n W h0 h1 ht
  unfold RdOut
  unfold DecOut at HD
  unfold SameOut at HI
  generalize rdV s.data.toList = Rv at *
  clear he
  go_enter Tryz.func20, Tryz.ntmps20
  go_wp2_with fail
  refine HP.out.mono ?_
  rintro e w1 (⟨v, ⟨hp, rfl⟩, hb⟩ | ⟨v, t, p, ⟨hp, rfl⟩, hb⟩)
  · have HB := Lib.hid hb
    have HQ := Lib.hid (HYES.out v hp)
    obtain ⟨r0, r1⟩ := HRG.out v hp
    have HDv := Lib.hid (HD.out v r0 r1)
    have HIv := Lib.hid fun w => HI.out v w
    have HCS : Hid (((⟨(Lib.itoa v).toArray⟩ : ByteArray).toList == s.toList) = decide (Lib.itoa v = s.data.toList)) := Lib.hid (str_eq_iff ⟨(Lib.itoa v).toArray⟩ s)
    clear hb hp HYES HNO HRG HD HI HP
    generalize (⟨(Lib.itoa v).toArray⟩ : ByteArray) = o at *
    cases hv : valB v with
    | false =>
      have HF : Hid (Rv = (0, false)) := Lib.hid (by rw [HQ.out, if_neg (fun hh => by rw [hv] at hh; cases hh.1)])
      rw [hv] at HIv
      clear hv HQ HCS
      go_wp2_with (go_at_call 37; refine (HIv.out _).mono ?_; rintro e w2 ⟨rfl, rfl⟩)
      go_ret2
      rw [HF.out]
      exact ⟨rfl, HB.out⟩
    | true =>
      rw [hv] at HIv
      by_cases heq : Lib.itoa v = s.data.toList
      · have HF : Hid (Rv = (v, true)) := Lib.hid (by rw [HQ.out, if_pos ⟨hv, heq⟩])
        have hcmp := HCS.out
        rw [decide_eq_true heq] at hcmp
        clear hv HQ HCS heq
        go_wp2_with (first
          | (go_at_call 37; refine (HIv.out _).mono ?_; rintro e w2 ⟨rfl, rfl⟩)
          | (go_at_call 38; refine (HDv.out _ (HTB.out.keep HB.out).1).mono ?_; rintro e w3 ⟨rfl, hb3⟩; have HB3 := Lib.hid (below_next HB.out hb3); clear hb3))
        go_ret2
        rw [HF.out]
        exact ⟨rfl, HB3.out⟩
      · have HF : Hid (Rv = (0, false)) := Lib.hid (by rw [HQ.out, if_neg (fun hh => heq hh.2)])
        have hcmp := HCS.out
        rw [decide_eq_false heq] at hcmp
        clear hv HQ HCS heq
        go_wp2_with (first
          | (go_at_call 37; refine (HIv.out _).mono ?_; rintro e w2 ⟨rfl, rfl⟩)
          | (go_at_call 38; refine (HDv.out _ (HTB.out.keep HB.out).1).mono ?_; rintro e w3 ⟨rfl, hb3⟩; have HB3 := Lib.hid (below_next HB.out hb3); clear hb3))
        go_ret2
        rw [HF.out]
        exact ⟨rfl, HB3.out⟩
  · have HB := Lib.hid hb
    have HF := Lib.hid (HNO.out hp)
    clear hb hp HYES HNO HRG HD HI HP
    go_wp2_with fail
    go_ret2
    rw [HF.out]
    exact ⟨rfl, HB.out⟩
end Go.Proofs.YtadkpmmbnenemaaGreatDoor
