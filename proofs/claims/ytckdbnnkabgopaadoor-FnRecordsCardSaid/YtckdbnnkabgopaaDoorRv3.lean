/-
  impl.RecoverRecords: the records that a text begins with, in a row that the call owns.
-/
import Derived.Test.YtckdbnnkabgopaaDoorRv2
import Derived.Deep.DeepCutAuto
namespace Go.Proofs.YtckdbnnkabgopaaDoor
open Go Go.RowKit Go.Joins

def RvOut (s : ByteArray) (w : World) (e : Ending) (w' : World) : Prop :=
  ∃ A c ts, ts.map (·.1) = rcvs 8 s.data.toList ∧ e = .returned (.tuple #[.slice A ts.length c, .int .i64 (plc 8 s.data.toList : Nat), .bool true]) ∧ OR w' w.heap.size (.slice A ts.length c) ts ∧ Below w.heap.size w w'
theorem ext_rest (s : ByteArray) (p : Nat) : (s.extract p s.size).data.toList = s.data.toList.drop p := by
  rw [ext_bytes, List.take_of_length_le]
  rw [List.length_drop, ← Lib.size_eq]
  exact Nat.le_refl _
set_option maxRecDepth 100000 in
set_option maxHeartbeats 6400000 in
theorem RecoverRecords_any (s : ByteArray) (w : World) (hs : s.size ≤ 1048576) : Calls Tryd.prog 11 #[.string s] w (RvOut s w) := by
  obtain ⟨i0, hi0, hz0, hz1, hz2⟩ : ∃ i, Tryd.prog.info? 34 = some i ∧ i.zero = some (.agg #[.string ⟨#[]⟩, .int .i64 0, .int .u64 0, .int .u64 0, .slice none 0 0]) ∧ i.size = 5 ∧ i.bytes ≤ 1024 := by
    obtain ⟨i, hi, hzz⟩ := Option.map_eq_some_iff.1 info_rec
    simp only [Prod.mk.injEq] at hzz
    have hb := rec_bytes
    rw [hi] at hb
    exact ⟨i, hi, hzz.1, hzz.2, by simpa using hb⟩
  have HF : Hid (∀ p W, Calls Tryd.prog 18 #[.string (s.extract p s.size)] W (fun e w' => ∃ A c, e = .returned (.tuple #[.agg #[.string (frR (s.data.toList.drop p)).nm, .int .i64 (frR (s.data.toList.drop p)).k, .int .u64 (frR (s.data.toList.drop p)).a, .int .u64 (frR (s.data.toList.drop p)).b, .slice A (frR (s.data.toList.drop p)).ds.length c], .int .i64 (frN (s.data.toList.drop p) : Nat), .bool (frB (s.data.toList.drop p))]) ∧ w'.ownsRow W.heap.size 2 1 (.slice A (frR (s.data.toList.drop p)).ds.length c) (frR (s.data.toList.drop p)).ds.length (il (frR (s.data.toList.drop p)).ds) ∧ Below W.heap.size W w')) := Lib.hid fun p W => by
    have := firstRecord_any (s.extract p s.size) W (by rw [ByteArray.size_extract]; omega)
    unfold FrOut at this
    rw [ext_rest] at this
    exact this
  have HL : Hid (s.size = s.data.toList.length) := Lib.hid (Lib.size_eq s)
  have HSTEP : Hid (∀ i p out, RvAt s.data.toList i p out → i < 8 → frB (s.data.toList.drop p) = true → RvAt s.data.toList (i + 1) (p + frN (s.data.toList.drop p)) (out ++ [frR (s.data.toList.drop p)]) ∧ 0 < frN (s.data.toList.drop p) ∧ p + frN (s.data.toList.drop p) ≤ s.size) := Lib.hid fun i p out h hi hf => by
    have h1 := h.step hi hf
    have h2 := fr_long hf
    exact ⟨h1, by omega, by rw [Lib.size_eq]; exact h1.2.1⟩
  have HSTOP : Hid (∀ i p out, RvAt s.data.toList i p out → (i = 8 ∨ frB (s.data.toList.drop p) = false) → rcvs 8 s.data.toList = out ∧ plc 8 s.data.toList = p) := Lib.hid fun i p out h hi => h.stop hi
  have HST := Lib.hid (RvAt.start s.data.toList)
  have HLE : Hid (∀ i p out, RvAt s.data.toList i p out → i ≤ 8 ∧ p ≤ s.size) := Lib.hid fun i p out h => ⟨h.1, by rw [Lib.size_eq]; exact h.2.1⟩
  unfold RvOut
  go_enter Tryd.func11, Tryd.ntmps11
  go_wp2_with fail
  have START : Hid (Below w.heap.size w (w.alloc (.cells #[] 34)) ∧ OR (w.alloc (.cells #[] 34)) w.heap.size (.slice (some ⟨w.heap.size, 0, none⟩) 0 0) []) := Lib.hid ⟨below_al (Below.refl _ _) _, OR.start (World.ownsRow_made w #[] 0 (Nat.le_refl _) (by unfold maxLen; omega) rfl)⟩
  go_loopw [5, 6, 7, 8, 9] (fun v5 v6 _ _ _ wr => ∃ (i p : Nat) (A : Option Addr) (c : Nat) (ts : List Rt), v5 = .slice A i c ∧ v6 = .int .i64 p ∧ ts.length = i ∧ RvAt s.data.toList i p (ts.map (·.1)) ∧ OR wr w.heap.size (.slice A i c) ts ∧ Below w.heap.size w wr) (fun _ v6 _ _ _ _ => s.size - (intOf v6).toNat)
  case atStart => exact ⟨0, 0, _, 0, [], rfl, rfl, rfl, HST.out, START.out.2, START.out.1⟩
  case round =>
    obtain ⟨i, p, A, c, ts, rfl, rfl, hlen, hrv, hor, hbw⟩ := hrel
    rename World => wr
    have HLN := Lib.hid hlen
    have HRV := Lib.hid hrv
    have HOR := Lib.hid hor
    have HBW := Lib.hid hbw
    obtain ⟨hi8, hps⟩ := HLE.out _ _ _ hrv
    clear hlen hrv hor hbw START HST
    by_cases hi : i < 8
    · have HFp := Lib.hid (HF.out p)
      have HSp := Lib.hid (HSTEP.out i p _ HRV.out hi)
      have HTp := Lib.hid (HSTOP.out i p _ HRV.out)
      clear HF HSTEP HSTOP HLE
      generalize frR (s.data.toList.drop p) = r at *
      generalize frN (s.data.toList.drop p) = N at *
      generalize frB (s.data.toList.drop p) = F at *
      obtain ⟨nm, k, a, b, ds⟩ := r
      dsimp only at *
      go_wp2_with fail
      refine (HFp.out _).mono ?_
      rintro e w1 ⟨A1, c1, rfl, ho1, hb1⟩
      have HO1 := Lib.hid ho1
      have HB1 := Lib.hid hb1
      clear ho1 hb1
      cases F with
      | false =>
        have HR := Lib.hid (HTp.out (.inr rfl))
        go_wp2_with fail
        refine bodyPost_ret (v := .tuple #[.slice A i c, .int .i64 p, .bool true]) (by simp [results, Tryd.results11, go_sem]) rfl ⟨A, c, ts, HR.out.1.symm, ?_, ?_, ?_⟩
        · rw [HLN.out, HR.out.2]
        · rw [HLN.out]
          exact (HOR.out.keep HB1.out).keep (below_al (Below.refl _ _) _)
        · exact below_al (below_next HBW.out HB1.out) _
      | true =>
        obtain ⟨q1, q2, q3⟩ := HSp.out rfl
        have HRV1 := Lib.hid q1
        have hby : (i + 1) * i0.bytes ≤ 8 * 1024 := Nat.mul_le_mul (by omega) hz2
        clear q1
        have hlen := HLN.out
        subst hlen
        have OBJ : Hid (∀ j u, ([.string nm, .int .i64 k, .int .u64 a, .int .u64 b, .slice A1 ds.length c1] : List Value)[j]? = some u → ((w1.alloc (.cells #[.string nm, .int .i64 k, .int .u64 a, .int .u64 b, .slice A1 ds.length c1] 34)).alloc (.cells #[.string nm, .int .i64 k, .int .u64 a, .int .u64 b, .slice A1 ds.length c1] 34)).cell? ((⟨w1.heap.size + 1, 0, none⟩ : Addr).add j) = some u) := Lib.hid (World.news_of_block (cs := #[.string nm, .int .i64 k, .int .u64 a, .int .u64 b, .slice A1 ds.length c1]) (t := 34) (fr := (0, 0)) (by have h := heap_alloc_new (w1.alloc (.cells #[.string nm, .int .i64 k, .int .u64 a, .int .u64 b, .slice A1 ds.length c1] 34)) (.cells #[.string nm, .int .i64 k, .int .u64 a, .int .u64 b, .slice A1 ds.length c1] 34); rwa [World.size_alloc] at h))
        have OWN : Hid (w1.ownsRow w.heap.size 34 5 (.slice A ts.length c) ts.length (rowC ts)) := Lib.hid (HOR.out.keep HB1.out).1
        have B2 : Hid (Below w1.heap.size w1 ((w1.alloc (.cells #[.string nm, .int .i64 k, .int .u64 a, .int .u64 b, .slice A1 ds.length c1] 34)).alloc (.cells #[.string nm, .int .i64 k, .int .u64 a, .int .u64 b, .slice A1 ds.length c1] 34))) := Lib.hid (below_al (below_al (Below.refl _ _) _) _)
        have S1 : Hid (w.heap.size ≤ wr.heap.size ∧ wr.heap.size ≤ w1.heap.size) := Lib.hid ⟨HBW.out.size, HB1.out.size⟩
        go_wp2_with (refine wpList_append_lies _ rfl _ _ _ rfl w.heap.size 34 i0 _ 5 i0.bytes Tryd.underlying24 hi0 hz0 hz1 rfl rfl (by omega) (.slice A ts.length c) ts.length (rowC ts) (by rfl) ((OWN.out.alloc _).alloc _) ⟨w1.heap.size + 1, 0, none⟩ 1 1 [.string nm, .int .i64 k, .int .u64 a, .int .u64 b, .slice A1 ds.length c1] (by rfl) (by rfl) OBJ.out (by simp [Value.oneCell']) (by omega) (by unfold maxLen; omega) (by omega) (by have := S1.out; simp; omega) (w1.heap.size + 2) (by simp) ?_; intro g cap w9 hown9 hgrow hat hlt9; have HB9 := Lib.hid ((below_al (below_al (below_next HBW.out HB1.out) (.cells #[.string nm, .int .i64 k, .int .u64 a, .int .u64 b, .slice A1 ds.length c1] 34)) (.cells #[.string nm, .int .i64 k, .int .u64 a, .int .u64 b, .slice A1 ds.length c1] 34)).grown hgrow (by have := S1.out; simp; omega) (fun q hq => (OWN.out.lt q hq).1)); have HO9 := Lib.hid (OR.snoc (r := ⟨nm, k, a, b, ds⟩) (A := A1) (c := c1) HOR.out S1.out.1 HB1.out HO1.out B2.out hgrow hown9 (by first | exact hat | simpa using hat)); clear hown9 hgrow hat)
        go_roundw
        case rel => exact ⟨ts.length + 1, p + N, some ⟨g, 0, none⟩, cap, _, rfl, by go_num, by simp, by rw [List.map_append]; exact HRV1.out, HO9.out, HB9.out⟩
        case measure => simp [intOf]; omega
    · obtain rfl : i = 8 := by omega
      have HR := Lib.hid (HSTOP.out 8 p _ HRV.out (.inl rfl))
      go_wp2_with fail
      refine bodyPost_ret (v := .tuple #[.slice A 8 c, .int .i64 p, .bool true]) (by simp [results, Tryd.results11, go_sem]) rfl ⟨A, c, ts, HR.out.1.symm, ?_, ?_, HBW.out⟩
      · rw [HLN.out, HR.out.2]
      · rw [HLN.out]
        exact HOR.out
end Go.Proofs.YtckdbnnkabgopaaDoor

