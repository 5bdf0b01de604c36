/-
  spec.StoreRecords, impl.StoreRecords.
-/
import Derived.Test.YtckdbnnkabgopaaDoorRq2
import Derived.Deep.DeepCutAuto
namespace Go.Proofs.YtckdbnnkabgopaaDoor
open Go Go.RowKit

def StsOut (xs : List Rc) (w : World) (e : Ending) (w' : World) : Prop := e = .returned (.tuple #[.string (stS xs), .bool (stB xs)]) ∧ Below w.heap.size w w'
set_option maxRecDepth 100000 in
set_option maxHeartbeats 3200000 in
theorem StoreRecords_any (A : Option Addr) (xs : List Rc) (c : Nat) (w : World) (hx : xs.length ≤ 9223372036854775807) (hk : ∀ i (h : i < xs.length), xs[i].ok) (hr : RRow w w.heap.size A xs) :
    Calls Tryd.prog 10 #[.slice A xs.length c] w (StsOut xs w) := by
  have HR := Lib.hid hr
  have HREC : Hid (∀ i (h : i < xs.length) A' c' W, Rd W W.heap.size A' (il xs[i].ds) → Calls Tryd.prog 8 #[rcV xs[i].nm xs[i].k xs[i].a xs[i].b A' xs[i].ds.length c'] W (BoolOut xs[i].valid W)) := Lib.hid fun i h A' c' W hd => by
    obtain ⟨k1, k2, k3, k4⟩ := hk i h
    exact ValidRecord_any xs[i].nm xs[i].k xs[i].a xs[i].b A' xs[i].ds c' W k1 k3 k4 hd
  have HSTO : Hid (∀ i (h : i < xs.length), xs[i].valid = true → ∀ A' c' W, Rd W W.heap.size A' (il xs[i].ds) → Calls Tryd.prog 17 #[rcV xs[i].nm xs[i].k xs[i].a xs[i].b A' xs[i].ds.length c'] W (StrOut xs[i].bytes W)) := Lib.hid fun i h hv A' c' W hd => by
    obtain ⟨k1, k2, k3, k4⟩ := hk i h
    obtain ⟨v1, v2, v3, v4⟩ := valid_facts hv
    exact storeRecord_any xs[i].nm xs[i].k xs[i].a xs[i].b A' xs[i].ds c' W v1 v2 k2 k3 v3 (num_all v4) hd
  have HNO : Hid (∀ i (h : i < xs.length), xs[i].valid = false → stB xs = false) := Lib.hid fun i h hv => stB_no h hv
  have HBIG : Hid (8 < xs.length → stB xs = false) := Lib.hid fun h => stB_big h
  have HYES : Hid (xs.length ≤ 8 → (xs.take xs.length).all Rc.valid = true → stB xs = true) := Lib.hid fun h1 h2 => stB_yes h1 h2
  have HSN : Hid (stB xs = false → stS xs = ⟨#[]⟩) := Lib.hid stS_no
  have HSY : Hid (stB xs = true → stS xs = ⟨(stL (xs.take xs.length)).toArray⟩) := Lib.hid stS_yes
  have HCAT : Hid (∀ i (h : i < xs.length), (⟨(stL (xs.take i)).toArray⟩ : ByteArray) ++ ⟨(xs[i].bytes).toArray⟩ = ⟨(stL (xs.take (i + 1))).toArray⟩) := Lib.hid fun i h => st_cat h
  have HALL : Hid (∀ i (h : i < xs.length), (xs.take i).all Rc.valid = true → xs[i].valid = true → (xs.take (i + 1)).all Rc.valid = true) := Lib.hid fun i h h1 h2 => all_upto h h1 h2
  have HLEN : Hid (∀ i, (xs.take i).all Rc.valid = true → (⟨(stL (xs.take i)).toArray⟩ : ByteArray).size ≤ 546 * i) := Lib.hid fun i h => by
    rw [Lib.size_eq]
    have := stL_len h
    have h2 : (xs.take i).length ≤ i := by rw [List.length_take]; omega
    show (stL (xs.take i)).length ≤ _
    omega
  have HBL : Hid (∀ i (h : i < xs.length), xs[i].valid = true → (⟨(xs[i].bytes).toArray⟩ : ByteArray).size ≤ 546) := Lib.hid fun i h hv => by rw [Lib.size_eq]; exact bytes_len hv
  unfold StsOut
  unfold BoolOut rcV at HREC
  unfold StrOut rcV at HSTO
  clear hr hk
  go_enter Tryd.func10, Tryd.ntmps10
  go_wp2_with fail
  go_loopw [4, 9] (fun sv iv wr => ∃ i : Nat, i ≤ xs.length ∧ (0 < i → xs.length ≤ 8) ∧ iv = .int .i64 i ∧ sv = .string ⟨(stL (xs.take i)).toArray⟩ ∧ (xs.take i).all Rc.valid = true ∧ Below w.heap.size w wr) (fun _ iv _ => xs.length - (intOf iv).toNat)
  case atStart => exact ⟨0, Nat.zero_le _, (fun h => by omega), rfl, rfl, rfl, Below.refl _ _⟩
  case round =>
    obtain ⟨i, hi, h8i, rfl, rfl, hall, hbw⟩ := hrel
    rename World => wr
    have HB := Lib.hid hbw
    have HA := Lib.hid hall
    have H8I := Lib.hid h8i
    clear hbw hall h8i
    by_cases hlt : i < xs.length
    · obtain ⟨p, off, rfl, hp, hrow⟩ := HR.out (by omega)
      obtain ⟨A', c', ho, hd⟩ := hrow i hlt
      have hoo := ho.keep HB.out
      have HDD := Lib.hid (hd.at_ HB.out)
      have HRECi := Lib.hid (HREC.out i hlt A' c')
      have HSTOi := Lib.hid fun hv => HSTO.out i hlt hv A' c'
      have HNOi := Lib.hid (HNO.out i hlt)
      have HCATi := Lib.hid (HCAT.out i hlt)
      have HALLi := Lib.hid (HALL.out i hlt HA.out)
      have hsz := HLEN.out i HA.out
      have HBLi := Lib.hid (HBL.out i hlt)
      have h8b : i ≤ 8 := by
        rcases Nat.eq_zero_or_pos i with h | h
        · omega
        · have := H8I.out h; omega
      clear hrow ho hd HREC HSTO HNO HCAT HALL HLEN HBL hp
      generalize hv : xs[i].valid = v at *
      clear hv
      generalize (⟨(xs[i].bytes).toArray⟩ : ByteArray) = o2 at *
      generalize (⟨(stL (xs.take i)).toArray⟩ : ByteArray) = o1 at *
      generalize xs[i] = r at *
      obtain ⟨nm, k, a, b, ds⟩ := r
      dsimp only at *
      obtain ⟨c0, c1, c2, c3, c4⟩ := hoo
      go_upto_region 5 with fail
      generalize hW5 : World.alloc wr _ = w5
      have b5 : Below wr.heap.size wr w5 := by rw [← hW5]; exact below_al (Below.refl _ _) _
      have K5 : RcAt w5 wr.heap.size nm k a b A' ds.length c' := by rw [← hW5]; simp [RcAt, go_sem]
      have B5' := Lib.hid (below_next HB.out b5)
      have HD5 := Lib.hid (HDD.out.at_ b5)
      have HK5 := Lib.hid K5
      clear hW5 b5 c0 c1 c2 c3 c4
      obtain ⟨e0, e1, e2, e3, e4⟩ := K5
      cases v with
      | false =>
        have HF := Lib.hid (HNOi.out rfl)
        go_wp2_with fail
        refine (HRECi.out _ HD5.out).mono ?_
        rintro e w6 ⟨rfl, hb6⟩
        have B6 := Lib.hid (below_next B5'.out hb6)
        clear hb6
        go_wp2_with fail
        go_ret2
        rw [HF.out, HSN.out HF.out]
        exact ⟨rfl, B6.out⟩
      | true =>
        by_cases h8 : 8 < xs.length
        · have HF := Lib.hid (HBIG.out h8)
          have h8' : (8 : Int) < (xs.length : Int) := by omega
          go_wp2_with fail
          refine (HRECi.out _ HD5.out).mono ?_
          rintro e w6 ⟨rfl, hb6⟩
          have B6 := Lib.hid (below_next B5'.out hb6)
          clear hb6
          go_wp2_with fail
          go_ret2
          rw [HF.out, HSN.out HF.out]
          exact ⟨rfl, B6.out⟩
        · have h8' : ¬ (8 : Int) < (xs.length : Int) := by omega
          have hb2 := HBLi.out rfl
          have hq : ¬ 9223372036854775807 < o1.size + o2.size := by omega
          clear hb2 hsz
          go_wp2_with fail
          refine (HRECi.out _ HD5.out).mono ?_
          rintro e w6 ⟨rfl, hb6⟩
          have B6 := Lib.hid (below_next B5'.out hb6)
          have HD6 := Lib.hid (HD5.out.at_ hb6)
          have K6 := HK5.out.keep hb6
          clear hb6 e0 e1 e2 e3 e4
          obtain ⟨e0, e1, e2, e3, e4⟩ := K6
          go_wp2_with fail
          refine (HSTOi.out (by first | rfl | trivial | simp) _ HD6.out).mono ?_
          rintro e w7 ⟨rfl, hb7⟩
          have B7 := Lib.hid (below_next B6.out hb7)
          clear hb7
          go_wp2_with fail
          go_roundw
          case rel => exact ⟨i + 1, by omega, (fun _ => by omega), by go_num, by rw [← HCATi.out], HALLi.out (by first | rfl | trivial | simp), B7.out⟩
          case measure => simp [intOf]; omega
    · obtain rfl : i = xs.length := by omega
      have h88 : xs.length ≤ 8 := by
        rcases Nat.eq_zero_or_pos xs.length with h | h
        · omega
        · exact H8I.out h
      have HY := Lib.hid (HYES.out h88 HA.out)
      go_wp2_with fail
      go_ret2
      rw [HY.out, HSY.out HY.out]
      exact ⟨rfl, HB.out⟩
end Go.Proofs.YtckdbnnkabgopaaDoor

