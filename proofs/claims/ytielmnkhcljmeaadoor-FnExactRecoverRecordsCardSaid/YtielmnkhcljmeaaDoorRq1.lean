/-
  Records at an offset: spec.l07Record, spec.l07Store; rows of records.
-/
import Derived.Test.YtielmnkhcljmeaaDoorRc7
import Derived.Test.YtielmnkhcljmeaaDoorLo3
namespace Go.Proofs.YtielmnkhcljmeaaDoor
open Go Go.RowKit

def RcO (w : World) (p o : Nat) (nm : ByteArray) (k a b : Int) (A : Option Addr) (n c : Nat) : Prop :=
  w.cell? ⟨p, o, none⟩ = some (.string nm) ∧ w.cell? ⟨p, o + 1, none⟩ = some (.int .i64 k) ∧ w.cell? ⟨p, o + 2, none⟩ = some (.int .u64 a) ∧ w.cell? ⟨p, o + 3, none⟩ = some (.int .u64 b) ∧ w.cell? ⟨p, o + 4, none⟩ = some (.slice A n c)
theorem RcO.keep {w w' : World} {p o : Nat} {nm : ByteArray} {k a b : Int} {A : Option Addr} {n c : Nat} (h : RcO w p o nm k a b A n c) (hb : Below w.heap.size w w') : RcO w' p o nm k a b A n c :=
  ⟨keepC hb h.1, keepC hb h.2.1, keepC hb h.2.2.1, keepC hb h.2.2.2.1, keepC hb h.2.2.2.2⟩
theorem RcO.lt {w : World} {p o : Nat} {nm : ByteArray} {k a b : Int} {A : Option Addr} {n c : Nat} (h : RcO w p o nm k a b A n c) : p < w.heap.size := lt_of_cell (a := ⟨p, o, none⟩) h.1
set_option maxHeartbeats 1600000 in
theorem l07Record_o (p o : Nat) (nm : ByteArray) (k a b : Int) (A : Option Addr) (ds : List Int) (c : Nat) (w : World) (hs : nm.size ≤ 9223372036854775807) (hb : 0 ≤ b ∧ b < 18446744073709551616) (hx : ds.length ≤ 9223372036854775807)
    (hp : RcO w p o nm k a b A ds.length c) (h : Rd w w.heap.size A (il ds)) :
    Calls Tryd.prog 29 #[.pointer (some ⟨p, o, none⟩)] w (SameOut (.bool (recB nm.data.toList k a b ds)) w) := by
  have HN := Lib.hid fun w => l07Name_any nm w hs
  have HV := Lib.hid (l02Is_at p (o + 1) k a b hb w ⟨hp.2.1, hp.2.2.1, hp.2.2.2.1⟩)
  have HIN := Lib.hid fun n => l00In_any n 0 65535 w
  have HD : Hid (∀ n, inB n 0 65535 = numB n) := Lib.hid fun n => rfl
  have HA1 : Hid (∀ k (h : k < ds.length), (ds.take (k + 1)).all numB = ((ds.take k).all numB && numB ds[k])) := Lib.hid fun k h => all_pre h
  have HA2 : Hid (∀ k (h : k < ds.length), numB ds[k] = false → ds.all numB = false) := Lib.hid fun k h => all_pre_no h
  have HA3 : Hid (ds.take ds.length = ds) := Lib.hid List.take_length
  have HR : Hid (recB nm.data.toList k a b ds = (nameB nm.data.toList && seedB k a b && decide (ds.length ≤ 256) && ds.all numB)) := Lib.hid rfl
  obtain ⟨p0, p1, p2, p3, p4⟩ := hp
  have HH := Lib.hid h
  unfold SameOut
  unfold SameOut at HN
  rw [HR.out]
  clear HR h hb p1 p2 p3
  generalize nameB nm.data.toList = r1 at *
  generalize seedB k a b = r2 at *
  cases r1 with
  | false =>
    go_enter Tryd.func29, Tryd.ntmps29
    go_wp2_with (go_at_call 47; refine (HN.out _).mono ?_; rintro e w1 ⟨rfl, rfl⟩)
    go_ret
    exact ⟨rfl, rfl⟩
  | true =>
    cases r2 with
    | false =>
      go_enter Tryd.func29, Tryd.ntmps29
      go_wp2_with (first
        | (go_at_call 47; refine (HN.out _).mono ?_; rintro e w1 ⟨rfl, rfl⟩)
        | (go_at_call 48; refine HV.out.mono ?_; rintro e w1 ⟨rfl, rfl⟩))
      go_ret
      exact ⟨rfl, rfl⟩
    | true =>
      by_cases hl : ds.length ≤ 256
      · rw [decide_eq_true hl, Bool.true_and, Bool.true_and, Bool.true_and]
        obtain ⟨R, hR⟩ : ∃ R, R = ds.all numB := ⟨_, rfl⟩
        rw [← hR] at HA2 ⊢
        have HRR := Lib.hid hR
        clear hR
        go_enter Tryd.func29, Tryd.ntmps29
        go_wp2_with (first
          | (go_at_call 47; refine (HN.out _).mono ?_; rintro e w1 ⟨rfl, rfl⟩)
          | (go_at_call 48; refine HV.out.mono ?_; rintro e w1 ⟨rfl, rfl⟩))
        go_loop [3, 30] (fun _ i => ∃ k : Nat, k ≤ ds.length ∧ i = .int .i64 k ∧ (ds.take k).all numB = true) (fun _ i => ds.length - (intOf i).toNat)
        case atStart => exact ⟨0, Nat.zero_le _, rfl, by simp⟩
        case round =>
          obtain ⟨q, hq, rfl, hall⟩ := hrel
          have HALL := Lib.hid hall
          clear hall
          by_cases hlt : q < ds.length
          · obtain ⟨g, off, rfl, hg, hc⟩ := HH.out.ilAt hlt
            have HA1q := Lib.hid (HA1.out q hlt)
            have HA2q := Lib.hid (HA2.out q hlt)
            cases hle : numB ds[q] with
            | true =>
              have HLE := Lib.hid hle
              clear hle
              go_wp2_with (go_at_call 49; (with_reducible refine (HIN.out _).mono ?_); rw [HD.out, HLE.out]; rintro e w1 ⟨rfl, rfl⟩)
              go_round
              case rel => exact ⟨q + 1, by omega, by go_num, by rw [HA1q.out, HALL.out, HLE.out]; rfl⟩
              case measure => simp [intOf]; omega
            | false =>
              have HLE := Lib.hid hle
              clear hle
              go_wp2_with (go_at_call 49; (with_reducible refine (HIN.out _).mono ?_); rw [HD.out, HLE.out]; rintro e w1 ⟨rfl, rfl⟩)
              go_ret
              rw [HA2q.out HLE.out]
              exact ⟨rfl, rfl⟩
          · obtain rfl : q = ds.length := by omega
            have HE : Hid (R = true) := Lib.hid (by rw [HRR.out, ← HA3.out]; exact HALL.out)
            go_wp2
            go_ret
            rw [HE.out]
            exact ⟨rfl, rfl⟩
      · rw [decide_eq_false hl]
        go_enter Tryd.func29, Tryd.ntmps29
        go_wp2_with (first
          | (go_at_call 47; refine (HN.out _).mono ?_; rintro e w1 ⟨rfl, rfl⟩)
          | (go_at_call 48; refine HV.out.mono ?_; rintro e w1 ⟨rfl, rfl⟩))
        go_ret
        exact ⟨rfl, rfl⟩

set_option maxRecDepth 100000 in
set_option maxHeartbeats 6400000 in
theorem l07Store_o (p o : Nat) (nm : ByteArray) (k a b : Int) (A : Option Addr) (ds : List Int) (c : Nat) (w : World) (hs : nm.size ≤ 8) (hk : 0 ≤ k ∧ k ≤ 3) (ha : 0 ≤ a ∧ a < 18446744073709551616) (hb : 0 ≤ b ∧ b < 18446744073709551616)
    (hx : ds.length ≤ 256) (hd : ∀ (j : Nat) (h : j < ds.length), 0 ≤ ds[j] ∧ ds[j] ≤ 65535) (hp : RcO w p o nm k a b A ds.length c) (h : Rd w w.heap.size A (il ds)) :
    Calls Tryd.prog 39 #[.pointer (some ⟨p, o, none⟩)] w (StrOut (storeL nm.data.toList k a b ds) w) := by
  obtain ⟨i0, hi0, hz0, hz1, hz2⟩ := info_parts info_u8
  have kc := Joins.run_convert_bytes_const_at (P := Tryd.prog) w 73 5 #[.int .u8 82, .int .u8 69, .int .u8 67, .int .u8 49] 4 4 w.heap.size rfl Tryd.underlying73 Tryd.underlying5
  have H8a := Lib.hid (fun B l v W0 w hl h => l07Eight_any a ha B l v W0 w hl h)
  have H8b := Lib.hid (fun B l v W0 w hl h => l07Eight_any b hb B l v W0 w hl h)
  have HX : Hid (∀ W', Below w.heap.size w W' → RcO W' p o nm k a b A ds.length c ∧ Rd W' W'.heap.size A (il ds)) := Lib.hid fun W' hW => ⟨hp.keep hW, h.at_ hW⟩
  have HK : Hid (k % 256 = k) := Lib.hid (by omega)
  generalize hl1 : recHead ++ [u8 nm.size] = l1
  generalize hl2 : l1 ++ nm.data.toList = l2
  generalize hl3 : l2 ++ [u8 k] = l3
  generalize hl4 : l3 ++ le a 8 = l4
  generalize hl5 : l4 ++ le b 8 = l5
  generalize hl6 : l5 ++ le ds.length 2 = l6
  have hh : headL nm.data.toList k a b ds.length = l6 := by
    rw [← hl6, ← hl5, ← hl4, ← hl3, ← hl2, ← hl1, Lib.size_eq]
    simp [headL, recHead]
  have hz6 : l6.length ≤ 40 := by rw [← hh, headL_len, ← Lib.size_eq]; omega
  have hz : l1.length ≤ 40 ∧ l2.length ≤ 40 ∧ l3.length ≤ 40 ∧ l4.length ≤ 40 ∧ l5.length ≤ 40 := by
    have e2 := congrArg List.length hl2
    have e3 := congrArg List.length hl3
    have e4 := congrArg List.length hl4
    have e5 := congrArg List.length hl5
    have e6 := congrArg List.length hl6
    rw [List.length_append] at e2 e3 e4 e5 e6
    omega
  obtain ⟨z1, z2, z3, z4, z5⟩ := hz
  have HST : Hid (storeL nm.data.toList k a b ds = l6 ++ drawL ds ++ le (chk 0 (l6 ++ drawL ds)) 2) := Lib.hid (by unfold storeL recL; rw [hh])
  have HLEN : Hid (∀ q, (l6 ++ drawL (ds.take q)).length ≤ 600) := Lib.hid fun q => by
    rw [List.length_append, drawL_len, List.length_take]
    omega
  have HDS : Hid (∀ (q : Nat) (h : q < ds.length), l6 ++ drawL (ds.take q) ++ le ds[q] 2 = l6 ++ drawL (ds.take (q + 1))) := Lib.hid fun q h => draw_step h l6
  have HDA : Hid (l6 ++ drawL (ds.take ds.length) = l6 ++ drawL ds) := Lib.hid (draw_all ds l6)
  have HD0 : Hid (l6 ++ drawL (ds.take 0) = l6) := Lib.hid (by simp [drawL])
  have HDD := Lib.hid hd
  have Hl1 := Lib.hid hl1
  have Hl2 := Lib.hid hl2
  have Hl3 := Lib.hid hl3
  have Hl4 := Lib.hid hl4
  have Hl5 := Lib.hid hl5
  have Hl6 := Lib.hid hl6
  have HNS : Hid (nm.size = nm.data.toList.length) := Lib.hid (Lib.size_eq nm)
  have hpl := hp.lt
  have kb := fun (W : World) => run_bytes_of_string (P := Tryd.prog) W 9 73 5 nm Tryd.underlying9 Tryd.underlying73 Tryd.underlying5
  have HLN : Hid (0 ≤ (ds.length : Int) ∧ (ds.length : Int) ≤ 65535) := Lib.hid (by omega)
  obtain ⟨c0, c1, c2, c3, c4⟩ := hp
  unfold BfOut at H8a H8b
  generalize storeL nm.data.toList k a b ds = L at *
  have HCR : Hid (0 ≤ chk 0 (l6 ++ drawL ds) ∧ chk 0 (l6 ++ drawL ds) < 65003) := Lib.hid (chk_range _ _ (by omega))
  generalize hl7 : l6 ++ drawL ds = l7 at *
  have hz7 : l7.length ≤ 600 := by rw [← hl7, List.length_append, drawL_len]; omega
  have HPOS : Hid (0 < l7.length ∧ 0 < L.length) := Lib.hid (by rw [HST.out, List.length_append, ← hl7, List.length_append, ← hh, headL_len]; omega)
  have HSZ : Hid (l7.length ≤ 9223372036854775807) := Lib.hid (by omega)
  clear h hb ha hd hl1 hl2 hl3 hl4 hl5 hl6 hh hl7
  go_enter Tryd.func39, Tryd.ntmps39
  go_wp2_with (first
    | (refine wpList_append_first rfl _ _ _ rfl 5 i0 Tryd.underlying73 hi0 hz0 hz1 hz2 _ w w.heap.size rfl _ _ rfl rfl rfl ?_; intro v1 w1 hb1; have hb2 := bf_first hb1 (by omega); rw [Hl1.out] at hb2; clear c0 c1 c2 c3 c4; obtain ⟨⟨c0, c1, c2, c3, c4⟩, _⟩ := HX.out _ hb2.below; have HB1 := Lib.hid hb2; clear hb1 hb2)
    | (refine wpList_append_many rfl _ _ _ rfl w.heap.size 5 i0 Tryd.underlying73 hi0 hz0 hz1 hz2 v1 l1.length (bc l1) rfl _ (HB1.out.dr.alloc _) _ nm.size _ (bc nm.data.toList) rfl (by rw [bc_len, ← HNS.out]) (bytes_new _ _ _ _ _) (bc_one _) (by omega) ?_; intro v2 w2 hb1; have hb2 := bf_many hb1 HNS.out; rw [Hl2.out] at hb2; clear c0 c1 c2 c3 c4; obtain ⟨⟨c0, c1, c2, c3, c4⟩, _⟩ := HX.out _ hb2.below; have HB2 := Lib.hid hb2; clear hb1 hb2)
    | (refine Lib.wpList_append_byte rfl _ _ _ rfl w.heap.size 5 i0 Tryd.underlying73 hi0 hz0 hz1 hz2 v2 l2.length (bc l2) rfl _ w2 _ HB2.out rfl (by omega) ?_; intro v3 w3 hb1; have hb2 := bf_byte (n := k) hb1 (by first | exact HK.out.symm | rfl); rw [Hl3.out] at hb2; clear c0 c1 c2 c3 c4; obtain ⟨⟨c0, c1, c2, c3, c4⟩, _⟩ := HX.out _ hb2.below; have HB3 := Lib.hid hb2; clear hb1 hb2))
  refine (H8a.out _ _ _ _ _ (by omega) HB3.out).mono ?_
  rintro e w4 ⟨v4, rfl, hb4⟩
  rw [Hl4.out] at hb4
  clear c0 c1 c2 c3 c4
  obtain ⟨⟨c0, c1, c2, c3, c4⟩, _⟩ := HX.out _ hb4.below
  have HB4 := Lib.hid hb4
  clear hb4 HB1 HB2 HB3
  go_wp2_with fail
  refine (H8b.out _ _ _ _ _ (by omega) HB4.out).mono ?_
  rintro e w5 ⟨v5, rfl, hb5⟩
  rw [Hl5.out] at hb5
  clear c0 c1 c2 c3 c4
  obtain ⟨⟨c0, c1, c2, c3, c4⟩, _⟩ := HX.out _ hb5.below
  have HB5 := Lib.hid hb5
  clear hb5 HB4
  go_wp2_with fail
  have HS5 : Hid (∀ W, Below w.heap.size w W → W.cell? ⟨p, o + 4, none⟩ = some (.slice A ds.length c)) := Lib.hid fun W hW => (HX.out W hW).1.2.2.2.2
  go_region_held3 (fun W => W.cell? ⟨p, o + 4, none⟩ = some (.slice A ds.length c))
    (first | exact HS5.out _ (by repeat (first | assumption | exact HB5.out.below | refine below_al ?_ _ | refine below_dr ?_)))
    (first
      | (refine step_append_many (by rfl) _ _ _ (by rfl) w.heap.size 5 i0 Tryd.underlying73 hi0 hz0 hz1 hz2 v5 l5.length (bc l5) (by rfl) _ (HB5.out.dr.alloc _) _ 2 _ [_, _] (by rfl) rfl (news_two _ _ _ _) (fun u hu => by simp at hu; rcases hu with rfl | rfl <;> rfl) (by omega) ?_; intro v6 w6 hb1; have hb2 := bf_two (n := ds.length) hb1 (low_byte HLN.out) (high_byte HLN.out); rw [Hl6.out] at hb2; clear c0 c1 c2 c3 c4; obtain ⟨⟨c0, c1, c2, c3, c4⟩, _⟩ := HX.out _ hb2.below; have HB6 := Lib.hid hb2; have hbl6 := hb2.below; clear hb1 hb2))
  go_wp2_with fail
  go_loopw [3, 4, 68] (fun tv _ iv wr => ∃ (q : Nat) (sv : Value), q ≤ ds.length ∧ iv = .int .i64 q ∧ sv = tv ∧ Bf w.heap.size (l6 ++ drawL (ds.take q)) sv w wr) (fun _ _ iv _ => ds.length - (intOf iv).toNat)
  case atStart => exact ⟨0, _, Nat.zero_le _, rfl, rfl, by rw [HD0.out]; exact HB6.out⟩
  case round =>
    obtain ⟨q, sv, hq, rfl, rfl, hbf⟩ := hrel
    rename World => wr
    obtain ⟨⟨c0, c1, c2, c3, c4⟩, hrd⟩ := HX.out _ hbf.below
    have HB := Lib.hid hbf
    have hbw := hbf.below
    have HRD := Lib.hid hrd
    have hlen := HLEN.out q
    clear hbf hrd HB6 hbl6
    by_cases hlt : q < ds.length
    · have HDq := Lib.hid (HDS.out q hlt)
      have HR := Lib.hid (HDD.out q hlt)
      obtain ⟨g, off, rfl, hg, hcell⟩ := HRD.out.ilAt hlt
      have HE5 : Hid (∀ W, Below w.heap.size w W → W.cell? ⟨g, off + q, none⟩ = some (.int .i64 ds[q])) := Lib.hid fun W hW => (HX.out W hW).2.ilGet hlt
      have hq0 : (0 : Int) ≤ (q : Int) := by omega
      have hq1 : (q : Int) < (ds.length : Int) := by omega
      generalize ds[q] = x at *
      have HSC : Hid (∀ W, W = wr ∨ W = wr.drew ∨ (∃ o, W = wr.alloc o) ∨ (∃ o, W = wr.drew.alloc o) → W.cell? ⟨p, o + 4, none⟩ = some (.slice (some ⟨g, off, none⟩) ds.length c) ∧ W.cell? ⟨g, off + q, none⟩ = some (.int .i64 x)) := Lib.hid fun W hW => by
        have hgl : g < wr.heap.size := hg
        have hpl2 : p < wr.heap.size := lt_of_cell (a := ⟨p, o + 4, none⟩) c4
        rcases hW with rfl | rfl | ⟨o, rfl⟩ | ⟨o, rfl⟩
        · exact ⟨c4, hcell⟩
        · exact ⟨c4, hcell⟩
        · exact ⟨(World.cell?_alloc_lt _ _ _ hpl2).trans c4, (World.cell?_alloc_lt _ _ _ hgl).trans hcell⟩
        · exact ⟨(World.cell?_alloc_lt _ _ _ hpl2).trans c4, (World.cell?_alloc_lt _ _ _ hgl).trans hcell⟩
      go_wp2_with fail
      go_region_held3 (fun W => W.cell? ⟨p, o + 4, none⟩ = some (.slice (some ⟨g, off, none⟩) ds.length c) ∧ W.cell? ⟨g, off + q, none⟩ = some (.int .i64 x))
        (first | exact HSC.out _ (.inl rfl) | exact HSC.out _ (.inr (.inl rfl)) | exact HSC.out _ (.inr (.inr (.inl ⟨_, rfl⟩))) | exact HSC.out _ (.inr (.inr (.inr ⟨_, rfl⟩))) | exact ⟨e4, e5⟩)
        (first
          | (refine step_append_many (by rfl) _ _ _ (by rfl) w.heap.size 5 i0 Tryd.underlying73 hi0 hz0 hz1 hz2 sv (l6 ++ drawL (ds.take q)).length (bc (l6 ++ drawL (ds.take q))) (by rfl) _ (HB.out.dr.alloc _) _ 2 _ [_, _] (by rfl) rfl (news_two _ _ _ _) (fun u hu => by simp at hu; rcases hu with rfl | rfl <;> rfl) (by omega) ?_; intro v7 w7 hb1; have hb2 := bf_two (n := x) hb1 (low_byte HR.out) (by first | exact high_byte HR.out | exact high_byte' HR.out); rw [HDq.out] at hb2; have e4 := (HX.out _ hb2.below).1.2.2.2.2; have e5 := HE5.out _ hb2.below; have HB7 := Lib.hid hb2; clear hb1 hb2))
      go_wp2_with fail
      go_roundw
      case rel => exact ⟨q + 1, v7, by omega, by go_num, rfl, HB7.out⟩
      case measure => simp [intOf]; omega
    · obtain rfl : q = ds.length := by omega
      rw [HDA.out] at HB
      obtain ⟨g, cap, rfl⟩ := buf_form HB.out HPOS.out.1
      have hcv := conv_run _ _ _ _ _ _ HB.out
      have HCK := Lib.hid (l01Check_any 0 ⟨l7.toArray⟩ wr (by omega) (by rw [str_size]; exact HSZ.out))
      rw [str_data] at HCK
      obtain ⟨k0, k1⟩ := HCR.out
      generalize chk 0 l7 = ck at *
      go_wp2_with fail
      refine HCK.out.mono ?_
      rintro e w8 ⟨rfl, rfl⟩
      have HC1 : Hid (0 ≤ ck ∧ ck ≤ 65535) := Lib.hid (by omega)
      go_wp2_with (refine wpList_append_many rfl _ _ _ rfl w.heap.size 5 i0 Tryd.underlying73 hi0 hz0 hz1 hz2 (.slice (some ⟨g, 0, none⟩) l7.length cap) l7.length (bc l7) rfl _ (HB.out.alloc _) _ 2 _ [_, _] rfl rfl (news_two _ _ _ _) (fun u hu => by simp at hu; rcases hu with rfl | rfl <;> rfl) (by omega) ?_; intro v9 w9 hb1; have hb9 := bf_two (n := ck) hb1 (by first | rfl | exact low_byte HC1.out | omega) (by first | rfl | exact high_byte HC1.out | exact high_byte' HC1.out | omega); rw [← HST.out] at hb9; obtain ⟨g9, cap9, rfl⟩ := buf_form hb9 HPOS.out.2; have hcv9 := conv_run _ _ _ _ _ _ hb9; have HBW9 := Lib.hid hb9.below; clear hb1 hb9)
      go_ret
      exact ⟨rfl, HBW9.out⟩
end Go.Proofs.YtielmnkhcljmeaaDoor
