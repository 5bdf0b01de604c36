/-
  Bytes of a record: spec.l07Eight, impl.storeRecord.
-/
import Derived.Test.YtckdbnnkabgopaaDoorRc4
import Derived.Lib.SlBytesConst
import Derived.Outline
import Derived.Lib.SmallJoins
namespace Go.Proofs.YtckdbnnkabgopaaDoor
open Go Go.RowKit

theorem info_u8' : True := trivial
def recHead : List UInt8 := [82, 69, 67, 49]
section
variable {P : Program}
/-- a byte behind a constant text of four bytes -/
theorem wpList_append_first {ops : Array Oper} {rest : List Oper} {o : Oper} {a : Act} {Q : Exit → Act → World → Prop} (hgd : o.guard = none) (s x : Operand) (t : TypeId)
    (ho : o.op = .call { callee := .builtin .append, args := #[s, x], argTypes := #[t, t] })
    (e : TypeId) (i : TypeInfo) (ht : P.underlying t = some (.slice e)) (hi : P.info? e = some i) (hz : i.zero = some (.int .u8 0)) (hsize : i.size = 1) (hby : i.bytes = 1)
    (W W0 : World) (B : Nat) (hB0 : W0.heap.size = B) (fr : Nat × Nat) (c : Int) (hW : W = (W0.alloc (.cells #[.int .u8 82, .int .u8 69, .int .u8 67, .int .u8 49] e fr)).alloc (.cells #[.int .u8 c] e)) (hs : a.eval s = .slice (some ⟨B, 0, none⟩) 4 4) (hx : a.eval x = .slice (some ⟨B + 1, 0, none⟩) 1 1)
    (h : ∀ v' w', Lib.OwnBuf B e v' 5 (bc recHead ++ [.int .u8 c]) W0 w' → wpList P ops Q rest (a.put o.dst v') w') :
    wpList P ops Q (o :: rest) a W := by
  subst hB0
  subst hW
  have hadd : ∀ (g j : Nat), (⟨g, 0, none⟩ : Addr).add j = ⟨g, j, none⟩ := fun g j => by unfold Addr.add; split <;> simp_all
  refine wpList_append_grows _ hgd s x t ho e i (.int .u8 0) 1 1 ht hi hz hsize hby rfl (by decide) (some ⟨W0.heap.size, 0, none⟩) 4 4 (bc recHead) hs (fun h => by cases h) rfl ?_ ⟨W0.heap.size + 1, 0, none⟩ 1 1 [.int .u8 c] hx rfl ?_ ?_ (by omega) (by unfold maxLen; omega) (by omega) ?_
  · intro b hb j u hj
    injection hb with hb
    subst hb
    rw [hadd, World.cell?_alloc_lt _ _ _ (by simp), World.cell?_alloc_mark]
    rw [← hj]
    simp [bc, recHead]
  · intro j u hj
    rw [hadd]
    match j, hj with
    | 0, hj => simp at hj; subst hj; simp
    | (j + 1), hj => simp at hj
  · intro u hu
    simp at hu
    subst hu
    rfl
  · intro v' w' ho' hg
    have hB : Below W0.heap.size W0 ((W0.alloc (.cells #[.int .u8 82, .int .u8 69, .int .u8 67, .int .u8 49] e fr)).alloc (.cells #[.int .u8 c] e)) := below_al (below_al (Below.refl _ _) _) _
    refine h v' w' ⟨World.ownsRowF_of (own_base ho' (by simp; omega)), hB.grown hg hB.size (fun k hk => by cases hk), Nat.le_trans hB.size hg.size⟩
theorem bytes_new (w : World) (s : ByteArray) (e : TypeId) (fr : Nat × Nat) (c : Nat) : ∀ j u, (bc s.data.toList)[j]? = some u → (w.alloc (.cells (bytesRow s c) e fr)).cell? ((⟨w.heap.size, 0, none⟩ : Addr).add j) = some u := by
  intro j u hj
  have hadd : (⟨w.heap.size, 0, none⟩ : Addr).add j = ⟨w.heap.size, j, none⟩ := by unfold Addr.add; split <;> simp_all
  rw [hadd, World.cell?_alloc_mark]
  have hlt : j < s.data.size := by
    have := (List.getElem?_eq_some_iff.1 hj).1
    rw [bc_len] at this
    simpa using this
  rw [bytesRow_at s c j hlt, ← hj]
  unfold bc
  rw [List.getElem?_map, List.getElem?_eq_getElem (by simpa using hlt)]
  simp
end
theorem Bf.below {B : Nat} {l : List UInt8} {v : Value} {W0 w : World} (h : Bf B l v W0 w) : Below B W0 w := h.2.1
theorem u8_len (n : Nat) (h : n ≤ 255) : bc [u8 n] = [.int .u8 (n : Nat)] := by
  rw [bc_u8, Int.emod_eq_of_lt (by omega) (by omega)]
def StrOut (l : List UInt8) (w : World) (e : Ending) (w' : World) : Prop := e = .returned (.string ⟨l.toArray⟩) ∧ Below w.heap.size w w'
theorem str_data (l : List UInt8) : (⟨l.toArray⟩ : ByteArray).data.toList = l := rfl
theorem str_size (l : List UInt8) : (⟨l.toArray⟩ : ByteArray).size = l.length := by rw [Lib.size_eq]
theorem bf_first {B : Nat} {v : Value} {W0 w : World} {n : Nat} (h : Lib.OwnBuf B 5 v 5 (bc recHead ++ [.int .u8 (n : Nat)]) W0 w) (hn : n ≤ 255) : Bf B (recHead ++ [u8 n]) v W0 w := by
  unfold Bf
  rw [bc_app, u8_len n hn]
  exact h
theorem bf_text {B : Nat} {v : Value} {W0 w : World} {l : List UInt8} {s : ByteArray} (h : Lib.OwnBuf B 5 v (l.length + s.size) (bc l ++ Lib.strCells s) W0 w) : Bf B (l ++ s.data.toList) v W0 w := by
  unfold Bf
  rw [bc_app, List.length_append, ← Lib.size_eq]
  exact h
theorem bf_byte {B : Nat} {v : Value} {W0 w : World} {l : List UInt8} {x n : Int} (h : Lib.OwnBuf B 5 v (l.length + 1) (bc l ++ [.int .u8 x]) W0 w) (hx : x = n % 256) : Bf B (l ++ [u8 n]) v W0 w := by
  unfold Bf
  rw [bc_app, List.length_append, bc_u8, ← hx]
  exact h
theorem appendNumber_8 (n : Int) (hn : 0 ≤ n ∧ n < 18446744073709551616) (B : Nat) (l : List UInt8) (v : Value) (W0 w : World) (hl : l.length ≤ 1048576) (h : Bf B l v W0 w) :
    Calls Tryd.prog 29 #[v, .int .u64 n, .int .i64 8] w (BfOut B (l ++ le n 8) W0) := appendNumber_any n 8 hn (by decide) B l v W0 w hl h
theorem appendNumber_2 (n : Int) (hn : 0 ≤ n ∧ n < 18446744073709551616) (B : Nat) (l : List UInt8) (v : Value) (W0 w : World) (hl : l.length ≤ 1048576) (h : Bf B l v W0 w) :
    Calls Tryd.prog 29 #[v, .int .u64 n, .int .i64 2] w (BfOut B (l ++ le n 2) W0) := appendNumber_any n 2 hn (by decide) B l v W0 w hl h
theorem conv_run (B : Nat) (l : List UInt8) (g cap : Nat) (W0 w : World) (h : Bf B l (.slice (some ⟨g, 0, none⟩) l.length cap) W0 w) :
    (convert 22 9 (.slice (some ⟨g, 0, none⟩) l.length cap)).run Tryd.prog w = .ok (.string ⟨l.toArray⟩) w :=
  run_convert_bytes_back w _ _ 5 ⟨g, 0, none⟩ cap l Tryd.underlying22 Tryd.underlying5 Tryd.underlying9 (buf_cells h)
theorem draw_step {ds : List Int} {q : Nat} (h : q < ds.length) (l : List UInt8) : l ++ drawL (ds.take q) ++ le ds[q] 2 = l ++ drawL (ds.take (q + 1)) := by
  rw [List.append_assoc, List.take_succ_eq_append_getElem h, drawL_snoc]
theorem draw_all (ds : List Int) (l : List UInt8) : l ++ drawL (ds.take ds.length) = l ++ drawL ds := by rw [List.take_length]
set_option maxRecDepth 100000 in
set_option maxHeartbeats 3200000 in
theorem storeRecord_any (nm : ByteArray) (k a b : Int) (A : Option Addr) (ds : List Int) (c : Nat) (w : World) (hs : nm.size ≤ 8) (hk : 0 ≤ k ∧ k ≤ 3) (ha : 0 ≤ a ∧ a < 18446744073709551616) (hb : 0 ≤ b ∧ b < 18446744073709551616)
    (hx : ds.length ≤ 256) (hd : ∀ (j : Nat) (h : j < ds.length), 0 ≤ ds[j] ∧ ds[j] ≤ 65535) (h : Rd w w.heap.size A (il ds)) :
    Calls Tryd.prog 17 #[rcV nm k a b A ds.length c] w (StrOut (storeL nm.data.toList k a b ds) w) := by
  obtain ⟨i0, hi0, hz0, hz1, hz2⟩ := info_parts info_u8
  have kc := Joins.run_convert_bytes_const_at (P := Tryd.prog) (w.alloc (.cells #[.string nm, .int .i64 k, .int .u64 a, .int .u64 b, .slice A ds.length c] 34)) 22 5 #[.int .u8 82, .int .u8 69, .int .u8 67, .int .u8 49] 4 4 (w.heap.size + 1) (by simp) Tryd.underlying22 Tryd.underlying5
  have H8a := Lib.hid (fun B l v W0 w hl h => appendNumber_8 a ha B l v W0 w hl h)
  have H8b := Lib.hid (fun B l v W0 w hl h => appendNumber_8 b hb B l v W0 w hl h)
  have H2 := Lib.hid (fun n hn B l v W0 w hl h => appendNumber_2 n hn B l v W0 w hl h)
  have HX : Hid (∀ W', Below (w.heap.size + 1) (w.alloc (.cells #[.string nm, .int .i64 k, .int .u64 a, .int .u64 b, .slice A ds.length c] 34)) W' → RcAt W' w.heap.size nm k a b A ds.length c ∧ Rd W' W'.heap.size A (il ds) ∧ Below w.heap.size w W') := Lib.hid fun W' hW => by
    have hW2 : Below (w.alloc (.cells #[.string nm, .int .i64 k, .int .u64 a, .int .u64 b, .slice A ds.length c] 34)).heap.size (w.alloc (.cells #[.string nm, .int .i64 k, .int .u64 a, .int .u64 b, .slice A ds.length c] 34)) W' := by
      have e : (w.alloc (.cells #[.string nm, .int .i64 k, .int .u64 a, .int .u64 b, .slice A ds.length c] 34)).heap.size = w.heap.size + 1 := by simp
      rw [e]
      exact hW
    have h3 := below_next (below_al (Below.refl w.heap.size w) _) hW2
    refine ⟨RcAt.keep ?_ hW2, h.at_ h3, h3⟩
    simp [RcAt, go_sem]
  have HK : Hid (k % 256 = k) := Lib.hid (by omega)
  generalize hl1 : recHead ++ [u8 nm.size] = l1
  generalize hl2 : l1 ++ nm.data.toList = l2
  generalize hl3 : l2 ++ [u8 k] = l3
  generalize hl4 : l3 ++ le a 8 = l4
  generalize hl5 : l4 ++ le b 8 = l5
  generalize hl6 : l5 ++ le ds.length 2 = l6
  have hh : headL nm.data.toList k a b ds.length = l6 := by
    rw [← hl6, ← hl5, ← hl4, ← hl3, ← hl2, ← hl1, Lib.size_eq]
    simp [headL, recHead]
  have hz6 : l6.length ≤ 40 := by rw [← hh, headL_len, ← Lib.size_eq]; omega
  have hz : l1.length ≤ 40 ∧ l2.length ≤ 40 ∧ l3.length ≤ 40 ∧ l4.length ≤ 40 ∧ l5.length ≤ 40 := by
    have e2 := congrArg List.length hl2
    have e3 := congrArg List.length hl3
    have e4 := congrArg List.length hl4
    have e5 := congrArg List.length hl5
    have e6 := congrArg List.length hl6
    rw [List.length_append] at e2 e3 e4 e5 e6
    omega
  obtain ⟨z1, z2, z3, z4, z5⟩ := hz
  have HST : Hid (storeL nm.data.toList k a b ds = l6 ++ drawL ds ++ le (chk 0 (l6 ++ drawL ds)) 2) := Lib.hid (by unfold storeL recL; rw [hh])
  have HLEN : Hid (∀ q, (l6 ++ drawL (ds.take q)).length ≤ 600) := Lib.hid fun q => by
    rw [List.length_append, drawL_len, List.length_take]
    omega
  have HDS : Hid (∀ (q : Nat) (h : q < ds.length), l6 ++ drawL (ds.take q) ++ le ds[q] 2 = l6 ++ drawL (ds.take (q + 1))) := Lib.hid fun q h => draw_step h l6
  have HDA : Hid (l6 ++ drawL (ds.take ds.length) = l6 ++ drawL ds) := Lib.hid (draw_all ds l6)
  have HD0 : Hid (l6 ++ drawL (ds.take 0) = l6) := Lib.hid (by simp [drawL])
  have HDD := Lib.hid hd
  have Hl1 := Lib.hid hl1
  have Hl2 := Lib.hid hl2
  have Hl3 := Lib.hid hl3
  have Hl4 := Lib.hid hl4
  have Hl5 := Lib.hid hl5
  have Hl6 := Lib.hid hl6
  unfold rcV
  unfold BfOut at H8a H8b H2
  generalize storeL nm.data.toList k a b ds = L at *
  have HCR : Hid (0 ≤ chk 0 (l6 ++ drawL ds) ∧ chk 0 (l6 ++ drawL ds) < 65003) := Lib.hid (chk_range _ _ (by omega))
  generalize hl7 : l6 ++ drawL ds = l7 at *
  have hz7 : l7.length ≤ 600 := by rw [← hl7, List.length_append, drawL_len]; omega
  have HPOS : Hid (0 < l7.length ∧ 0 < L.length) := Lib.hid (by rw [HST.out, List.length_append, ← hl7, List.length_append, ← hh, headL_len]; omega)
  have HSZ : Hid (l7.length ≤ 9223372036854775807) := Lib.hid (by omega)
  clear h hb ha hd hl1 hl2 hl3 hl4 hl5 hl6 hh hl7
  go_enter Tryd.func17, Tryd.ntmps17
  go_wp2_with (first
    | (refine wpList_append_first rfl _ _ _ rfl 5 i0 Tryd.underlying22 hi0 hz0 hz1 hz2 _ (w.alloc _) (w.heap.size + 1) (by simp) _ _ rfl rfl rfl ?_; intro v1 w1 hb1; have hb2 := bf_first hb1 (by omega); rw [Hl1.out] at hb2; obtain ⟨⟨c0, c1, c2, c3, c4⟩, _⟩ := HX.out _ hb2.below; have HB1 := Lib.hid hb2; clear hb1 hb2)
    | (refine Lib.wpList_append_text rfl _ _ _ _ rfl (w.heap.size + 1) 5 i0 Tryd.underlying22 Tryd.underlying9 hi0 hz0 hz1 hz2 v1 l1.length (bc l1) rfl _ HB1.out nm rfl (by omega) ?_; intro v2 w2 hb1; have hb2 := bf_text hb1; rw [Hl2.out] at hb2; clear c0 c1 c2 c3 c4; obtain ⟨⟨c0, c1, c2, c3, c4⟩, _⟩ := HX.out _ hb2.below; have HB2 := Lib.hid hb2; clear hb1 hb2)
    | (refine Lib.wpList_append_byte rfl _ _ _ rfl (w.heap.size + 1) 5 i0 Tryd.underlying22 hi0 hz0 hz1 hz2 v2 l2.length (bc l2) rfl _ w2 _ HB2.out rfl (by omega) ?_; intro v3 w3 hb1; have hb2 := bf_byte (n := k) hb1 (by first | exact HK.out.symm | rfl); rw [Hl3.out] at hb2; clear c0 c1 c2 c3 c4; obtain ⟨⟨c0, c1, c2, c3, c4⟩, _⟩ := HX.out _ hb2.below; have HB3 := Lib.hid hb2; clear hb1 hb2))
  refine (H8a.out _ _ _ _ _ (by omega) HB3.out).mono ?_
  rintro e w4 ⟨v4, rfl, hb4⟩
  rw [Hl4.out] at hb4
  clear c0 c1 c2 c3 c4
  obtain ⟨⟨c0, c1, c2, c3, c4⟩, _⟩ := HX.out _ hb4.below
  have HB4 := Lib.hid hb4
  clear hb4 HB1 HB2 HB3
  go_wp2_with fail
  refine (H8b.out _ _ _ _ _ (by omega) HB4.out).mono ?_
  rintro e w5 ⟨v5, rfl, hb5⟩
  rw [Hl5.out] at hb5
  clear c0 c1 c2 c3 c4
  obtain ⟨⟨c0, c1, c2, c3, c4⟩, _⟩ := HX.out _ hb5.below
  have HB5 := Lib.hid hb5
  clear hb5 HB4
  go_wp2_with fail
  refine (H2.out _ (by omega) _ _ _ _ _ (by omega) HB5.out).mono ?_
  rintro e w6 ⟨v6, rfl, hb6⟩
  rw [Hl6.out] at hb6
  clear c0 c1 c2 c3 c4
  obtain ⟨⟨c0, c1, c2, c3, c4⟩, _⟩ := HX.out _ hb6.below
  have HB6 := Lib.hid hb6
  clear hb6 HB5
  go_wp2_with fail
  go_loopw [3, 5, 46] (fun tv _ iv wr => ∃ (q : Nat) (sv : Value), q ≤ ds.length ∧ iv = .int .i64 q ∧ sv = tv ∧ Bf (w.heap.size + 1) (l6 ++ drawL (ds.take q)) sv (w.alloc (.cells #[.string nm, .int .i64 k, .int .u64 a, .int .u64 b, .slice A ds.length c] 34)) wr) (fun _ _ iv _ => ds.length - (intOf iv).toNat)
  case atStart => exact ⟨0, _, Nat.zero_le _, rfl, rfl, by rw [HD0.out]; exact HB6.out⟩
  case round =>
    obtain ⟨q, sv, hq, rfl, rfl, hbf⟩ := hrel
    rename World => wr
    obtain ⟨⟨c0, c1, c2, c3, c4⟩, hrd, hbw⟩ := HX.out _ hbf.below
    have HB := Lib.hid hbf
    have HRD := Lib.hid hrd
    have HBW := Lib.hid hbw
    have hlen := HLEN.out q
    clear hbf hrd hbw HB6
    by_cases hlt : q < ds.length
    · have HDq := Lib.hid (HDS.out q hlt)
      obtain ⟨d0, d1⟩ := HDD.out q hlt
      obtain ⟨g, off, rfl, hg, hcell⟩ := HRD.out.ilAt hlt
      generalize ds[q] = x at *
      go_wp2_with fail
      refine (H2.out _ (by omega) _ _ _ _ _ (by omega) HB.out).mono ?_
      rintro e w7 ⟨v7, rfl, hb7⟩
      rw [HDq.out] at hb7
      clear c0 c1 c2 c3 c4
      obtain ⟨⟨c0, c1, c2, c3, c4⟩, _⟩ := HX.out _ hb7.below
      have HB7 := Lib.hid hb7
      clear hb7
      go_wp2_with fail
      go_roundw
      case rel => exact ⟨q + 1, v7, by omega, by go_num, rfl, HB7.out⟩
      case measure => simp [intOf]; omega
    · obtain rfl : q = ds.length := by omega
      rw [HDA.out] at HB
      obtain ⟨g, cap, rfl⟩ := buf_form HB.out HPOS.out.1
      have hcv := conv_run _ _ _ _ _ _ HB.out
      have HCK := Lib.hid (CheckOf_any 0 ⟨l7.toArray⟩ wr (by omega) (by rw [str_size]; exact HSZ.out))
      rw [str_data] at HCK
      obtain ⟨k0, k1⟩ := HCR.out
      generalize chk 0 l7 = ck at *
      go_wp2_with fail
      refine HCK.out.mono ?_
      rintro e w8 ⟨rfl, rfl⟩
      go_wp2_with fail
      refine (H2.out _ (by omega) _ _ _ _ _ (by omega) HB.out).mono ?_
      rintro e w9 ⟨v9, rfl, hb9⟩
      rw [← HST.out] at hb9
      obtain ⟨g9, cap9, rfl⟩ := buf_form hb9 HPOS.out.2
      have hcv9 := conv_run _ _ _ _ _ _ hb9
      obtain ⟨_, _, hbw9⟩ := HX.out _ hb9.below
      have HBW9 := Lib.hid hbw9
      clear hb9 hbw9
      go_wp2_with fail
      go_ret
      exact ⟨rfl, HBW9.out⟩
end Go.Proofs.YtckdbnnkabgopaaDoor

