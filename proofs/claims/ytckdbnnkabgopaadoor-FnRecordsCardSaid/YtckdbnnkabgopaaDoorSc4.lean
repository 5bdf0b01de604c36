/-
  Below a block the world is as it was, but for one block (the source's).
-/
import Derived.Test.YtckdbnnkabgopaaDoorSc3
namespace Go.Proofs.YtckdbnnkabgopaaDoor
open Go Go.RowKit

structure Mv (B g : Nat) (w w' : World) : Prop where
  os : w'.os = w.os
  tape : w'.tape = w.tape
  output : w'.output = w.output
  size : w.heap.size ≤ w'.heap.size
  block : ∀ k, k < B → k ≠ g → w'.heap[k]? = w.heap[k]?
section
variable {B g : Nat} {a b c w w' W : World}
theorem Mv.refl (B g : Nat) (w : World) : Mv B g w w := ⟨rfl, rfl, rfl, Nat.le_refl _, fun _ _ _ => rfl⟩
theorem Mv.trans (h : Mv B g a b) (k : Mv B g b c) : Mv B g a c :=
  ⟨k.os.trans h.os, k.tape.trans h.tape, k.output.trans h.output, Nat.le_trans h.size k.size, fun i hi hn => (k.block i hi hn).trans (h.block i hi hn)⟩
theorem Mv.mono {B' : Nat} (h : Mv B g w w') (hB : B' ≤ B) : Mv B' g w w' := ⟨h.os, h.tape, h.output, h.size, fun k hk hn => h.block k (by omega) hn⟩
theorem Mv.of_below (h : Below B w w') : Mv B g w w' := ⟨h.os, h.tape, h.output, h.size, fun k hk _ => h.block k hk⟩
theorem Mv.of_grown (h : w.grownBy w' (some g)) : Mv w.heap.size g w w' := ⟨h.os, h.tape, h.output, h.size, fun k hk hn => h.block k hk (fun e => hn (Option.some.inj e))⟩
theorem Mv.below (h : Mv B g w w') (hg : B ≤ g) : Below B w w' := ⟨h.os, h.tape, h.output, h.size, fun k hk => h.block k hk (by omega)⟩
theorem Mv.next (h : Mv B g w W) (hB : B ≤ W.heap.size) (k : Mv W.heap.size g W w') : Mv B g w w' := h.trans (k.mono hB)
theorem Mv.al (h : Mv B g w W) (hB : B ≤ W.heap.size) (o : Obj) : Mv B g w (W.alloc o) := h.trans ((Mv.of_below (below_al (Below.refl _ _) o)).mono hB)
theorem Mv.dn (h : Mv B g w W) (n : Nat) : Mv B g w (W.drewN n) := ⟨h.os, h.tape, h.output, h.size, h.block⟩
theorem Mv.dr (h : Mv B g w W) : Mv B g w W.drew := ⟨h.os, h.tape, h.output, h.size, h.block⟩
theorem Mv.set (h : Mv B g w W) (p : Addr) (v : Value) (hp : B ≤ p.block ∨ p.block = g) : Mv B g w (W.setCell p v) :=
  h.trans ⟨rfl, rfl, rfl, by simp [World.setCell], fun k hk hn => Below.heap_setCell _ _ _ _ (by omega)⟩
theorem Mv.grown {row : Option Nat} (h : Mv B g a w) (hg : w.grownBy w' row) (hB : B ≤ w.heap.size) (hr : ∀ k, row = some k → B ≤ k ∨ k = g) : Mv B g a w' :=
  h.trans ⟨hg.os, hg.tape, hg.output, hg.size, fun k hk hn => hg.block k (by omega) (fun e => by have := hr k e.symm; omega)⟩
theorem Mv.cell (h : Mv B g w w') {p : Addr} (hp : p.block < B) (hn : p.block ≠ g) : w'.cell? p = w.cell? p := World.cell?_of_block (w := w) (h.block p.block hp hn)
theorem Mv.frozen (h : Mv B g w w') {p : Addr} (hp : p.block < B) (hn : p.block ≠ g) : w'.frozen? p = w.frozen? p := World.frozen?_of_block (w := w) (h.block p.block hp hn)
theorem Mv.keepC {p : Addr} {v : Value} (h : Mv w.heap.size g w w') (hc : w.cell? p = some v) (hn : p.block ≠ g) : w'.cell? p = some v := (h.cell (lt_of_cell hc) hn).trans hc
theorem Mv.own {base : Nat} {e : TypeId} {size n : Nat} {v : Value} {xs : List Value} (hb : Mv w.heap.size g w w') (h : w.ownsRow base e size v n xs) (hg : g < base) : w'.ownsRow base e size v n xs := by
  refine ⟨h.1, ?_⟩
  rcases h.2 with h0 | ⟨b, cap, cur, hv, hbb, hh, hr⟩
  · exact .inl h0
  · refine .inr ⟨b, cap, cur, hv, hbb, ?_, hr⟩
    have hlt : b < w.heap.size := by
      rcases Nat.lt_or_ge b w.heap.size with h1 | h1
      · exact h1
      · rw [Array.getElem?_eq_none h1] at hh
        cases hh
    rw [hb.block b hlt (by omega)]
    exact hh
end
theorem SdAt.mv {w w' : World} {b g : Nat} {k a c : Int} (h : SdAt w b k a c) (hb : Mv w.heap.size g w w') (hn : b ≠ g) : SdAt w' b k a c := by
  obtain ⟨h0, h1, h2, h3⟩ := h
  have hl : b < w.heap.size := lt_of_cell (a := ⟨b, 0, none⟩) h0
  exact ⟨hb.keepC h0 hn, hb.keepC h1 hn, hb.keepC h2 hn, fun o => (hb.frozen (p := ⟨b, o, none⟩) hl hn).trans (h3 o)⟩
theorem or_one (x : Int) (h : 0 ≤ x ∧ x < 18446744073709551616) : bits .or .u64 x 1 % 2 = 1 ∧ 0 ≤ bits .or .u64 x 1 ∧ bits .or .u64 x 1 < 18446744073709551616 := by
  obtain ⟨n, rfl⟩ := Int.eq_ofNat_of_zero_le h.1
  have hr := or_range (n : Int) 1
  refine ⟨?_, hr⟩
  have e : bits .or .u64 (n : Int) 1 = ((n ||| 1 : Nat) : Int) := bits_or_u64_nat n 1 (by omega) (by decide)
  rw [e]
  have h2 : (n ||| 1) % 2 = 1 := by
    rw [Nat.mod_two_eq_one_iff_testBit_zero, Nat.testBit_or]
    simp
  omega
theorem mixF_range (x : Int) : 0 ≤ mixF x ∧ mixF x < 18446744073709551616 := by unfold mixF; exact xor_range _ _
def DrOut (g : Nat) (A : Option Addr) (n c m : Nat) (w : World) (e : Ending) (w' : World) : Prop :=
  ∃ k a b, e = .returned (.agg #[.int .i64 k, .int .u64 a, .int .u64 b]) ∧ seedB k a b = true ∧ (0 ≤ a ∧ a < 18446744073709551616) ∧ (0 ≤ b ∧ b < 18446744073709551616) ∧ Mv w.heap.size g w w' ∧ Sc w' g A n c (m + 6)
set_option maxRecDepth 100000 in
set_option maxHeartbeats 3200000 in
theorem l02DrawOk_any (g : Nat) (A : Option Addr) (n c m : Nat) (w : World) (hn : n ≤ 1048576) (hm : m ≤ 1048560) (h : Sc w g A n c m) :
    Calls Tryd.prog 16 #[.pointer (some ⟨g, 0, none⟩)] w (DrOut g A n c m w) := by
  have HP := Lib.hid fun m N w hm hN h => pick_any g A n c m N w hn hm hN h
  have H := Lib.hid h
  have hgl := h.lt
  have hgn : g ≠ w.heap.size := by omega
  unfold PickOut at HP
  unfold DrOut
  clear h
  go_enter Tryd.func16, Tryd.ntmps16
  go_wp2_with fail
  generalize hW1 : World.alloc w _ = W1
  have x1 : SdAt W1 w.heap.size 0 0 0 := by rw [← hW1]; simp [SdAt, go_sem]
  have s1 : Sc W1 g A n c m := by rw [← hW1]; exact H.out.al _
  have m1 : Mv w.heap.size g w W1 := by rw [← hW1]; exact (Mv.refl _ _ _).al (Nat.le_refl _) _
  have z1 : W1.heap.size = w.heap.size + 1 := by rw [← hW1]; simp
  clear hW1
  refine (HP.out _ 4 _ (by omega) (by omega) s1).mono ?_
  rintro e w2 ⟨k, hk, _, rfl, hs⟩
  have X2 := Lib.hid (x1.far hs.1 (Ne.symm hgn))
  have M2 := Lib.hid (m1.next m1.size (Mv.of_grown hs.1))
  have S2 := Lib.hid hs.2
  have z2 := hs.1.size
  clear hs x1 s1 m1
  go_upto_region 2 with fail
  generalize hW3 : World.alloc w2 _ = W3
  have x3 : SdAt W3 w2.heap.size k 0 0 := by rw [← hW3]; simp [SdAt, go_sem]
  have y3 : SdAt W3 w.heap.size 0 0 0 := by rw [← hW3]; exact X2.out.al _
  have s3 : Sc W3 g A n c (m + 2) := by rw [← hW3]; exact S2.out.al _
  have m3 : Mv w.heap.size g w W3 := by rw [← hW3]; exact M2.out.al M2.out.size _
  have z3 : W3.heap.size = w2.heap.size + 1 := by rw [← hW3]; simp
  have hg2 : g < w2.heap.size := S2.out.lt
  have hww : w.heap.size < w2.heap.size := by omega
  clear hW3 X2 M2 S2
  have S3 := Lib.hid s3
  go_wp2_with fail
  refine (HP.out _ 1000000 _ (by omega) (by omega) S3.out).mono ?_
  rintro e w4 ⟨a, _, ha, rfl, hs⟩
  have x4 := x3.far hs.1 (by omega)
  have y4 := y3.far hs.1 (by omega)
  have m4 := m3.next m3.size (Mv.of_grown hs.1)
  have s4 := hs.2
  have z4 := hs.1.size
  have X4 := Lib.hid x4
  have Y4 := Lib.hid y4
  have M4 := Lib.hid m4
  have S4 := Lib.hid s4
  clear hs x3 y3 m3 s3 S3 m4 s4 y4 z1 z3
  have hma := mixF_ne (x := (a : Int) + 1) (by omega)
  have hmr := mixF_range ((a : Int) + 1)
  have HMX := Lib.hid (l02Mix_any ((a : Int) + 1))
  generalize mixF ((a : Int) + 1) = p at *
  obtain ⟨c0, c1, c2, cf⟩ := x4
  go_wp2_with fail
  refine (HMX.out _).mono ?_
  rintro e w5 ⟨rfl, rfl⟩
  go_upto_region 3 with fail
  generalize hW6 : World.setCell w5 _ _ = W6
  have x6 : SdAt W6 w2.heap.size k p 0 := by rw [← hW6]; exact X4.out.setA p
  have y6 : SdAt W6 w.heap.size 0 0 0 := by rw [← hW6]; exact Y4.out.mv (g := w2.heap.size) ((Mv.refl _ _ _).set _ _ (.inr rfl)) (by omega)
  have s6 : Sc W6 g A n c (m + 2 + 2) := by rw [← hW6]; exact S4.out.far (k := w2.heap.size) (grown_set (grown_refl _ _) 1 _) (by omega)
  have m6 : Mv w.heap.size g w W6 := by rw [← hW6]; exact M4.out.set _ _ (.inl (by show w.heap.size ≤ w2.heap.size; omega))
  have z6 : W6.heap.size = w5.heap.size := by rw [← hW6]; simp [World.setCell]
  clear hW6 X4 Y4 M4 S4 c0 c1 c2 cf
  have S6 := Lib.hid s6
  go_wp2_with fail
  refine (HP.out _ 1000000 _ (by omega) (by omega) S6.out).mono ?_
  rintro e w7 ⟨b, _, hb, rfl, hs⟩
  have x7 := x6.far hs.1 (by omega)
  have y7 := y6.far hs.1 (by omega)
  have m7 := m6.next m6.size (Mv.of_grown hs.1)
  have s7 := hs.2
  have z7 := hs.1.size
  have X7 := Lib.hid x7
  have Y7 := Lib.hid y7
  have M7 := Lib.hid m7
  have S7 := Lib.hid s7
  clear hs x6 y6 m6 s6 S6 m7 s7
  have hqr := mixF_range ((b : Int) + 7)
  have HMY := Lib.hid (l02Mix_any ((b : Int) + 7))
  generalize mixF ((b : Int) + 7) = q at *
  obtain ⟨hor, hor1⟩ := or_one q hqr
  generalize hr : bits .or .u64 q 1 = r at *
  obtain ⟨c0, c1, c2, cf⟩ := x7
  obtain ⟨d0, d1, d2, df⟩ := y7
  go_wp2_with fail
  refine (HMY.out _).mono ?_
  rintro e w8 ⟨rfl, rfl⟩
  go_upto_region 4 with fail
  have hK : Hid (seedB k p r = true) := Lib.hid (by
    unfold seedB
    rcases (show k = 0 ∨ k = 1 ∨ k = 2 ∨ k = 3 by omega) with rfl | rfl | rfl | rfl <;> simp [hor, hma])
  clear hr hor
  generalize hW9 : World.setCell w8 _ _ = W9
  have x9 : SdAt W9 w2.heap.size k p r := by rw [← hW9]; exact X7.out.setB r
  have y9 : SdAt W9 w.heap.size 0 0 0 := by rw [← hW9]; exact Y7.out.mv (g := w2.heap.size) ((Mv.refl _ _ _).set _ _ (.inr rfl)) (by omega)
  have s9 : Sc W9 g A n c (m + 6) := by rw [← hW9]; exact S7.out.far (k := w2.heap.size) (grown_set (grown_refl _ _) 2 _) (by omega)
  have m9 : Mv w.heap.size g w W9 := by rw [← hW9]; exact M7.out.set _ _ (.inl (by show w.heap.size ≤ w2.heap.size; omega))
  clear hW9 X7 Y7 M7 S7 c0 c1 c2 cf d0 d1 d2 df
  obtain ⟨c0, c1, c2, cf⟩ := x9
  have Y9 := Lib.hid y9
  obtain ⟨d0, d1, d2, df⟩ := y9
  have SS := Lib.hid ((s9.far (k := w.heap.size) (grown_set (grown_set (grown_set (grown_refl _ _) 0 (.int .i64 k)) 1 (.int .u64 p)) 2 (.int .u64 r)) hgl))
  have MM := Lib.hid (((m9.set ⟨w.heap.size, 0, none⟩ (.int .i64 k) (.inl (Nat.le_refl _))).set ⟨w.heap.size, 1, none⟩ (.int .u64 p) (.inl (Nat.le_refl _))).set ⟨w.heap.size, 2, none⟩ (.int .u64 r) (.inl (Nat.le_refl _)))
  have YY := Lib.hid (Y9.out.set k p r)
  clear s9 m9
  go_wp2_with fail
  generalize World.setCell (World.setCell (World.setCell _ _ _) _ _) _ _ = WW at *
  obtain ⟨e0, e1, e2, ef⟩ := YY.out
  refine bodyPost_ret (v := .agg #[.int .i64 k, .int .u64 p, .int .u64 r]) (by simp [results, Tryd.results16, go_sem, e0, e1, e2]) rfl ⟨k, p, r, rfl, hK.out, hmr, hor1, MM.out, SS.out⟩
end Go.Proofs.YtckdbnnkabgopaaDoor
