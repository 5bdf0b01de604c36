/-
  impl.tailOf's inner function, at each of its two tests.
-/
import Derived.Test.YtbpigeipjeegiaaEv
import Derived.Test.YtbpigeipjeegiaaEy
namespace Go.Proofs.Ytbpigeipjeegiaa
open Go Go.RowKit

/-- a table's row, read in a later world -/
theorem row_hc {W W' : World} {g c n : Nat} {cnt : List Nat} (h : W.ownsRow 0 2 1 (.slice (some ⟨g, 0, none⟩) n c) n (nlv cnt)) (hl : cnt.length = n) (hb : Below W.heap.size W W') : ∀ i, i < n → W'.cell? ⟨g, 0 + i, none⟩ = some (.int .i64 (cnt[i]! : Nat)) := fun i hi => by
  rw [Nat.zero_add]
  refine keepC hb ?_
  rw [own_cellN h (by omega), getElem!_pos cnt i (by omega)]
set_option maxHeartbeats 800000 in
/-- the test of less -/
theorem Less1_any (bI gt0 ot0 n0 ct0 a0 R C g n c x0 : Nat) (w : World) (h1 : w.cell? ⟨bI, 2, none⟩ = some (.slice (some ⟨gt0, ot0, none⟩) n0 ct0)) (h2 : w.cell? ⟨gt0, ot0, none⟩ = some (.int .i64 a0)) (h3 : w.cell? ⟨g, 0, none⟩ = some (.int .i64 x0)) (hn : 0 < n) (hn0 : 0 < n0) :
    Calls Try.prog 21 #[.agg #[.int .i64 R, .int .i64 C, .slice (some ⟨g, 0, none⟩) n c], .pointer (some ⟨bI, 0, none⟩)] w (fun e w' => e = .returned (.bool (decide (x0 ≤ a0))) ∧ Below w.heap.size w w') := by
  have l1 := lt_of_cell h1
  have l2 := lt_of_cell h2
  have l3 := lt_of_cell h3
  have z1 : (0 : Int) < (n : Int) := by omega
  have z2 : (0 : Int) < (n0 : Int) := by omega
  have l1' : bI < w.heap.size := l1
  have l2' : gt0 < w.heap.size := l2
  have l3' : g < w.heap.size := l3
  go_enter Try.func21, Try.ntmps21
  go_upto_region 1 with fail
  have k1 := cl_up (.cells #[.int .i64 R, .int .i64 C, .slice (some ⟨g, 0, none⟩) n c] 26) h1
  have k2 := cl_up (.cells #[.int .i64 R, .int .i64 C, .slice (some ⟨g, 0, none⟩) n c] 26) h2
  have k3 := cl_up (.cells #[.int .i64 R, .int .i64 C, .slice (some ⟨g, 0, none⟩) n c] 26) h3
  have k4 : (w.alloc (.cells #[.int .i64 R, .int .i64 C, .slice (some ⟨g, 0, none⟩) n c] 26)).cell? ⟨w.heap.size, 2, none⟩ = some (.slice (some ⟨g, 0, none⟩) n c) := by simp
  have hb := Lib.hid (below_al (Below.refl w.heap.size w) (.cells #[.int .i64 R, .int .i64 C, .slice (some ⟨g, 0, none⟩) n c] 26))
  generalize World.alloc w _ = w1 at *
  go_quiet (fail)
  go_wp2_with fail
  go_ret
  exact ⟨retB (by simp), below_dn hb.out _⟩
set_option maxHeartbeats 1600000 in
/-- the test of weights -/
theorem Weight1_any (bI R C g n c : Nat) (own : Int) (cnt : List Nat) (w : World) (h1 : w.cell? ⟨bI, 0, none⟩ = some (.int .i64 own)) (hC : 1 ≤ C ∧ C ≤ 4) (hn : R * C = n) (hx : cnt.length = n) (hRC : n ≤ 16) (hs : cnt.sum ≤ 60) (ho : w.ownsRow 0 2 1 (.slice (some ⟨g, 0, none⟩) n c) n (nlv cnt)) :
    Calls Try.prog 36 #[.agg #[.int .i64 R, .int .i64 C, .slice (some ⟨g, 0, none⟩) n c], .pointer (some ⟨bI, 0, none⟩)] w (fun e w' => e = .returned (.bool (decide (wOf C cnt ≤ own))) ∧ Below w.heap.size w w') := by
  subst hn
  have HW : Hid (∀ W', Below w.heap.size w W' → Calls Try.prog 35 #[.agg #[.int .i64 R, .int .i64 C, .slice (some ⟨g, 0, none⟩) (R * C) c]] W' (fun e w' => e = .returned (.int .i64 (wOf C cnt)) ∧ Below W'.heap.size W' w')) := Lib.hid fun W' hb => weightOf_any g 0 R C c cnt W' hC hx hRC hs (by have := own_ltg ho; have := hb.size; omega) (row_hc ho hx hb)
  have l1 : bI < w.heap.size := lt_of_cell h1
  clear ho hx hs
  generalize wOf C cnt = wv at *
  generalize R * C = n at *
  go_enter Try.func36, Try.ntmps36
  go_upto_region 1 with fail
  have HM : Hid (∀ W', Below (w.alloc (.cells #[.int .i64 R, .int .i64 C, .slice (some ⟨g, 0, none⟩) n c] 26)).heap.size (w.alloc (.cells #[.int .i64 R, .int .i64 C, .slice (some ⟨g, 0, none⟩) n c] 26)) W' → W'.cell? ⟨bI, 0, none⟩ = some (.int .i64 own) ∧ W'.cell? ⟨w.heap.size, 0, none⟩ = some (.int .i64 R) ∧ W'.cell? ⟨w.heap.size, 1, none⟩ = some (.int .i64 C) ∧ W'.cell? ⟨w.heap.size, 2, none⟩ = some (.slice (some ⟨g, 0, none⟩) n c)) := Lib.hid fun W' hb => ⟨keepC hb (cl_up _ h1), keepC hb (by simp), keepC hb (by simp), keepC hb (by simp)⟩
  have hb := Lib.hid (below_al (Below.refl w.heap.size w) (.cells #[.int .i64 R, .int .i64 C, .slice (some ⟨g, 0, none⟩) n c] 26))
  have hz1 : (w.alloc (.cells #[.int .i64 R, .int .i64 C, .slice (some ⟨g, 0, none⟩) n c] 26)).heap.size = w.heap.size + 1 := by simp
  generalize World.alloc w _ = w1 at *
  have k0 := HM.out w1 (Below.refl _ _)
  go_region_held3 (fun W' => W'.cell? ⟨bI, 0, none⟩ = some (.int .i64 own) ∧ W'.cell? ⟨w.heap.size, 0, none⟩ = some (.int .i64 R) ∧ W'.cell? ⟨w.heap.size, 1, none⟩ = some (.int .i64 C) ∧ W'.cell? ⟨w.heap.size, 2, none⟩ = some (.slice (some ⟨g, 0, none⟩) n c))
    (first | exact HM.out _ (Below.refl _ _) | exact HM.out _ (below_dr (Below.refl _ _)) | exact HM.out _ bk3)
    (first
      | (go_at_call 35; refine (HW.out _ (by first | exact hb.out | exact below_dr hb.out)).mono ?_; rintro e w3 ⟨rfl, hb3⟩; have bk3 : Below w1.heap.size w1 w3 := (by first | exact hb3 | exact below_next (below_dr (Below.refl _ _)) hb3); clear hb3))
  go_wp2_with fail
  go_ret
  exact ⟨retB (by simp), below_next hb.out bk3⟩
/-- the two sums behind a table -/
def tlN (C : Nat) (inB : List Nat → Bool) (y : Int × Int) (cnt : List Nat) : Int × Int := (if inB cnt then IntKind.i64.wrap (y.1 + wOf C cnt) else y.1, IntKind.i64.wrap (y.2 + wOf C cnt))
/-- the boxes of impl.tailOf -/
structure TU (f : Nat) (E : World → Prop) (ball bin bpart bI : Nat) (y : Int × Int) (W : World) : Prop where
  a : W.cell? ⟨ball, 0, none⟩ = some (.int .i64 y.2)
  af : W.frozen? ⟨ball, 0, none⟩ = false
  p : W.cell? ⟨bpart, 0, none⟩ = some (.int .i64 y.1)
  pf : W.frozen? ⟨bpart, 0, none⟩ = false
  i : W.cell? ⟨bin, 0, none⟩ = some (.func (.func f) #[] #[.pointer (some ⟨bI, 0, none⟩)])
  e : E W
/-- what the test leans on -/
def EF (E : World → Prop) (B0 : Nat) (us : List Nat) : Prop := ∀ W W', E W → W.heap.size ≤ W'.heap.size → (∀ b, b < W.heap.size → b < B0 → b ∉ us → W'.heap[b]? = W.heap[b]?) → E W'
theorem TU.frame {f : Nat} {E : World → Prop} {ball bin bpart bI B0 : Nat} (hE : EF E B0 [ball, bpart]) (hb : bin < B0) : VF (VU (TU f E ball bin bpart bI) [ball, bpart]) B0 := by
  rintro y gs W W' ⟨h, rfl⟩ hz hk
  have la := lt_of_cell h.a
  have lp := lt_of_cell h.p
  have li := lt_of_cell h.i
  exact ⟨⟨(World.cell?_of_block (hk ball la (.inl (by simp)))).trans h.a, (World.frozen?_of_block (hk ball la (.inl (by simp)))).trans h.af, (World.cell?_of_block (hk bpart lp (.inl (by simp)))).trans h.p, (World.frozen?_of_block (hk bpart lp (.inl (by simp)))).trans h.pf, (World.cell?_of_block (hk bin li (.inr hb))).trans h.i, hE _ _ h.e hz (fun b hbl hb0 _ => hk b hbl (.inr hb0))⟩, rfl⟩
theorem TU.low {f : Nat} {E : World → Prop} {ball bin bpart bI B0 : Nat} {y : Int × Int} {W W' : World} (h : TU f E ball bin bpart bI y W) (hE : EF E B0 [ball, bpart]) (hb : Below W.heap.size W W') : TU f E ball bin bpart bI y W' :=
  ⟨keepC hb h.a, (hb.frozen (lt_of_cell h.a)).trans h.af, keepC hb h.p, (hb.frozen (lt_of_cell h.p)).trans h.pf, keepC hb h.i, hE _ _ h.e hb.size (fun b hbl _ _ => hb.block b hbl)⟩
theorem TU.setA {f : Nat} {E : World → Prop} {ball bin bpart bI B0 : Nat} {y : Int × Int} {W : World} (h : TU f E ball bin bpart bI y W) (hE : EF E B0 [ball, bpart]) (h1 : ball ≠ bpart) (h2 : ball ≠ bin) (x : Int) : TU f E ball bin bpart bI (y.1, x) (W.setCell ⟨ball, 0, none⟩ (.int .i64 x)) :=
  ⟨World.cell?_setCell_same' _ _ _ (by rw [h.a]; rfl), by rw [World.frozen?_setCell]; exact h.af, (World.cell?_setCell_other _ _ _ _ (by intro e; injection e with e1; exact h1 e1)).trans h.p, by rw [World.frozen?_setCell]; exact h.pf, (World.cell?_setCell_other _ _ _ _ (by intro e; injection e with e1; exact h2 e1)).trans h.i, hE _ _ h.e (by simp) (fun b _ _ hn => Below.heap_setCell _ _ _ _ (fun e => hn (by simp [show b = ball from e])))⟩
theorem TU.setP {f : Nat} {E : World → Prop} {ball bin bpart bI B0 : Nat} {y : Int × Int} {W : World} (h : TU f E ball bin bpart bI y W) (hE : EF E B0 [ball, bpart]) (h1 : ball ≠ bpart) (h2 : bpart ≠ bin) (x : Int) : TU f E ball bin bpart bI (x, y.2) (W.setCell ⟨bpart, 0, none⟩ (.int .i64 x)) :=
  ⟨(World.cell?_setCell_other _ _ _ _ (by intro e; injection e with e1; exact h1 e1.symm)).trans h.a, by rw [World.frozen?_setCell]; exact h.af, World.cell?_setCell_same' _ _ _ (by rw [h.p]; rfl), by rw [World.frozen?_setCell]; exact h.pf, (World.cell?_setCell_other _ _ _ _ (by intro e; injection e with e1; exact h2 e1)).trans h.i, hE _ _ h.e (by simp) (fun b _ _ hn => Below.heap_setCell _ _ _ _ (fun e => hn (by simp [show b = bpart from e])))⟩
set_option maxRecDepth 100000 in
set_option maxHeartbeats 3200000 in
theorem tailL_any (E : World → Prop) (inB : List Nat → Bool) (ball bin bpart bI B0 R C : Nat) (hC : 1 ≤ C ∧ C ≤ 4) (hRC : R * C ≤ 16) (hE : EF E B0 [ball, bpart]) (hd : ball ≠ bpart ∧ ball ≠ bin ∧ bpart ≠ bin)
    (HIN : ∀ (cnt : List Nat) (g c : Nat) (W : World), E W → W.ownsRow 0 2 1 (.slice (some ⟨g, 0, none⟩) (R * C) c) (R * C) (nlv cnt) → cnt.length = R * C → cnt.sum ≤ 60 → Calls Try.prog 21 #[.agg #[.int .i64 R, .int .i64 C, .slice (some ⟨g, 0, none⟩) (R * C) c], .pointer (some ⟨bI, 0, none⟩)] W (fun e w' => e = .returned (.bool (inB cnt)) ∧ Below W.heap.size W w')) :
    TC (TU 21 E ball bin bpart bI) (tlN C inB) [ball, bpart] B0 R C (.pointer (some ⟨ball, 0, none⟩)) (.pointer (some ⟨bin, 0, none⟩)) (.pointer (some ⟨bpart, 0, none⟩)) (fun cnt => cnt.sum ≤ 60) := by
  intro y cnt g c W hU hus hg hgB ho hl hs
  have hs' : cnt.sum ≤ 60 := hs
  have hgl := own_ltg ho
  have HW : Hid (∀ W', Below W.heap.size W W' → Calls Try.prog 35 #[.agg #[.int .i64 R, .int .i64 C, .slice (some ⟨g, 0, none⟩) (R * C) c]] W' (fun e w' => e = .returned (.int .i64 (wOf C cnt)) ∧ Below W'.heap.size W' w')) := Lib.hid fun W' hb => weightOf_any g 0 R C c cnt W' hC hl hRC hs' (by have := hb.size; omega) (row_hc ho hl hb)
  have HI : Hid (∀ W', E W' → W'.ownsRow 0 2 1 (.slice (some ⟨g, 0, none⟩) (R * C) c) (R * C) (nlv cnt) → Calls Try.prog 21 #[.agg #[.int .i64 R, .int .i64 C, .slice (some ⟨g, 0, none⟩) (R * C) c], .pointer (some ⟨bI, 0, none⟩)] W' (fun e w' => e = .returned (.bool (inB cnt)) ∧ Below W'.heap.size W' w')) := Lib.hid fun W' h1 h2 => HIN cnt g c W' h1 h2 hl hs'
  have HU := Lib.hid hU
  have HEE := Lib.hid hE
  have HO := Lib.hid ho
  have HG := Lib.hid hg
  have HNX : Hid (tlN C inB y cnt = (if inB cnt then IntKind.i64.wrap (y.1 + wOf C cnt) else y.1, IntKind.i64.wrap (y.2 + wOf C cnt))) := Lib.hid rfl
  obtain ⟨d1, d2, d3⟩ := hd
  have lball : ball < W.heap.size := lt_of_cell hU.a
  have lpart : bpart < W.heap.size := lt_of_cell hU.p
  have lbin : bin < W.heap.size := lt_of_cell hU.i
  clear hU hus hg hgB ho hl hs hs' hE HIN
  generalize tlN C inB y cnt = y9 at *
  generalize wOf C cnt = wv at *
  generalize hib : inB cnt = ib at *
  clear hib
  generalize hRCg : R * C = RC at *
  go_enter Try.func34, Try.ntmps34
  have hb1 := below_al (Below.refl W.heap.size W) (.cells #[.int .i64 R, .int .i64 C, .slice (some ⟨g, 0, none⟩) RC c] 26)
  have K1 := Lib.hid hb1
  have KT : Hid (∀ W', Below (W.alloc (.cells #[.int .i64 R, .int .i64 C, .slice (some ⟨g, 0, none⟩) RC c] 26)).heap.size (W.alloc (.cells #[.int .i64 R, .int .i64 C, .slice (some ⟨g, 0, none⟩) RC c] 26)) W' → W'.cell? ⟨W.heap.size, 0, none⟩ = some (.int .i64 R) ∧ W'.cell? ⟨W.heap.size, 1, none⟩ = some (.int .i64 C) ∧ W'.cell? ⟨W.heap.size, 2, none⟩ = some (.slice (some ⟨g, 0, none⟩) RC c)) := Lib.hid fun W' hb => ⟨keepC hb (by simp), keepC hb (by simp), keepC hb (by simp)⟩
  have hz1 : (W.alloc (.cells #[.int .i64 R, .int .i64 C, .slice (some ⟨g, 0, none⟩) RC c] 26)).heap.size = W.heap.size + 1 := by simp
  go_upto_region 1 with fail
  generalize World.alloc W _ = w1 at *
  have k1 := KT.out w1 (Below.refl _ _)
  go_upto_region 2 with (go_at_call 35; refine (HW.out _ K1.out).mono ?_; rintro e w2 ⟨rfl, hb2⟩; have B2 := Lib.hid hb2; clear hb2)
  have U2 := Lib.hid (HU.out.low HEE.out (below_next K1.out B2.out))
  have a2 := U2.out.a
  have a2f := U2.out.af
  have U3 := Lib.hid (U2.out.setA HEE.out d1 d2 (IntKind.i64.wrap (y.2 + wv)))
  have T2 := KT.out w2 B2.out
  have hwv : wrap64 (y.2 + wv) = IntKind.i64.wrap (y.2 + wv) := w64y _
  have t3a : (w2.setCell ⟨ball, 0, none⟩ (.int .i64 (IntKind.i64.wrap (y.2 + wv)))).cell? ⟨W.heap.size, 0, none⟩ = some (.int .i64 R) := (World.cell?_setCell_other _ _ _ _ (by first | (simp; done) | (simp; omega))).trans T2.1
  have t3b : (w2.setCell ⟨ball, 0, none⟩ (.int .i64 (IntKind.i64.wrap (y.2 + wv)))).cell? ⟨W.heap.size, 1, none⟩ = some (.int .i64 C) := (World.cell?_setCell_other _ _ _ _ (by first | (simp; done) | (simp; omega))).trans T2.2.1
  have t3c : (w2.setCell ⟨ball, 0, none⟩ (.int .i64 (IntKind.i64.wrap (y.2 + wv)))).cell? ⟨W.heap.size, 2, none⟩ = some (.slice (some ⟨g, 0, none⟩) RC c) := (World.cell?_setCell_other _ _ _ _ (by first | (simp; done) | (simp; omega))).trans T2.2.2
  have O3 : Hid ((w2.setCell ⟨ball, 0, none⟩ (.int .i64 (IntKind.i64.wrap (y.2 + wv)))).ownsRow 0 2 1 (.slice (some ⟨g, 0, none⟩) RC c) RC (nlv cnt)) := Lib.hid (own_block (own_below HO.out (below_next K1.out B2.out)) (Below.heap_setCell _ _ _ _ (fun e => HG.out (by simp [show g = ball from e]))))
  have K3 : Hid (Kp [ball, bpart] W (w2.setCell ⟨ball, 0, none⟩ (.int .i64 (IntKind.i64.wrap (y.2 + wv))))) := Lib.hid ((Kp.of_below (below_next K1.out B2.out)).set ball 0 _ (.inl (by simp)))
  have i3 := U3.out.i
  rw [← hwv] at U3 t3a t3b t3c O3 K3 i3
  clear k1 KT T2 HW
  go_upto_region 3 with fail
  generalize World.setCell w2 _ _ = w3 at *
  have I9 := Lib.hid (HI.out w3 U3.out.e O3.out)
  clear HI
  cases ib with
  | true =>
    go_upto_region 4 with (go_at_call 21; refine I9.out.mono ?_; rintro e w4 ⟨rfl, hb4⟩; have B4 := Lib.hid hb4; clear hb4)
    have U4 := Lib.hid (U3.out.low HEE.out B4.out)
    have p4 := U4.out.p
    have p4f := U4.out.pf
    have hwp : wrap64 (y.1 + wv) = IntKind.i64.wrap (y.1 + wv) := w64y _
    have U5 := Lib.hid (U4.out.setP HEE.out d1 d3 (wrap64 (y.1 + wv)))
    go_wp2_with fail
    go_end0
    refine ⟨rfl, ?_, (K3.out.next B4.out).set bpart 0 _ (.inl (by simp))⟩
    rw [HNX.out]
    simp only [if_true]
    rw [← hwv, ← hwp]
    exact U5.out
  | false =>
    go_wp2_with (go_at_call 21; refine I9.out.mono ?_; rintro e w4 ⟨rfl, hb4⟩; have B4 := Lib.hid hb4; clear hb4)
    go_end0
    refine ⟨rfl, ?_, K3.out.next B4.out⟩
    rw [HNX.out]
    simp only [Bool.false_eq_true, if_false]
    rw [← hwv]
    exact U3.out.low HEE.out B4.out
set_option maxRecDepth 100000 in
set_option maxHeartbeats 3200000 in
theorem tailW_any (E : World → Prop) (inB : List Nat → Bool) (ball bin bpart bI B0 R C : Nat) (hC : 1 ≤ C ∧ C ≤ 4) (hRC : R * C ≤ 16) (hE : EF E B0 [ball, bpart]) (hd : ball ≠ bpart ∧ ball ≠ bin ∧ bpart ≠ bin)
    (HIN : ∀ (cnt : List Nat) (g c : Nat) (W : World), E W → W.ownsRow 0 2 1 (.slice (some ⟨g, 0, none⟩) (R * C) c) (R * C) (nlv cnt) → cnt.length = R * C → cnt.sum ≤ 60 → Calls Try.prog 36 #[.agg #[.int .i64 R, .int .i64 C, .slice (some ⟨g, 0, none⟩) (R * C) c], .pointer (some ⟨bI, 0, none⟩)] W (fun e w' => e = .returned (.bool (inB cnt)) ∧ Below W.heap.size W w')) :
    TC (TU 36 E ball bin bpart bI) (tlN C inB) [ball, bpart] B0 R C (.pointer (some ⟨ball, 0, none⟩)) (.pointer (some ⟨bin, 0, none⟩)) (.pointer (some ⟨bpart, 0, none⟩)) (fun cnt => cnt.sum ≤ 60) := by
  intro y cnt g c W hU hus hg hgB ho hl hs
  have hs' : cnt.sum ≤ 60 := hs
  have hgl := own_ltg ho
  have HW : Hid (∀ W', Below W.heap.size W W' → Calls Try.prog 35 #[.agg #[.int .i64 R, .int .i64 C, .slice (some ⟨g, 0, none⟩) (R * C) c]] W' (fun e w' => e = .returned (.int .i64 (wOf C cnt)) ∧ Below W'.heap.size W' w')) := Lib.hid fun W' hb => weightOf_any g 0 R C c cnt W' hC hl hRC hs' (by have := hb.size; omega) (row_hc ho hl hb)
  have HI : Hid (∀ W', E W' → W'.ownsRow 0 2 1 (.slice (some ⟨g, 0, none⟩) (R * C) c) (R * C) (nlv cnt) → Calls Try.prog 36 #[.agg #[.int .i64 R, .int .i64 C, .slice (some ⟨g, 0, none⟩) (R * C) c], .pointer (some ⟨bI, 0, none⟩)] W' (fun e w' => e = .returned (.bool (inB cnt)) ∧ Below W'.heap.size W' w')) := Lib.hid fun W' h1 h2 => HIN cnt g c W' h1 h2 hl hs'
  have HU := Lib.hid hU
  have HEE := Lib.hid hE
  have HO := Lib.hid ho
  have HG := Lib.hid hg
  have HNX : Hid (tlN C inB y cnt = (if inB cnt then IntKind.i64.wrap (y.1 + wOf C cnt) else y.1, IntKind.i64.wrap (y.2 + wOf C cnt))) := Lib.hid rfl
  obtain ⟨d1, d2, d3⟩ := hd
  have lball : ball < W.heap.size := lt_of_cell hU.a
  have lpart : bpart < W.heap.size := lt_of_cell hU.p
  have lbin : bin < W.heap.size := lt_of_cell hU.i
  clear hU hus hg hgB ho hl hs hs' hE HIN
  generalize tlN C inB y cnt = y9 at *
  generalize wOf C cnt = wv at *
  generalize hib : inB cnt = ib at *
  clear hib
  generalize hRCg : R * C = RC at *
  go_enter Try.func34, Try.ntmps34
  have hb1 := below_al (Below.refl W.heap.size W) (.cells #[.int .i64 R, .int .i64 C, .slice (some ⟨g, 0, none⟩) RC c] 26)
  have K1 := Lib.hid hb1
  have KT : Hid (∀ W', Below (W.alloc (.cells #[.int .i64 R, .int .i64 C, .slice (some ⟨g, 0, none⟩) RC c] 26)).heap.size (W.alloc (.cells #[.int .i64 R, .int .i64 C, .slice (some ⟨g, 0, none⟩) RC c] 26)) W' → W'.cell? ⟨W.heap.size, 0, none⟩ = some (.int .i64 R) ∧ W'.cell? ⟨W.heap.size, 1, none⟩ = some (.int .i64 C) ∧ W'.cell? ⟨W.heap.size, 2, none⟩ = some (.slice (some ⟨g, 0, none⟩) RC c)) := Lib.hid fun W' hb => ⟨keepC hb (by simp), keepC hb (by simp), keepC hb (by simp)⟩
  have hz1 : (W.alloc (.cells #[.int .i64 R, .int .i64 C, .slice (some ⟨g, 0, none⟩) RC c] 26)).heap.size = W.heap.size + 1 := by simp
  go_upto_region 1 with fail
  generalize World.alloc W _ = w1 at *
  have k1 := KT.out w1 (Below.refl _ _)
  go_upto_region 2 with (go_at_call 35; refine (HW.out _ K1.out).mono ?_; rintro e w2 ⟨rfl, hb2⟩; have B2 := Lib.hid hb2; clear hb2)
  have U2 := Lib.hid (HU.out.low HEE.out (below_next K1.out B2.out))
  have a2 := U2.out.a
  have a2f := U2.out.af
  have U3 := Lib.hid (U2.out.setA HEE.out d1 d2 (IntKind.i64.wrap (y.2 + wv)))
  have T2 := KT.out w2 B2.out
  have hwv : wrap64 (y.2 + wv) = IntKind.i64.wrap (y.2 + wv) := w64y _
  have t3a : (w2.setCell ⟨ball, 0, none⟩ (.int .i64 (IntKind.i64.wrap (y.2 + wv)))).cell? ⟨W.heap.size, 0, none⟩ = some (.int .i64 R) := (World.cell?_setCell_other _ _ _ _ (by first | (simp; done) | (simp; omega))).trans T2.1
  have t3b : (w2.setCell ⟨ball, 0, none⟩ (.int .i64 (IntKind.i64.wrap (y.2 + wv)))).cell? ⟨W.heap.size, 1, none⟩ = some (.int .i64 C) := (World.cell?_setCell_other _ _ _ _ (by first | (simp; done) | (simp; omega))).trans T2.2.1
  have t3c : (w2.setCell ⟨ball, 0, none⟩ (.int .i64 (IntKind.i64.wrap (y.2 + wv)))).cell? ⟨W.heap.size, 2, none⟩ = some (.slice (some ⟨g, 0, none⟩) RC c) := (World.cell?_setCell_other _ _ _ _ (by first | (simp; done) | (simp; omega))).trans T2.2.2
  have O3 : Hid ((w2.setCell ⟨ball, 0, none⟩ (.int .i64 (IntKind.i64.wrap (y.2 + wv)))).ownsRow 0 2 1 (.slice (some ⟨g, 0, none⟩) RC c) RC (nlv cnt)) := Lib.hid (own_block (own_below HO.out (below_next K1.out B2.out)) (Below.heap_setCell _ _ _ _ (fun e => HG.out (by simp [show g = ball from e]))))
  have K3 : Hid (Kp [ball, bpart] W (w2.setCell ⟨ball, 0, none⟩ (.int .i64 (IntKind.i64.wrap (y.2 + wv))))) := Lib.hid ((Kp.of_below (below_next K1.out B2.out)).set ball 0 _ (.inl (by simp)))
  have i3 := U3.out.i
  rw [← hwv] at U3 t3a t3b t3c O3 K3 i3
  clear k1 KT T2 HW
  go_upto_region 3 with fail
  generalize World.setCell w2 _ _ = w3 at *
  have I9 := Lib.hid (HI.out w3 U3.out.e O3.out)
  clear HI
  cases ib with
  | true =>
    go_upto_region 4 with (go_at_call 36; refine I9.out.mono ?_; rintro e w4 ⟨rfl, hb4⟩; have B4 := Lib.hid hb4; clear hb4)
    have U4 := Lib.hid (U3.out.low HEE.out B4.out)
    have p4 := U4.out.p
    have p4f := U4.out.pf
    have hwp : wrap64 (y.1 + wv) = IntKind.i64.wrap (y.1 + wv) := w64y _
    have U5 := Lib.hid (U4.out.setP HEE.out d1 d3 (wrap64 (y.1 + wv)))
    go_wp2_with fail
    go_end0
    refine ⟨rfl, ?_, (K3.out.next B4.out).set bpart 0 _ (.inl (by simp))⟩
    rw [HNX.out]
    simp only [if_true]
    rw [← hwv, ← hwp]
    exact U5.out
  | false =>
    go_wp2_with (go_at_call 36; refine I9.out.mono ?_; rintro e w4 ⟨rfl, hb4⟩; have B4 := Lib.hid hb4; clear hb4)
    go_end0
    refine ⟨rfl, ?_, K3.out.next B4.out⟩
    rw [HNX.out]
    simp only [Bool.false_eq_true, if_false]
    rw [← hwv]
    exact U3.out.low HEE.out B4.out
end Go.Proofs.Ytbpigeipjeegiaa

