/-
  The source of choices (spec.l00Src): next, pick, l00From: a number within bounds; only the source's box changes (pieces of tpl10's XSc1, XSc2).
-/
import Derived.Test.YtlhepgdheopgaaaOut
import Derived.Test.YtlhepgdheopgaaaFa
import Derived.RegionTactic
import Derived.BigRegion
import Derived.Laws.Bits64
import Derived.Laws.Bits64b
namespace Go.Proofs.Ytlhepgdheopgaaa
open Go Go.RowKit

theorem w64_in {x : Int} (h : 0 ≤ x ∧ x ≤ 9223372036854775807) : wrap64 x = x := by
  unfold wrap64
  omega
theorem grown_refl (w : World) (row : Option Nat) : w.grownBy w row := ⟨rfl, rfl, rfl, Nat.le_refl _, fun _ _ _ => rfl⟩
theorem grown_set {w w' : World} {g : Nat} (h : w.grownBy w' (some g)) (i : Nat) (v : Value) : w.grownBy (w'.setCell ⟨g, i, none⟩ v) (some g) :=
  ⟨h.os, h.tape, h.output, by simp only [World.setCell, Array.size_modify]; exact h.size, fun k hk hne => (Below.heap_setCell _ _ _ _ (fun e => hne (by rw [e]))).trans (h.block k hk hne)⟩
theorem grown_trans {a b c : World} {row : Option Nat} (h : a.grownBy b row) (h' : b.grownBy c row) : a.grownBy c row :=
  ⟨h'.os.trans h.os, h'.tape.trans h.tape, h'.output.trans h.output, Nat.le_trans h.size h'.size, fun j hj hn => (h'.block j (Nat.lt_of_lt_of_le hj h.size) hn).trans (h.block j hj hn)⟩
theorem grown_dr {a w : World} {row : Option Nat} (h : a.grownBy w row) : a.grownBy w.drew row := ⟨h.os, h.tape, h.output, h.size, h.block⟩
theorem grown_dn {a w : World} {row : Option Nat} (h : a.grownBy w row) (n : Nat) : a.grownBy (w.drewN n) row := ⟨h.os, h.tape, h.output, h.size, h.block⟩
theorem u64_range (n : Int) : 0 ≤ IntKind.u64.wrap n ∧ IntKind.u64.wrap n < 18446744073709551616 := by
  rw [IntKind.wrap_u64]
  omega
/-- a source lies in block g; its bytes lie further down; asked a times -/
def ScE (W : World) (g : Nat) (A : Option Addr) (n c a : Nat) (s : Int) : Prop :=
  W.cell? ⟨g, 0, none⟩ = some (.slice A n c) ∧ W.cell? ⟨g, 1, none⟩ = some (.int .i64 a) ∧ W.cell? ⟨g, 2, none⟩ = some (.int .u64 s) ∧ (∀ o, W.frozen? ⟨g, o, none⟩ = false) ∧
  ∀ a, a < n → ∃ b off v, A = some ⟨b, off, none⟩ ∧ b < g ∧ (v : Nat) ≤ 255 ∧ W.cell? ⟨b, off + a, none⟩ = some (.int .u8 (v : Nat))
def Sc (W : World) (g : Nat) (A : Option Addr) (n c m : Nat) : Prop := ∃ (a : Nat) (s : Int), a ≤ m ∧ (0 ≤ s ∧ s < 18446744073709551616) ∧ ScE W g A n c a s
def ScTo (g : Nat) (A : Option Addr) (n c m : Nat) (w w' : World) : Prop := w.grownBy w' (some g) ∧ Sc w' g A n c m
theorem Sc.lt {W : World} {g : Nat} {A : Option Addr} {n c m : Nat} (h : Sc W g A n c m) : g < W.heap.size := by
  obtain ⟨a, s, _, _, h0, _⟩ := h
  exact lt_of_cell (a := ⟨g, 0, none⟩) h0
theorem ScE.set {W : World} {g : Nat} {A : Option Addr} {n c a0 a : Nat} {s0 : Int} (h : ScE W g A n c a0 s0) (s : Int) (v : Int) (hv : v = (a : Nat)) :
    ScE ((W.setCell ⟨g, 1, none⟩ (.int .i64 v)).setCell ⟨g, 2, none⟩ (.int .u64 s)) g A n c a s := by
  subst hv
  obtain ⟨h0, h1, h2, hf, hr⟩ := h
  refine ⟨?_, ?_, ?_, ?_, ?_⟩
  · exact (World.cell?_setCell_other _ _ _ _ (by simp)).trans ((World.cell?_setCell_other _ _ _ _ (by simp)).trans h0)
  · exact (World.cell?_setCell_other _ _ _ _ (by simp)).trans (World.cell?_setCell_same _ _ _ h1)
  · exact World.cell?_setCell_same _ _ _ ((World.cell?_setCell_other _ _ _ _ (by simp)).trans h2)
  · intro o
    rw [World.frozen?_setCell, World.frozen?_setCell]
    exact hf o
  · intro i hi
    obtain ⟨b, off, v, e, hb, hv, hc⟩ := hr i hi
    exact ⟨b, off, v, e, hb, hv, (World.cell?_setCell_other _ _ _ _ (by intro e; injection e with e; omega)).trans ((World.cell?_setCell_other _ _ _ _ (by intro e; injection e with e; omega)).trans hc)⟩
theorem Sc.le {W : World} {g : Nat} {A : Option Addr} {n c m m' : Nat} (h : Sc W g A n c m) (hm : m ≤ m') : Sc W g A n c m' := by
  obtain ⟨a, s, ha, r⟩ := h
  exact ⟨a, s, by omega, r⟩
theorem and_byte {x : Int} (h : 0 ≤ x ∧ x < 18446744073709551616) : ∃ v : Nat, v ≤ 255 ∧ bits .and .u64 x 255 = (v : Int) := by
  obtain ⟨n, rfl⟩ := Int.eq_ofNat_of_zero_le h.1
  refine ⟨n &&& 255, Nat.and_le_right, ?_⟩
  exact bits_and_u64_nat n 255 (by omega) (by decide)
set_option maxRecDepth 100000 in
set_option maxHeartbeats 3200000 in
theorem srcNext_any (g : Nat) (A : Option Addr) (n c m : Nat) (w : World) (hn : n ≤ 1048576) (hm : m ≤ 1048576) (h : Sc w g A n c m) :
    Calls Try.prog 69 #[.pointer (some ⟨g, 0, none⟩)] w (fun e w' => ∃ v : Nat, v ≤ 255 ∧ e = .returned (.int .i64 v) ∧ ScTo g A n c (m + 1) w w') := by
  obtain ⟨a, s, ha, hs, hE⟩ := h
  have H := Lib.hid hE
  obtain ⟨h0, h1, h2, hf, hr⟩ := hE
  have HG := fun v s => Lib.hid (grown_set (i := 2) (v := .int .u64 s) (grown_set (i := 1) (v := .int .i64 v) (grown_refl w (some g)) ) )
  by_cases hlt : a < n
  · obtain ⟨b, off, v, rfl, hb, hv, hc⟩ := hr a hlt
    clear hr
    have hlt' : (a : Int) < (n : Int) := by omega
    have hle' : (a : Int) + 1 ≤ (n : Int) := by omega
    go_enter Try.func69, Try.ntmps69
    go_wp2
    go_region
    go_wp2
    go_region
    go_wp2
    generalize hse : IntKind.u64.wrap (IntKind.u64.wrap (IntKind.u64.wrap (s * 6364136223846793005) + (v : Int)) + 1442695040888963407) = s' at *
    have hsr : 0 ≤ s' ∧ s' < 18446744073709551616 := by rw [← hse]; exact u64_range _
    have hS := H.out.set s' ((a : Int) + 1) (a := a + 1) (by omega)
    have hG : w.grownBy ((w.setCell ⟨g, 1, none⟩ (.int .i64 ((a : Int) + 1))).setCell ⟨g, 2, none⟩ (.int .u64 s')) (some g) := grown_set (grown_set (grown_refl w _) 1 _) 2 _
    clear hse HG
    generalize World.setCell (World.setCell _ _ _) _ _ = W2 at *
    have HS := Lib.hid hS
    clear h0 h1 h2 hf hc
    obtain ⟨h0, h1, h2, hf, hr⟩ := hS
    rw [show ((a + 1 : Nat) : Int) = (a : Int) + 1 by omega] at h1
    clear hr
    go_region
    go_wp2
    go_ret
    exact ⟨v, hv, rfl, grown_dr (grown_dr (grown_dr hG)), a + 1, s', by omega, hsr, HS.out⟩
  · have hlt' : ¬ (a : Int) < (n : Int) := by omega
    have hle' : ¬ (a : Int) + 1 ≤ (n : Int) := by omega
    go_enter Try.func69, Try.ntmps69
    go_wp2
    go_region
    go_wp2
    generalize hse : IntKind.u64.wrap (IntKind.u64.wrap (IntKind.u64.wrap (s * 6364136223846793005)) + 1442695040888963407) = s' at *
    have hsr : 0 ≤ s' ∧ s' < 18446744073709551616 := by rw [← hse]; exact u64_range _
    have hS := H.out.set s' ((a : Int) + 1) (a := a + 1) (by omega)
    have hG : w.grownBy ((w.setCell ⟨g, 1, none⟩ (.int .i64 ((a : Int) + 1))).setCell ⟨g, 2, none⟩ (.int .u64 s')) (some g) := grown_set (grown_set (grown_refl w _) 1 _) 2 _
    clear hse HG
    generalize World.setCell (World.setCell _ _ _) _ _ = W2 at *
    have HS := Lib.hid hS
    clear h0 h1 h2 hf hr
    obtain ⟨h0, h1, h2, hf, hr⟩ := hS
    rw [show ((a + 1 : Nat) : Int) = (a : Int) + 1 by omega] at h1
    clear hr
    go_region
    go_wp2
    obtain ⟨v, hv, hve⟩ := and_byte (x := s' / 1099511627776) (by omega)
    rw [hve, w64_in (x := (v : Int)) (by omega)]
    go_ret
    exact ⟨v, hv, rfl, grown_dr (grown_dr hG), a + 1, s', by omega, hsr, HS.out⟩
theorem ScTo.next {g : Nat} {A : Option Addr} {n c m m' : Nat} {w W W' : World} (h : ScTo g A n c m w W) (h' : ScTo g A n c m' W W') : ScTo g A n c m' w W' := ⟨grown_trans h.1 h'.1, h'.2⟩
theorem Sc.keep {w w' : World} {g : Nat} {A : Option Addr} {n c m : Nat} (h : Sc w g A n c m) (hb : Below w.heap.size w w') : Sc w' g A n c m := by
  have hl := h.lt
  obtain ⟨a, s, ha, hs, h0, h1, h2, hf, hr⟩ := h
  exact ⟨a, s, ha, hs, keepC hb h0, keepC hb h1, keepC hb h2, fun o => (hb.frozen (p := ⟨g, o, none⟩) hl).trans (hf o), fun i hi => by
    obtain ⟨b, off, v, e, hbg, hv, hc⟩ := hr i hi
    exact ⟨b, off, v, e, hbg, hv, keepC hb hc⟩⟩
theorem Sc.al {w : World} {g : Nat} {A : Option Addr} {n c m : Nat} (h : Sc w g A n c m) (o : Obj) : Sc (w.alloc o) g A n c m := h.keep (below_al (Below.refl _ _) _)
theorem Sc.far {w w' : World} {g k : Nat} {A : Option Addr} {n c m : Nat} (h : Sc w g A n c m) (hg : w.grownBy w' (some k)) (hk : g < k) : Sc w' g A n c m := by
  have hl := h.lt
  obtain ⟨a, s, ha, hs, h0, h1, h2, hf, hr⟩ := h
  have hn : ∀ b, b ≤ g → some b ≠ some k := fun b hb e => by injection e with e; omega
  exact ⟨a, s, ha, hs, (hg.cell_far ⟨g, 0, none⟩ hl (hn g (by omega))).trans h0, (hg.cell_far ⟨g, 1, none⟩ hl (hn g (by omega))).trans h1, (hg.cell_far ⟨g, 2, none⟩ hl (hn g (by omega))).trans h2, fun o => (hg.frozen_far ⟨g, o, none⟩ hl (hn g (by omega))).trans (hf o), fun i hi => by
    obtain ⟨b, off, v, e, hbg, hv, hc⟩ := hr i hi
    exact ⟨b, off, v, e, hbg, hv, (hg.cell_far ⟨b, off + i, none⟩ (by show b < _; omega) (hn b (by omega))).trans hc⟩⟩
def PickOut (g : Nat) (A : Option Addr) (n c m N : Nat) (w : World) (e : Ending) (w' : World) : Prop := ∃ v : Nat, v < N ∧ v ≤ 65535 ∧ e = .returned (.int .i64 v) ∧ ScTo g A n c (m + 2) w w'
set_option maxRecDepth 100000 in
set_option maxHeartbeats 3200000 in
theorem pick_any (g : Nat) (A : Option Addr) (n c m N : Nat) (w : World) (hn : n ≤ 1048576) (hm : m ≤ 1048570) (hN : 1 < N ∧ N ≤ 1000000) (h : Sc w g A n c m) :
    Calls Try.prog 31 #[.pointer (some ⟨g, 0, none⟩), .int .i64 N] w (PickOut g A n c m N w) := by
  have HX := Lib.hid fun m w hm h => srcNext_any g A n c m w hn hm h
  have H := Lib.hid h
  have hN1 : (1 : Int) < N := by omega
  unfold PickOut
  clear h
  by_cases hb : N ≤ 200
  · have hb' : (N : Int) ≤ 200 := by omega
    go_enter Try.func31, Try.ntmps31
    go_wp2_with fail
    refine (HX.out _ _ (by omega) H.out).mono ?_
    rintro e w1 ⟨v, hv, rfl, hs⟩
    have HS := Lib.hid hs
    clear hs
    go_wp2_with fail
    go_ret
    exact ⟨v % N, Nat.mod_lt _ (by omega), by have := Nat.mod_le v N; omega, rfl, HS.out.1, HS.out.2.le (by omega)⟩
  · have hb' : ¬ (N : Int) ≤ 200 := by omega
    go_enter Try.func31, Try.ntmps31
    go_wp2_with fail
    refine (HX.out _ _ (by omega) H.out).mono ?_
    rintro e w1 ⟨v, hv, rfl, hs⟩
    have HS := Lib.hid hs
    clear hs
    go_wp2_with fail
    refine (HX.out _ _ (by omega) HS.out.2).mono ?_
    rintro e w2 ⟨v2, hv2, rfl, hs⟩
    have HS2 := Lib.hid (HS.out.next hs)
    clear hs
    go_wp2_with fail
    go_ret
    refine ⟨(v * 256 + v2) % N, Nat.mod_lt _ (by omega), by have := Nat.mod_le (v * 256 + v2) N; omega, ?_, HS2.out.1, HS2.out.2.le (by omega)⟩
    rw [Int.natCast_emod, Int.natCast_add, Int.natCast_mul]
    rfl
theorem l00From_any (A : Option Addr) (n c : Nat) (w : World) (h : ∀ a, a < n → ∃ b off v, A = some ⟨b, off, none⟩ ∧ b < w.heap.size ∧ (v : Nat) ≤ 255 ∧ w.cell? ⟨b, off + a, none⟩ = some (.int .u8 (v : Nat))) :
    Calls Try.prog 30 #[.slice A n c] w (fun e w' => e = .returned (.pointer (some ⟨w.heap.size, 0, none⟩)) ∧ Below w.heap.size w w' ∧ w'.heap.size = w.heap.size + 1 ∧ Sc w' w.heap.size A n c 0) := by
  have H := Lib.hid h
  clear h
  go_enter Try.func30, Try.ntmps30
  go_wp2_with fail
  go_ret
  refine ⟨rfl, below_al (Below.refl _ _) _, by simp, 0, 0, Nat.le_refl _, by omega, by simp [go_sem], by simp [go_sem], by simp [go_sem], fun o => by simp [go_sem], fun i hi => ?_⟩
  obtain ⟨b, off, v, e, hb, hv, hc⟩ := H.out i hi
  exact ⟨b, off, v, e, hb, hv, keepC (below_al (Below.refl _ _) _) hc⟩
structure Mv (B g : Nat) (w w' : World) : Prop where
  os : w'.os = w.os
  tape : w'.tape = w.tape
  output : w'.output = w.output
  size : w.heap.size ≤ w'.heap.size
  block : ∀ k, k < B → k ≠ g → w'.heap[k]? = w.heap[k]?
section
variable {B g : Nat} {a b c w w' W : World}
theorem Mv.refl (B g : Nat) (w : World) : Mv B g w w := ⟨rfl, rfl, rfl, Nat.le_refl _, fun _ _ _ => rfl⟩
theorem Mv.trans (h : Mv B g a b) (k : Mv B g b c) : Mv B g a c :=
  ⟨k.os.trans h.os, k.tape.trans h.tape, k.output.trans h.output, Nat.le_trans h.size k.size, fun i hi hn => (k.block i hi hn).trans (h.block i hi hn)⟩
theorem Mv.mono {B' : Nat} (h : Mv B g w w') (hB : B' ≤ B) : Mv B' g w w' := ⟨h.os, h.tape, h.output, h.size, fun k hk hn => h.block k (by omega) hn⟩
theorem Mv.of_below (h : Below B w w') : Mv B g w w' := ⟨h.os, h.tape, h.output, h.size, fun k hk _ => h.block k hk⟩
theorem Mv.of_grown (h : w.grownBy w' (some g)) : Mv w.heap.size g w w' := ⟨h.os, h.tape, h.output, h.size, fun k hk hn => h.block k hk (fun e => hn (Option.some.inj e))⟩
theorem Mv.below (h : Mv B g w w') (hg : B ≤ g) : Below B w w' := ⟨h.os, h.tape, h.output, h.size, fun k hk => h.block k hk (by omega)⟩
theorem Mv.next (h : Mv B g w W) (hB : B ≤ W.heap.size) (k : Mv W.heap.size g W w') : Mv B g w w' := h.trans (k.mono hB)
theorem Mv.al (h : Mv B g w W) (hB : B ≤ W.heap.size) (o : Obj) : Mv B g w (W.alloc o) := h.trans ((Mv.of_below (below_al (Below.refl _ _) o)).mono hB)
theorem Mv.dn (h : Mv B g w W) (n : Nat) : Mv B g w (W.drewN n) := ⟨h.os, h.tape, h.output, h.size, h.block⟩
theorem Mv.dr (h : Mv B g w W) : Mv B g w W.drew := ⟨h.os, h.tape, h.output, h.size, h.block⟩
theorem Mv.set (h : Mv B g w W) (p : Addr) (v : Value) (hp : B ≤ p.block ∨ p.block = g) : Mv B g w (W.setCell p v) :=
  h.trans ⟨rfl, rfl, rfl, by simp [World.setCell], fun k hk hn => Below.heap_setCell _ _ _ _ (by omega)⟩
theorem Mv.grown {row : Option Nat} (h : Mv B g a w) (hg : w.grownBy w' row) (hB : B ≤ w.heap.size) (hr : ∀ k, row = some k → B ≤ k ∨ k = g) : Mv B g a w' :=
  h.trans ⟨hg.os, hg.tape, hg.output, hg.size, fun k hk hn => hg.block k (by omega) (fun e => by have := hr k e.symm; omega)⟩
theorem Mv.cell (h : Mv B g w w') {p : Addr} (hp : p.block < B) (hn : p.block ≠ g) : w'.cell? p = w.cell? p := World.cell?_of_block (w := w) (h.block p.block hp hn)
theorem Mv.frozen (h : Mv B g w w') {p : Addr} (hp : p.block < B) (hn : p.block ≠ g) : w'.frozen? p = w.frozen? p := World.frozen?_of_block (w := w) (h.block p.block hp hn)
theorem Mv.keepC {p : Addr} {v : Value} (h : Mv w.heap.size g w w') (hc : w.cell? p = some v) (hn : p.block ≠ g) : w'.cell? p = some v := (h.cell (lt_of_cell hc) hn).trans hc
theorem Mv.own {base : Nat} {e : TypeId} {size n : Nat} {v : Value} {xs : List Value} (hb : Mv w.heap.size g w w') (h : w.ownsRow base e size v n xs) (hg : g < base) : w'.ownsRow base e size v n xs := by
  refine ⟨h.1, ?_⟩
  rcases h.2 with h0 | ⟨b, cap, cur, hv, hbb, hh, hr⟩
  · exact .inl h0
  · refine .inr ⟨b, cap, cur, hv, hbb, ?_, hr⟩
    have hlt : b < w.heap.size := by
      rcases Nat.lt_or_ge b w.heap.size with h1 | h1
      · exact h1
      · rw [Array.getElem?_eq_none h1] at hh
        cases hh
    rw [hb.block b hlt (by omega)]
    exact hh
end
theorem Sc.app {g k m : Nat} {A : Option Addr} {n c : Nat} {w2 w3 : World} {o : Obj} {row : Option Nat} (h : Sc w2 g A n c m) (hg : (w2.alloc o).grownBy w3 row) (hr : ∀ j, row = some j → g < j) (hm : m ≤ k) : Sc w3 g A n c k := by
  have h1 := h.al o
  have hl := h1.lt
  obtain ⟨a1, s1, e1, e2, e3, e4, e5, e6, e7⟩ := h1
  have far : ∀ q i, q ≤ g → w3.cell? ⟨q, i, none⟩ = (w2.alloc o).cell? ⟨q, i, none⟩ := fun q i hq => hg.cell_far ⟨q, i, none⟩ (by show q < _; omega) (fun e => by have := hr q e.symm; omega)
  refine ⟨a1, s1, by omega, e2, (far g 0 (Nat.le_refl _)).trans e3, (far g 1 (Nat.le_refl _)).trans e4, (far g 2 (Nat.le_refl _)).trans e5, fun i => ?_, fun i hi => ?_⟩
  · exact (hg.frozen_far ⟨g, i, none⟩ hl (fun e => by have := hr g e.symm; omega)).trans (e6 i)
  · obtain ⟨b, off, v, f1, f2, f3, f4⟩ := e7 i hi
    exact ⟨b, off, v, f1, f2, f3, (far b _ (by omega)).trans f4⟩
end Go.Proofs.Ytlhepgdheopgaaa
