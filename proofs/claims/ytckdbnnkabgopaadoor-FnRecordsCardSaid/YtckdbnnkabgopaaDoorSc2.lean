/-
  The source of choices: pick and text; the mixed words; a drawn seed is valid.
-/
import Derived.Test.YtckdbnnkabgopaaDoorSc1
namespace Go.Proofs.YtckdbnnkabgopaaDoor
open Go Go.RowKit

def SdAt (w : World) (b : Nat) (k a c : Int) : Prop := w.cell? ⟨b, 0, none⟩ = some (.int .i64 k) ∧ w.cell? ⟨b, 1, none⟩ = some (.int .u64 a) ∧ w.cell? ⟨b, 2, none⟩ = some (.int .u64 c) ∧ ∀ o, w.frozen? ⟨b, o, none⟩ = false
theorem SdAt.keep {w w' : World} {b : Nat} {k a c : Int} (h : SdAt w b k a c) (hb : Below w.heap.size w w') : SdAt w' b k a c := by
  obtain ⟨h0, h1, h2, h3⟩ := h
  have hl : b < w.heap.size := lt_of_cell (a := ⟨b, 0, none⟩) h0
  exact ⟨keepC hb h0, keepC hb h1, keepC hb h2, fun o => (hb.frozen (p := ⟨b, o, none⟩) hl).trans (h3 o)⟩
theorem SdAt.far {w w' : World} {b g : Nat} {k a c : Int} (h : SdAt w b k a c) (hg : w.grownBy w' (some g)) (hne : b ≠ g) : SdAt w' b k a c := by
  obtain ⟨h0, h1, h2, h3⟩ := h
  have hl : b < w.heap.size := lt_of_cell (a := ⟨b, 0, none⟩) h0
  have hn : some b ≠ some g := fun e => hne (Option.some.inj e)
  exact ⟨(hg.cell_far ⟨b, 0, none⟩ hl hn).trans h0, (hg.cell_far ⟨b, 1, none⟩ hl hn).trans h1, (hg.cell_far ⟨b, 2, none⟩ hl hn).trans h2, fun o => (hg.frozen_far ⟨b, o, none⟩ hl hn).trans (h3 o)⟩
theorem SdAt.set {w : World} {b : Nat} {k a c : Int} (h : SdAt w b k a c) (k' a' c' : Int) : SdAt (((w.setCell ⟨b, 0, none⟩ (.int .i64 k')).setCell ⟨b, 1, none⟩ (.int .u64 a')).setCell ⟨b, 2, none⟩ (.int .u64 c')) b k' a' c' := by
  obtain ⟨h0, h1, h2, h3⟩ := h
  have e1 : (w.setCell ⟨b, 0, none⟩ (.int .i64 k')).cell? ⟨b, 1, none⟩ = some (.int .u64 a) := (World.cell?_setCell_other _ _ _ _ (by simp)).trans h1
  have e2 : ((w.setCell ⟨b, 0, none⟩ (.int .i64 k')).setCell ⟨b, 1, none⟩ (.int .u64 a')).cell? ⟨b, 2, none⟩ = some (.int .u64 c) := (World.cell?_setCell_other _ _ _ _ (by simp)).trans ((World.cell?_setCell_other _ _ _ _ (by simp)).trans h2)
  refine ⟨?_, ?_, World.cell?_setCell_same _ _ _ e2, fun o => by rw [World.frozen?_setCell, World.frozen?_setCell, World.frozen?_setCell]; exact h3 o⟩
  · exact (World.cell?_setCell_other _ _ _ _ (by simp)).trans ((World.cell?_setCell_other _ _ _ _ (by simp)).trans (World.cell?_setCell_same _ _ _ h0))
  · exact (World.cell?_setCell_other _ _ _ _ (by simp)).trans (World.cell?_setCell_same _ _ _ e1)
theorem SdAt.al {w : World} {b : Nat} {k a c : Int} (h : SdAt w b k a c) (o : Obj) : SdAt (w.alloc o) b k a c := h.keep (below_al (Below.refl _ _) _)
def mixY (x : Int) : Int := IntKind.u64.wrap (bits .xor .u64 x (x / 1073741824) * 13787848793156543929)
def mixZ (x : Int) : Int := IntKind.u64.wrap (bits .xor .u64 x (x / 134217728) * 10723151780598845931)
def mixF (x : Int) : Int := bits .xor .u64 (mixZ (mixY x)) (mixZ (mixY x) / 2147483648)
theorem l02Mix_any (x : Int) (w : World) : Calls Tryd.prog 28 #[.int .u64 x] w (fun e w' => e = .returned (.int .u64 (mixF x)) ∧ w' = w) := by
  go_enter Tryd.func28, Tryd.ntmps28
  go_wp2
  go_ret
  exact ⟨rfl, rfl⟩
theorem xor_range (x y : Int) : 0 ≤ bits .xor .u64 x y ∧ bits .xor .u64 x y < 18446744073709551616 := u64_range _
theorem or_range (x y : Int) : 0 ≤ bits .or .u64 x y ∧ bits .or .u64 x y < 18446744073709551616 := u64_range _
theorem SdAt.setA {w : World} {b : Nat} {k a c : Int} (h : SdAt w b k a c) (a' : Int) : SdAt (w.setCell ⟨b, 1, none⟩ (.int .u64 a')) b k a' c := by
  obtain ⟨h0, h1, h2, h3⟩ := h
  exact ⟨(World.cell?_setCell_other _ _ _ _ (by simp)).trans h0, World.cell?_setCell_same _ _ _ h1, (World.cell?_setCell_other _ _ _ _ (by simp)).trans h2, fun o => by rw [World.frozen?_setCell]; exact h3 o⟩
theorem SdAt.setB {w : World} {b : Nat} {k a c : Int} (h : SdAt w b k a c) (c' : Int) : SdAt (w.setCell ⟨b, 2, none⟩ (.int .u64 c')) b k a c' := by
  obtain ⟨h0, h1, h2, h3⟩ := h
  exact ⟨(World.cell?_setCell_other _ _ _ _ (by simp)).trans h0, (World.cell?_setCell_other _ _ _ _ (by simp)).trans h1, World.cell?_setCell_same _ _ _ h2, fun o => by rw [World.frozen?_setCell]; exact h3 o⟩

theorem ScTo.next {g : Nat} {A : Option Addr} {n c m m' : Nat} {w W W' : World} (h : ScTo g A n c m w W) (h' : ScTo g A n c m' W W') : ScTo g A n c m' w W' := ⟨grown_trans h.1 h'.1, h'.2⟩
theorem Sc.keep {w w' : World} {g : Nat} {A : Option Addr} {n c m : Nat} (h : Sc w g A n c m) (hb : Below w.heap.size w w') : Sc w' g A n c m := by
  have hl := h.lt
  obtain ⟨a, s, ha, hs, h0, h1, h2, hf, hr⟩ := h
  exact ⟨a, s, ha, hs, keepC hb h0, keepC hb h1, keepC hb h2, fun o => (hb.frozen (p := ⟨g, o, none⟩) hl).trans (hf o), fun i hi => by
    obtain ⟨b, off, v, e, hbg, hv, hc⟩ := hr i hi
    exact ⟨b, off, v, e, hbg, hv, keepC hb hc⟩⟩
theorem Sc.al {w : World} {g : Nat} {A : Option Addr} {n c m : Nat} (h : Sc w g A n c m) (o : Obj) : Sc (w.alloc o) g A n c m := h.keep (below_al (Below.refl _ _) _)
theorem Sc.far {w w' : World} {g k : Nat} {A : Option Addr} {n c m : Nat} (h : Sc w g A n c m) (hg : w.grownBy w' (some k)) (hk : g < k) : Sc w' g A n c m := by
  have hl := h.lt
  obtain ⟨a, s, ha, hs, h0, h1, h2, hf, hr⟩ := h
  have hn : ∀ b, b ≤ g → some b ≠ some k := fun b hb e => by injection e with e; omega
  exact ⟨a, s, ha, hs, (hg.cell_far ⟨g, 0, none⟩ hl (hn g (by omega))).trans h0, (hg.cell_far ⟨g, 1, none⟩ hl (hn g (by omega))).trans h1, (hg.cell_far ⟨g, 2, none⟩ hl (hn g (by omega))).trans h2, fun o => (hg.frozen_far ⟨g, o, none⟩ hl (hn g (by omega))).trans (hf o), fun i hi => by
    obtain ⟨b, off, v, e, hbg, hv, hc⟩ := hr i hi
    exact ⟨b, off, v, e, hbg, hv, (hg.cell_far ⟨b, off + i, none⟩ (by show b < _; omega) (hn b (by omega))).trans hc⟩⟩
def PickOut (g : Nat) (A : Option Addr) (n c m N : Nat) (w : World) (e : Ending) (w' : World) : Prop := ∃ v : Nat, v < N ∧ v ≤ 65535 ∧ e = .returned (.int .i64 v) ∧ ScTo g A n c (m + 2) w w'
set_option maxRecDepth 100000 in
set_option maxHeartbeats 3200000 in
theorem pick_any (g : Nat) (A : Option Addr) (n c m N : Nat) (w : World) (hn : n ≤ 1048576) (hm : m ≤ 1048570) (hN : 1 < N ∧ N ≤ 1000000) (h : Sc w g A n c m) :
    Calls Tryd.prog 14 #[.pointer (some ⟨g, 0, none⟩), .int .i64 N] w (PickOut g A n c m N w) := by
  have HX := Lib.hid fun m w hm h => srcNext_any g A n c m w hn hm h
  have H := Lib.hid h
  have hN1 : (1 : Int) < N := by omega
  unfold PickOut
  clear h
  by_cases hb : N ≤ 200
  · have hb' : (N : Int) ≤ 200 := by omega
    go_enter Tryd.func14, Tryd.ntmps14
    go_wp2_with fail
    refine (HX.out _ _ (by omega) H.out).mono ?_
    rintro e w1 ⟨v, hv, rfl, hs⟩
    have HS := Lib.hid hs
    clear hs
    go_wp2_with fail
    go_ret
    exact ⟨v % N, Nat.mod_lt _ (by omega), by have := Nat.mod_le v N; omega, rfl, HS.out.1, HS.out.2.le (by omega)⟩
  · have hb' : ¬ (N : Int) ≤ 200 := by omega
    go_enter Tryd.func14, Tryd.ntmps14
    go_wp2_with fail
    refine (HX.out _ _ (by omega) H.out).mono ?_
    rintro e w1 ⟨v, hv, rfl, hs⟩
    have HS := Lib.hid hs
    clear hs
    go_wp2_with fail
    refine (HX.out _ _ (by omega) HS.out.2).mono ?_
    rintro e w2 ⟨v2, hv2, rfl, hs⟩
    have HS2 := Lib.hid (HS.out.next hs)
    clear hs
    go_wp2_with fail
    go_ret
    refine ⟨(v * 256 + v2) % N, Nat.mod_lt _ (by omega), by have := Nat.mod_le (v * 256 + v2) N; omega, ?_, HS2.out.1, HS2.out.2.le (by omega)⟩
    rw [Int.natCast_emod, Int.natCast_add, Int.natCast_mul]
    rfl
set_option maxRecDepth 100000 in
set_option maxHeartbeats 3200000 in
theorem text_any (g : Nat) (A : Option Addr) (n c m : Nat) (w : World) (hn : n ≤ 1048576) (hm : m ≤ 1048570) (b : Nat) (T : Nat → ByteArray) (hT : ∀ i, i < 4 → w.cell? ⟨b, i, none⟩ = some (.string (T i))) (hbg : g < b) (h : Sc w g A n c m) :
    Calls Tryd.prog 15 #[.pointer (some ⟨g, 0, none⟩), .slice (some ⟨b, 0, none⟩) 4 4] w (fun e w' => ∃ i, i < 4 ∧ e = .returned (.string (T i)) ∧ ScTo g A n c (m + 2) w w') := by
  have HX := Lib.hid (pick_any g A n c m 4 w hn hm (by omega) h)
  unfold PickOut at HX
  have HT : Hid (∀ w' i, w.grownBy w' (some g) → i < 4 → w'.cell? ⟨b, i, none⟩ = some (.string (T i))) := Lib.hid fun w' i hg hi => (hg.cell_far ⟨b, i, none⟩ (lt_of_cell (a := ⟨b, i, none⟩) (hT i hi)) (fun e => by injection e with e; have e' : b = g := e; omega)).trans (hT i hi)
  clear h hT
  go_enter Tryd.func15, Tryd.ntmps15
  go_wp2_with fail
  refine HX.out.mono ?_
  rintro e w1 ⟨v, hv, _, rfl, hs⟩
  have HS := Lib.hid hs
  have hc := HT.out w1 v hs.1 hv
  clear hs
  go_wp2_with fail
  go_ret
  exact ⟨v, hv, rfl, HS.out⟩
theorem l00From_any (A : Option Addr) (n c : Nat) (w : World) (h : ∀ a, a < n → ∃ b off v, A = some ⟨b, off, none⟩ ∧ b < w.heap.size ∧ (v : Nat) ≤ 255 ∧ w.cell? ⟨b, off + a, none⟩ = some (.int .u8 (v : Nat))) :
    Calls Tryd.prog 13 #[.slice A n c] w (fun e w' => e = .returned (.pointer (some ⟨w.heap.size, 0, none⟩)) ∧ Below w.heap.size w w' ∧ w'.heap.size = w.heap.size + 1 ∧ Sc w' w.heap.size A n c 0) := by
  have H := Lib.hid h
  clear h
  go_enter Tryd.func13, Tryd.ntmps13
  go_wp2_with fail
  go_ret
  refine ⟨rfl, below_al (Below.refl _ _) _, by simp, 0, 0, Nat.le_refl _, by omega, by simp [go_sem], by simp [go_sem], by simp [go_sem], fun o => by simp [go_sem], fun i hi => ?_⟩
  obtain ⟨b, off, v, e, hb, hv, hc⟩ := H.out i hi
  exact ⟨b, off, v, e, hb, hv, keepC (below_al (Below.refl _ _) _) hc⟩
end Go.Proofs.YtckdbnnkabgopaaDoor
