/-
  Joined chains: spec.JoinChains.
-/
import Derived.Test.YtddaodjaeommlaaJoin
namespace Go.Proofs.Ytddaodjaeommlaa
open Go Go.RowKit Ieee
attribute [local go_sem] run_store_float

theorem stepOf_cell {w : World} {b off n i k : Nat} {xs : List Nat} (hl : xs.length = n * n) (hi : i < n) (hk : k < n) (hc : ∀ p (h : p < (fl xs).length), w.cell? ⟨b, off + p, none⟩ = some (fl xs)[p]) : w.cell? ⟨b, off + (i * n + k), none⟩ = some (.float .f32 (stepOf xs n i k)) := by
  have hlt : i * n + k < xs.length := by rw [hl]; exact idx_lt hi hk
  rw [hc _ (by rw [fl_len]; exact hlt)]
  unfold stepOf
  rw [List.getD_eq_getElem?_getD, List.getElem?_eq_getElem hlt]
  simp [fl]

set_option maxRecDepth 100000 in
set_option maxHeartbeats 3200000 in
theorem specJoinChains_bad (n : Int) (A : Option Addr) (xs : List Nat) (c : Nat) (m : Int) (B : Option Addr) (ys : List Nat) (d : Nat) (w : World) (hx : xs.length ≤ 9223372036854775807) (hy : ys.length ≤ 9223372036854775807) (hA : Rd w w.heap.size A (fl xs)) (hB : Rd w w.heap.size B (fl ys)) (hb : joinOk n xs m ys = false) :
    Calls Try.prog 45 #[.agg #[.int .i64 n, .slice A xs.length c], .agg #[.int .i64 m, .slice B ys.length d]] w (chOut 0 [] false w) := by
  have HIA := Lib.hid fun b w h0 h1 h2 => l07Is_any b n A xs c w hx h0 h1 h2
  have HIB := Lib.hid fun b w h0 h1 h2 => l07Is_any b m B ys d w hy h0 h1 h2
  unfold joinOk at hb
  cases hv : validB n xs with
  | false =>
    rw [hv] at HIA
    clear hb hv HIB
    go_enter Try.func45, Try.ntmps45
    go_wp2_with (go_at_call 95; refine (HIA.out _ _ (by simp [go_sem]) (by simp [go_sem]) (hA.at_ (by repeat (first | exact Below.refl _ _ | refine Below.alloc ?_ (by first | (simp; done) | (simp; omega)) _)))).mono ?_; rintro e w1 ⟨rfl, m1, rfl⟩)
    refine bodyPost_ret (v := .tuple #[.agg #[.int .i64 0, .slice none 0 0], .bool false]) (by simp [results, Try.results45, go_sem]) rfl (chOut_none rfl ?_)
    repeat (first | exact Below.refl _ _ | refine below_drewN ?_ _ | refine Below.setCell ?_ (by first | omega | (simp; done) | (simp; omega)) _ | refine Below.alloc ?_ (by first | omega | (simp; done) | (simp; omega)) _)
  | true =>
    rw [hv] at HIA hb
    cases hv2 : validB m ys with
    | false =>
      rw [hv2] at HIB
      clear hb hv hv2
      go_enter Try.func45, Try.ntmps45
      go_wp2_with fail
      generalize hW0 : World.alloc (World.alloc (World.alloc _ _) _) _ = W0
      have a0 : W0.cell? ⟨w.heap.size, 0, none⟩ = some (.int .i64 n) := by rw [← hW0]; simp [go_sem]
      have a1 : W0.cell? ⟨w.heap.size, 1, none⟩ = some (.slice A xs.length c) := by rw [← hW0]; simp [go_sem]
      have a2 : W0.cell? ⟨w.heap.size + 1, 0, none⟩ = some (.int .i64 m) := by rw [← hW0]; simp [go_sem]
      have a3 : W0.cell? ⟨w.heap.size + 1, 1, none⟩ = some (.slice B ys.length d) := by rw [← hW0]; simp [go_sem]
      have a4 : W0.cell? ⟨w.heap.size + 1 + 1, 0, none⟩ = some (.int .i64 0) := by rw [← hW0]; simp [go_sem]
      have a5 : W0.cell? ⟨w.heap.size + 1 + 1, 1, none⟩ = some (.slice none 0 0) := by rw [← hW0]; simp [go_sem]
      have af : ∀ o, W0.frozen? ⟨w.heap.size + 1 + 1, o, none⟩ = false := fun o => by rw [← hW0]; simp [go_sem]
      have hB0 : Below w.heap.size w W0 := by rw [← hW0]; repeat (first | exact Below.refl _ _ | refine Below.alloc ?_ (by first | (simp; done) | (simp; omega)) _)
      have HB0 := Lib.hid hB0
      clear hW0 hB0
      refine (HIA.out _ _ a0 a1 (hA.at_ HB0.out)).mono ?_
      rintro e w1 ⟨rfl, m1, rfl⟩
      go_wp2_with (go_at_call 95; refine (HIB.out _ _ (by simp [a2]) (by simp [a3]) ((hB.at_ HB0.out).drewN m1)).mono ?_; rintro e w2 ⟨rfl, m2, rfl⟩)
      refine bodyPost_ret (v := .tuple #[.agg #[.int .i64 0, .slice none 0 0], .bool false]) (by simp [results, Try.results45, go_sem, a4, a5]) rfl (chOut_none rfl ?_)
      exact ((below_drewN HB0.out _).setCell (by simp; omega) _).setCell (by simp; omega) _
    | true =>
      rw [hv2] at HIB hb
      have hne : n ≠ m := by simpa using hb
      clear hb hv hv2
      go_enter Try.func45, Try.ntmps45
      go_wp2_with fail
      generalize hW0 : World.alloc (World.alloc (World.alloc _ _) _) _ = W0
      have a0 : W0.cell? ⟨w.heap.size, 0, none⟩ = some (.int .i64 n) := by rw [← hW0]; simp [go_sem]
      have a1 : W0.cell? ⟨w.heap.size, 1, none⟩ = some (.slice A xs.length c) := by rw [← hW0]; simp [go_sem]
      have a2 : W0.cell? ⟨w.heap.size + 1, 0, none⟩ = some (.int .i64 m) := by rw [← hW0]; simp [go_sem]
      have a3 : W0.cell? ⟨w.heap.size + 1, 1, none⟩ = some (.slice B ys.length d) := by rw [← hW0]; simp [go_sem]
      have a4 : W0.cell? ⟨w.heap.size + 1 + 1, 0, none⟩ = some (.int .i64 0) := by rw [← hW0]; simp [go_sem]
      have a5 : W0.cell? ⟨w.heap.size + 1 + 1, 1, none⟩ = some (.slice none 0 0) := by rw [← hW0]; simp [go_sem]
      have af : ∀ o, W0.frozen? ⟨w.heap.size + 1 + 1, o, none⟩ = false := fun o => by rw [← hW0]; simp [go_sem]
      have hB0 : Below w.heap.size w W0 := by rw [← hW0]; repeat (first | exact Below.refl _ _ | refine Below.alloc ?_ (by first | (simp; done) | (simp; omega)) _)
      have HB0 := Lib.hid hB0
      clear hW0 hB0
      refine (HIA.out _ _ a0 a1 (hA.at_ HB0.out)).mono ?_
      rintro e w1 ⟨rfl, m1, rfl⟩
      go_wp2_with (go_at_call 95; refine (HIB.out _ _ (by simp [a2]) (by simp [a3]) ((hB.at_ HB0.out).drewN m1)).mono ?_; rintro e w2 ⟨rfl, m2, rfl⟩)
      refine bodyPost_ret (v := .tuple #[.agg #[.int .i64 0, .slice none 0 0], .bool false]) (by simp [results, Try.results45, go_sem, a4, a5]) rfl (chOut_none rfl ?_)
      exact ((below_drewN HB0.out _).setCell (by simp; omega) _).setCell (by simp; omega) _
