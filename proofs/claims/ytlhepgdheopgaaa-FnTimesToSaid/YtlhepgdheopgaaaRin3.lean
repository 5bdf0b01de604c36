/-
  Rings: impl.RingChain and spec.RingChain.
  Rings: spec.RingChain.
  Rings: spec.RingChain, the way that gives a chain.
-/
import Derived.Test.YtlhepgdheopgaaaGive
import Derived.Deep.OwnRows
import Derived.Deep.RegionHeld3
import Derived.RegionTactic
import Derived.ChangeAlike
namespace Go.Proofs.Ytlhepgdheopgaaa
open Go Go.RowKit Ieee

attribute [local go_sem] run_store_float
def ringF (n s r l i k : Nat) : Nat := if (k + n - i) % n = 0 then s else if (k + n - i) % n = 1 then r else if (k + n - i) % n = n - 1 then l else 0

set_option maxHeartbeats 1600000 in
theorem ringClo (n i k b0 b1 b2 b3 s r l : Nat) (w : World) (hn : 3 ≤ n) (hn2 : n ≤ 12) (hi : i < n) (hk : k < n) (h0 : w.cell? ⟨b0, 0, none⟩ = some (.int .i64 n)) (h1 : w.cell? ⟨b1, 0, none⟩ = some (.float .f32 s)) (h2 : w.cell? ⟨b2, 0, none⟩ = some (.float .f32 r)) (h3 : w.cell? ⟨b3, 0, none⟩ = some (.float .f32 l)) :
    Calls Try.prog 62 #[.int .i64 i, .int .i64 k, .pointer (some ⟨b0, 0, none⟩), .pointer (some ⟨b1, 0, none⟩), .pointer (some ⟨b2, 0, none⟩), .pointer (some ⟨b3, 0, none⟩)] w (Quiet (.float .f32 (ringF n s r l i k)) w) := by
  have hd : ((k : Int) - i + n).tmod n = ((k + n - i) % n : Nat) := by
    rw [show (k : Int) - i + n = ((k + n - i : Nat) : Int) by omega, Int.tmod_eq_emod_of_nonneg (by omega)]
    rfl
  have hF : Hid (ringF n s r l i k = if (k + n - i) % n = 0 then s else if (k + n - i) % n = 1 then r else if (k + n - i) % n = n - 1 then l else 0) := rfl
  have hlt : (k + n - i) % n < n := Nat.mod_lt _ (by omega)
  generalize (k + n - i) % n = d at *
  go_enter Try.func62, Try.ntmps62
  by_cases e0 : d = 0
  · subst e0
    have hR : Hid (ringF n s r l i k = s) := by rw [Hid, hF.out]; rfl
    go_wp2
    go_ret
    rw [hR.out]
    exact .mk0
  · by_cases e1 : d = 1
    · subst e1
      have hR : Hid (ringF n s r l i k = r) := by rw [Hid, hF.out]; rfl
      go_wp2
      go_ret
      rw [hR.out]
      exact .mk0
    · by_cases e2 : d = n - 1
      · have hR : Hid (ringF n s r l i k = l) := by rw [Hid, hF.out, if_neg e0, if_neg e1, if_pos e2]
        subst e2
        go_wp2
        go_ret
        rw [hR.out]
        exact .mk0
      · have hR : Hid (ringF n s r l i k = 0) := by rw [Hid, hF.out, if_neg e0, if_neg e1, if_neg e2]
        go_wp2
        go_ret
        rw [hR.out]
        exact .mk0
theorem Rd_two (w : World) (s r : Nat) (t : TypeId) (g : Nat) (hg : w.heap.size = g) : Rd (w.alloc (.cells #[.float .f32 s, .float .f32 r] t)) (w.alloc (.cells #[.float .f32 s, .float .f32 r] t)).heap.size (some ⟨g, 0, none⟩) (fl [s, r]) := fun _ => by
  subst hg
  refine ⟨_, _, rfl, by simp, fun k hk => ?_⟩
  rw [World.cell?_alloc_new]
  match k, hk with
  | 0, _ => rfl
  | 1, _ => rfl

theorem below_step (o : World) (m : Nat) (x : Obj) : Below o.heap.size o ((o.drewN m).alloc x) := (below_drewN (Below.refl _ _) m).alloc (Nat.le_refl _) x
def leftB (s r : Nat) : Nat := fsub (fsub 1065353216 s) r
def ringOk (n : Int) (s r : Nat) : Bool := inB n 3 12 && (partB s && partB r && (FloatKind.f32.format.order (leftB s r) 0 == some .gt || FloatKind.f32.format.order (leftB s r) 0 == some .eq))

set_option maxRecDepth 100000 in
set_option maxHeartbeats 3200000 in
theorem RingChain_bad (n : Int) (s r : Nat) (w : World) (hb : ringOk n s r = false) : Calls Try.prog 25 #[.int .i64 n, .float .f32 s, .float .f32 r] w (chOut 0 [] false w) := by
  have HW := Lib.hid fun w => within_any n 3 12 w
  have HP : Hid (∀ A w, Rd w w.heap.size A (fl [s, r]) → Calls Try.prog 54 #[.slice A 2 2] w (Quiet (.bool (([s, r] : List Nat).all partB)) w)) := fun A w h => areParts_any A [s, r] 2 w (by simp) h
  unfold ringOk at hb
  cases hin : inB n 3 12 with
  | false =>
    rw [hin] at HW
    clear hb hin HP
    go_enter Try.func25, Try.ntmps25
    go_wp2_with (first
      | (refine wpList_float_any _ rfl .sub (by simp) _ _ _ _ rfl .f32 1065353216 s (by rfl) (by rfl) ?_; intro r1 m1 hr1)
      | (refine wpList_float_any _ rfl .sub (by simp) _ _ _ _ rfl .f32 _ r (by rfl) (by rfl) ?_
         intro left m2 hl2
         generalize hW2 : World.drewN _ m2 = W2
         have c0 : W2.cell? ⟨w.heap.size, 0, none⟩ = some (.int .i64 n) := by rw [← hW2]; simp [go_sem]
         have c1 : W2.cell? ⟨w.heap.size + 1, 0, none⟩ = some (.float .f32 s) := by rw [← hW2]; simp [go_sem]
         have c2 : W2.cell? ⟨w.heap.size + 1 + 1, 0, none⟩ = some (.float .f32 r) := by rw [← hW2]; simp [go_sem]
         have c3 : W2.cell? ⟨w.heap.size + 1 + 1 + 1, 0, none⟩ = some (.int .i64 0) := by rw [← hW2]; simp [go_sem]
         have c4 : W2.cell? ⟨w.heap.size + 1 + 1 + 1, 1, none⟩ = some (.slice none 0 0) := by rw [← hW2]; simp [go_sem]
         have c5 : ∀ o, W2.frozen? ⟨w.heap.size + 1 + 1 + 1, o, none⟩ = false := fun o => by rw [← hW2]; simp [go_sem]
         have hz : w.heap.size + 1 + 1 + 1 < W2.heap.size := by rw [← hW2]; simp
         have hz2 : w.heap.size + 1 + 1 < W2.heap.size := by omega
         have hz1 : w.heap.size + 1 < W2.heap.size := by omega
         have hz0 : w.heap.size < W2.heap.size := by omega
         have HB2 : Hid (Below w.heap.size w W2) := by rw [Hid, ← hW2]; repeat (first | exact Below.refl _ _ | refine below_drewN ?_ _ | refine Below.alloc ?_ (by simp; try omega) _)
         clear hW2)
      | (go_at_call 51; refine (HW.out _).mono ?_; rintro e w1 ⟨rfl, m, rfl⟩))
    refine bodyPost_ret (v := .tuple #[.agg #[.int .i64 0, .slice none 0 0], .bool false]) (by simp [results, Try.results25, go_sem, c3, c4, hz]) rfl (chOut_none rfl ?_)
    have hb := HB2.out
    repeat (first | exact hb | refine below_drewN ?_ _ | refine Below.setCell ?_ (by first | omega | (simp; omega)) _ | refine Below.alloc ?_ (by first | omega | (simp; omega)) _)
  | true =>
    rw [hin] at HW hb
    cases hp : (partB s && partB r) with
    | false =>
      have HP2 : Hid (([s, r] : List Nat).all partB = false) := by simpa [Hid] using hp
      rw [HP2.out] at HP
      clear hb hin hp HP2
      go_enter Try.func25, Try.ntmps25
      go_wp2_with (first
      | (refine wpList_float_any _ rfl .sub (by simp) _ _ _ _ rfl .f32 1065353216 s (by rfl) (by rfl) ?_; intro r1 m1 hr1)
      | (refine wpList_float_any _ rfl .sub (by simp) _ _ _ _ rfl .f32 _ r (by rfl) (by rfl) ?_
         intro left m2 hl2
         generalize hW2 : World.drewN _ m2 = W2
         have c0 : W2.cell? ⟨w.heap.size, 0, none⟩ = some (.int .i64 n) := by rw [← hW2]; simp [go_sem]
         have c1 : W2.cell? ⟨w.heap.size + 1, 0, none⟩ = some (.float .f32 s) := by rw [← hW2]; simp [go_sem]
         have c2 : W2.cell? ⟨w.heap.size + 1 + 1, 0, none⟩ = some (.float .f32 r) := by rw [← hW2]; simp [go_sem]
         have c3 : W2.cell? ⟨w.heap.size + 1 + 1 + 1, 0, none⟩ = some (.int .i64 0) := by rw [← hW2]; simp [go_sem]
         have c4 : W2.cell? ⟨w.heap.size + 1 + 1 + 1, 1, none⟩ = some (.slice none 0 0) := by rw [← hW2]; simp [go_sem]
         have c5 : ∀ o, W2.frozen? ⟨w.heap.size + 1 + 1 + 1, o, none⟩ = false := fun o => by rw [← hW2]; simp [go_sem]
         have hz : w.heap.size + 1 + 1 + 1 < W2.heap.size := by rw [← hW2]; simp
         have hz2 : w.heap.size + 1 + 1 < W2.heap.size := by omega
         have hz1 : w.heap.size + 1 < W2.heap.size := by omega
         have hz0 : w.heap.size < W2.heap.size := by omega
         have HB2 : Hid (Below w.heap.size w W2) := by rw [Hid, ← hW2]; repeat (first | exact Below.refl _ _ | refine below_drewN ?_ _ | refine Below.alloc ?_ (by simp; try omega) _)
         clear hW2)
      | (go_at_call 51; refine (HW.out _).mono ?_; rintro e w1 ⟨rfl, m, rfl⟩)
      | (go_at_call 54
         refine (HP.out _ _ (Rd_two _ s r _ _ (by simp))).mono ?_
         rintro e w5 hq
         have hA : Below (W2.alloc (.cells #[.float .f32 left] 31)).heap.size (W2.alloc (.cells #[.float .f32 left] 31)) w5 := Below.trans (below_step _ m _) (hq.below.2.mono (by simp))
         obtain ⟨rfl, m5, hw5⟩ := hq
         clear hw5
         have hA2 : Below W2.heap.size W2 w5 := Below.trans ((Below.refl _ _).alloc (Nat.le_refl _) _) (hA.mono (by simp))
         have d0 := keepC hA2 c0
         have d1 := keepC hA2 c1
         have d2 := keepC hA2 c2
         have d3 := keepC hA2 c3
         have d4 := keepC hA2 c4
         have d5 : ∀ o, w5.frozen? ⟨w.heap.size + 1 + 1 + 1, o, none⟩ = false := fun o => (hA2.frozen (p := ⟨_, o, none⟩) hz).trans (c5 o)
         have d8 : w5.cell? ⟨W2.heap.size, 0, none⟩ = some (.float .f32 left) := keepC hA (by simp)
         have z5 : W2.heap.size < w5.heap.size := by have := hA.size; simp at this; omega
         have HB5 := Lib.hid (HB2.out.trans (hA2.mono (by omega)))
         clear hA hA2 c0 c1 c2 c3 c4 c5))
      refine bodyPost_ret (v := .tuple #[.agg #[.int .i64 0, .slice none 0 0], .bool false]) (by simp [results, Try.results25, go_sem, d3, d4]) rfl (chOut_none rfl ?_)
      exact (HB5.out.setCell (by simp; omega) _).setCell (by simp; omega) _
    | true =>
      have HP2 : Hid (([s, r] : List Nat).all partB = true) := by simpa [Hid] using hp
      rw [HP2.out] at HP
      rw [hp] at hb
      obtain ⟨hs, hr⟩ : partB s = true ∧ partB r = true := by simpa using hp
      have e1' := (fsub_run one_notNan (part_key hs).2.2.2)
      have e2 := (fsub_run e1'.2 (part_key hr).2.2.2).1
      have e1 := e1'.1
      have hb2 : (FloatKind.f32.format.order (leftB s r) 0 == some .gt || FloatKind.f32.format.order (leftB s r) 0 == some .eq) = false := by simpa using hb
      have HB := Lib.hid hb2
      clear hb hb2 hin hp HP2 hs hr e1'
      go_enter Try.func25, Try.ntmps25
      go_wp2_with (first
      | (refine wpList_float_any _ rfl .sub (by simp) _ _ _ _ rfl .f32 1065353216 s (by rfl) (by rfl) ?_; intro r1 m1 hr1; obtain rfl := hr1 _ e1)
      | (refine wpList_float_any _ rfl .sub (by simp) _ _ _ _ rfl .f32 _ r (by rfl) (by rfl) ?_
         intro left m2 hl2
         have hl := hl2 _ e2
         clear hl2
         have HL : Hid (left = leftB s r) := hl
         clear hl
         have hge := HB.out
         rw [← HL.out] at hge
         generalize hW2 : World.drewN _ m2 = W2
         have c0 : W2.cell? ⟨w.heap.size, 0, none⟩ = some (.int .i64 n) := by rw [← hW2]; simp [go_sem]
         have c1 : W2.cell? ⟨w.heap.size + 1, 0, none⟩ = some (.float .f32 s) := by rw [← hW2]; simp [go_sem]
         have c2 : W2.cell? ⟨w.heap.size + 1 + 1, 0, none⟩ = some (.float .f32 r) := by rw [← hW2]; simp [go_sem]
         have c3 : W2.cell? ⟨w.heap.size + 1 + 1 + 1, 0, none⟩ = some (.int .i64 0) := by rw [← hW2]; simp [go_sem]
         have c4 : W2.cell? ⟨w.heap.size + 1 + 1 + 1, 1, none⟩ = some (.slice none 0 0) := by rw [← hW2]; simp [go_sem]
         have c5 : ∀ o, W2.frozen? ⟨w.heap.size + 1 + 1 + 1, o, none⟩ = false := fun o => by rw [← hW2]; simp [go_sem]
         have hz : w.heap.size + 1 + 1 + 1 < W2.heap.size := by rw [← hW2]; simp
         have hz2 : w.heap.size + 1 + 1 < W2.heap.size := by omega
         have hz1 : w.heap.size + 1 < W2.heap.size := by omega
         have hz0 : w.heap.size < W2.heap.size := by omega
         have HB2 : Hid (Below w.heap.size w W2) := by rw [Hid, ← hW2]; repeat (first | exact Below.refl _ _ | refine below_drewN ?_ _ | refine Below.alloc ?_ (by simp; try omega) _)
         clear hW2)
      | (go_at_call 51; refine (HW.out _).mono ?_; rintro e w1 ⟨rfl, m, rfl⟩)
      | (go_at_call 54
         refine (HP.out _ _ (Rd_two _ s r _ _ (by simp))).mono ?_
         rintro e w5 hq
         have hA : Below (W2.alloc (.cells #[.float .f32 left] 31)).heap.size (W2.alloc (.cells #[.float .f32 left] 31)) w5 := Below.trans (below_step _ m _) (hq.below.2.mono (by simp))
         obtain ⟨rfl, m5, hw5⟩ := hq
         clear hw5
         have hA2 : Below W2.heap.size W2 w5 := Below.trans ((Below.refl _ _).alloc (Nat.le_refl _) _) (hA.mono (by simp))
         have d0 := keepC hA2 c0
         have d1 := keepC hA2 c1
         have d2 := keepC hA2 c2
         have d3 := keepC hA2 c3
         have d4 := keepC hA2 c4
         have d5 : ∀ o, w5.frozen? ⟨w.heap.size + 1 + 1 + 1, o, none⟩ = false := fun o => (hA2.frozen (p := ⟨_, o, none⟩) hz).trans (c5 o)
         have d8 : w5.cell? ⟨W2.heap.size, 0, none⟩ = some (.float .f32 left) := keepC hA (by simp)
         have z5 : W2.heap.size < w5.heap.size := by have := hA.size; simp at this; omega
         have HB5 := Lib.hid (HB2.out.trans (hA2.mono (by omega)))
         clear hA hA2 c0 c1 c2 c3 c4 c5))
      refine bodyPost_ret (v := .tuple #[.agg #[.int .i64 0, .slice none 0 0], .bool false]) (by simp [results, Try.results25, go_sem, d3, d4]) rfl (chOut_none rfl ?_)
      exact (HB5.out.setCell (by simp; omega) _).setCell (by simp; omega) _

set_option maxRecDepth 100000 in
set_option maxHeartbeats 3200000 in
theorem RingChain_ok (n : Nat) (s r : Nat) (w : World) (hok : ringOk n s r = true) : Calls Try.prog 25 #[.int .i64 n, .float .f32 s, .float .f32 r] w (chGive n (tab n (ringF n s r (leftB s r))) w) := by
  have HW := Lib.hid fun w => within_any n 3 12 w
  have HP : Hid (∀ A w, Rd w w.heap.size A (fl [s, r]) → Calls Try.prog 54 #[.slice A 2 2] w (Quiet (.bool (([s, r] : List Nat).all partB)) w)) := fun A w h => areParts_any A [s, r] 2 w (by simp) h
  unfold ringOk at hok
  rw [Bool.and_eq_true, Bool.and_eq_true] at hok
  obtain ⟨hin, hp, hge0⟩ := hok
  rw [hin] at HW
  have hn : 3 ≤ n ∧ n ≤ 12 := by have := of_decide_eq_true hin; omega
  have HP2 : Hid (([s, r] : List Nat).all partB = true) := by simpa [Hid] using hp
  rw [HP2.out] at HP
  obtain ⟨hs, hr⟩ : partB s = true ∧ partB r = true := by simpa using hp
  have e1' := (fsub_run one_notNan (part_key hs).2.2.2)
  have e2 := (fsub_run e1'.2 (part_key hr).2.2.2).1
  have e1 := e1'.1
  have HB := Lib.hid hge0
  have HCB : Hid (∀ W b0 b1 b2 b3, W.cell? ⟨b0, 0, none⟩ = some (.int .i64 n) → W.cell? ⟨b1, 0, none⟩ = some (.float .f32 s) → W.cell? ⟨b2, 0, none⟩ = some (.float .f32 r) → W.cell? ⟨b3, 0, none⟩ = some (.float .f32 (leftB s r)) →
      Calls Try.prog 37 #[.int .i64 n, .func (.func 62) #[] #[.pointer (some ⟨b0, 0, none⟩), .pointer (some ⟨b1, 0, none⟩), .pointer (some ⟨b2, 0, none⟩), .pointer (some ⟨b3, 0, none⟩)]] W (chGive n (tab n (ringF n s r (leftB s r))) W)) := fun W b0 b1 b2 b3 h0 h1 h2 h3 =>
    (chainByRing n _ _ _ _ (ringF n s r (leftB s r)) W (by omega) hn.2 fun W' hW i k hi hk => (ringClo n i k b0 b1 b2 b3 s r (leftB s r) W' hn.1 hn.2 hi hk (keepC hW h0) (keepC hW h1) (keepC hW h2) (keepC hW h3)).mono fun e W2 hq => ⟨hq.1, hq.below.2⟩).mono fun e W2 h => h.out
  unfold chGive at HCB ⊢
  generalize sideOf n (tab n (ringF n s r (leftB s r))) = sd at *
  generalize stepsOf n (tab n (ringF n s r (leftB s r))) = xs at *
  generalize validB n (tab n (ringF n s r (leftB s r))) = ok at *
  clear hin hp hge0 HP2 hs hr e1'
  go_enter Try.func25, Try.ntmps25
  go_wp2_with (first
      | (refine wpList_float_any _ rfl .sub (by simp) _ _ _ _ rfl .f32 1065353216 s (by rfl) (by rfl) ?_; intro r1 m1 hr1; obtain rfl := hr1 _ e1)
      | (refine wpList_float_any _ rfl .sub (by simp) _ _ _ _ rfl .f32 _ r (by rfl) (by rfl) ?_
         intro left m2 hl2
         have hl := hl2 _ e2
         clear hl2
         have HL : Hid (left = leftB s r) := hl
         clear hl
         have hge := HB.out
         rw [← HL.out] at hge HCB
         generalize hW2 : World.drewN _ m2 = W2
         have c0 : W2.cell? ⟨w.heap.size, 0, none⟩ = some (.int .i64 n) := by rw [← hW2]; simp [go_sem]
         have c1 : W2.cell? ⟨w.heap.size + 1, 0, none⟩ = some (.float .f32 s) := by rw [← hW2]; simp [go_sem]
         have c2 : W2.cell? ⟨w.heap.size + 1 + 1, 0, none⟩ = some (.float .f32 r) := by rw [← hW2]; simp [go_sem]
         have c3 : W2.cell? ⟨w.heap.size + 1 + 1 + 1, 0, none⟩ = some (.int .i64 0) := by rw [← hW2]; simp [go_sem]
         have c4 : W2.cell? ⟨w.heap.size + 1 + 1 + 1, 1, none⟩ = some (.slice none 0 0) := by rw [← hW2]; simp [go_sem]
         have c5 : ∀ o, W2.frozen? ⟨w.heap.size + 1 + 1 + 1, o, none⟩ = false := fun o => by rw [← hW2]; simp [go_sem]
         have hz : w.heap.size + 1 + 1 + 1 < W2.heap.size := by rw [← hW2]; simp
         have hz2 : w.heap.size + 1 + 1 < W2.heap.size := by omega
         have hz1 : w.heap.size + 1 < W2.heap.size := by omega
         have hz0 : w.heap.size < W2.heap.size := by omega
         have HB2 : Hid (Below w.heap.size w W2) := by rw [Hid, ← hW2]; repeat (first | exact Below.refl _ _ | refine below_drewN ?_ _ | refine Below.alloc ?_ (by simp; try omega) _)
         clear hW2)
      | (go_at_call 51; refine (HW.out _).mono ?_; rintro e w1 ⟨rfl, m, rfl⟩)
      | (go_at_call 54
         refine (HP.out _ _ (Rd_two _ s r _ _ (by simp))).mono ?_
         rintro e w5 hq
         have hA : Below (W2.alloc (.cells #[.float .f32 left] 31)).heap.size (W2.alloc (.cells #[.float .f32 left] 31)) w5 := Below.trans (below_step _ m _) (hq.below.2.mono (by simp))
         obtain ⟨rfl, m5, hw5⟩ := hq
         clear hw5
         have hA2 : Below W2.heap.size W2 w5 := Below.trans ((Below.refl _ _).alloc (Nat.le_refl _) _) (hA.mono (by simp))
         have d0 := keepC hA2 c0
         have d1 := keepC hA2 c1
         have d2 := keepC hA2 c2
         have d3 := keepC hA2 c3
         have d4 := keepC hA2 c4
         have d5 : ∀ o, w5.frozen? ⟨w.heap.size + 1 + 1 + 1, o, none⟩ = false := fun o => (hA2.frozen (p := ⟨_, o, none⟩) hz).trans (c5 o)
         have d8 : w5.cell? ⟨W2.heap.size, 0, none⟩ = some (.float .f32 left) := keepC hA (by simp)
         have z5 : W2.heap.size < w5.heap.size := by have := hA.size; simp at this; omega
         have HB5 := Lib.hid (HB2.out.trans (hA2.mono (by omega)))
         clear hA hA2 c0 c1 c2 c3 c4 c5)
      | (go_at_call 37
         refine (HCB.out _ _ _ _ _ d0 d1 d2 d8).mono ?_
         rintro e w6 ⟨A, c, rfl, hown, hb6⟩
         have f3 := keepC hb6 d3
         have f4 := keepC hb6 d4
         have f5 : ∀ o, w6.frozen? ⟨w.heap.size + 1 + 1 + 1, o, none⟩ = false := fun o => (hb6.frozen (p := ⟨_, o, none⟩) (by show w.heap.size + 1 + 1 + 1 < w5.heap.size; omega)).trans (d5 o)
         skip))
  refine bodyPost_ret (v := .tuple #[.agg #[.int .i64 sd, .slice A xs.length c], .bool ok]) (by simp [results, Try.results25, go_sem, f3, f4]) rfl ⟨A, c, rfl, ?_, ?_⟩
  · exact own_base (ownsRow_setCell_below (ownsRow_setCell_below hown (by simp; omega) _) (by simp; omega) _) (by omega)
  · exact ((HB5.out.trans (hb6.mono (by omega))).setCell (by simp; omega) _).setCell (by simp; omega) _
end Go.Proofs.Ytlhepgdheopgaaa

namespace Go.Proofs.Ytlhepgdheopgaaa
open Go Go.RowKit Ieee
attribute [local go_sem] run_store_float

def ringTo (n s r l i p : Nat) : Nat := if p / n < i then ringF n s r l (p / n) (p % n) else 0
theorem mod_sub {n i b : Nat} (hi : i < n) (hb : b < n) : (b + n - i) % n = if i ≤ b then b - i else b + n - i := by
  split
  · rw [show b + n - i = (b - i) + n by omega, Nat.add_mod_right, Nat.mod_eq_of_lt (by omega)]
  · rw [Nat.mod_eq_of_lt (by omega)]
theorem mod_up {n i : Nat} (hi : i < n) : (i + 1) % n = if i + 1 < n then i + 1 else 0 := by
  split
  · rw [Nat.mod_eq_of_lt (by omega)]
  · rw [show i + 1 = n by omega, Nat.mod_self]
theorem mod_down {n i : Nat} (hi : i < n) : (i + n - 1) % n = if 1 ≤ i then i - 1 else n - 1 := by
  split
  · rw [show i + n - 1 = (i - 1) + n by omega, Nat.add_mod_right, Nat.mod_eq_of_lt (by omega)]
  · rw [Nat.mod_eq_of_lt (by omega)]; omega
theorem at_row {n p i k : Nat} (hk : k < n) : p = i * n + k ↔ p / n = i ∧ p % n = k := by
  constructor
  · rintro rfl
    constructor
    · rw [Nat.mul_comm, Nat.mul_add_div (by omega), Nat.div_eq_of_lt hk, Nat.add_zero]
    · rw [Nat.mul_comm, Nat.mul_add_mod, Nat.mod_eq_of_lt hk]
  · rintro ⟨rfl, rfl⟩
    rw [Nat.mul_comm]
    exact (Nat.div_add_mod p n).symm
theorem ringTo_step {n s r l i : Nat} (hn : 3 ≤ n) (hi : i < n) (p : Nat) :
    (if p = i * n + (i + n - 1) % n then l else if p = i * n + (i + 1) % n then r else if p = i * n + i then s else ringTo n s r l i p) = ringTo n s r l (i + 1) p := by
  have h1 : (i + n - 1) % n < n := Nat.mod_lt _ (by omega)
  have h2 : (i + 1) % n < n := Nat.mod_lt _ (by omega)
  have hb : p % n < n := Nat.mod_lt _ (by omega)
  simp only [at_row h1, at_row h2, at_row hi]
  simp only [mod_up hi, mod_down hi]
  unfold ringTo ringF
  by_cases ha : p / n = i
  · rw [ha, mod_sub hi hb]
    generalize p % n = b at *
    clear h1 h2
    simp only [true_and, Nat.lt_irrefl, if_false, show i < i + 1 by omega, if_true]
    repeat' split
    all_goals first | rfl | omega
  · have h3 : (p / n < i + 1) = (p / n < i) := by
      apply propext
      omega
    simp only [ha, false_and, if_false, h3]
theorem ringTo_all {n s r l : Nat} (_hn : 3 ≤ n) : (List.range (n * n)).map (ringTo n s r l n) = tab n (ringF n s r l) := by
  unfold tab tabTo
  refine List.map_congr_left fun p hp => ?_
  have h1 : p / n < n := Nat.div_lt_of_lt_mul (List.mem_range.1 hp)
  unfold ringTo
  rw [if_pos h1]

def RS (W0 : World) (G n s r l i : Nat) (wr : World) : Prop :=
  Below (G + 1) W0 wr ∧ wr.cell? ⟨G + 2, 0, none⟩ = some (.int .i64 n) ∧ wr.cell? ⟨G + 2, 1, none⟩ = some (.slice (some ⟨G + 1, 0, none⟩) (n * n) (n * n)) ∧ wr.rowIs (G + 1) 31 (n * n) (fun p => .float .f32 (ringTo n s r l i p))
/-- a store into the row -/
theorem RS_set {W0 wr : World} {G m : Nat} {f : Nat → Value} {x y : Value} (h1 : Below (G + 1) W0 wr) (h2 : wr.cell? ⟨G + 2, 0, none⟩ = some x) (h3 : wr.cell? ⟨G + 2, 1, none⟩ = some y) (h4 : wr.rowIs (G + 1) 31 m f) (i : Nat) (v : Value) :
    Below (G + 1) W0 (wr.setCell ⟨G + 1, i, none⟩ v) ∧ (wr.setCell ⟨G + 1, i, none⟩ v).cell? ⟨G + 2, 0, none⟩ = some x ∧ (wr.setCell ⟨G + 1, i, none⟩ v).cell? ⟨G + 2, 1, none⟩ = some y ∧ (wr.setCell ⟨G + 1, i, none⟩ v).rowIs (G + 1) 31 m (fun j => if j = i then v else f j) :=
  ⟨h1.setCell (Nat.le_refl _) _, (World.cell?_setCell_other _ _ _ _ (by simp)).trans h2, (World.cell?_setCell_other _ _ _ _ (by simp)).trans h3, h4.set i v⟩
theorem own_of_row {w : World} {g base m : Nat} {f : Nat → Value} (h : w.rowIs g 31 m f) (hb : base ≤ g) (hm : m ≤ maxLen) : w.ownsRow base 31 1 (.slice (some ⟨g, 0, none⟩) m m) m ((List.range m).map f) := by
  obtain ⟨c, h1, h2, h3⟩ := h
  refine ⟨by simp, .inr ⟨g, m, c, rfl, hb, h1, Nat.le_refl _, hm, by omega, ?_⟩⟩
  refine List.ext_getElem (by simp; omega) fun i hi1 hi2 => ?_
  have hi : i < m := by simp at hi2; exact hi2
  have := h3 i hi
  rw [Array.getElem?_eq_getElem (by omega)] at this
  rw [List.getElem_take, List.getElem_map, List.getElem_range]
  exact Option.some.inj this

end Go.Proofs.Ytlhepgdheopgaaa

namespace Go.Proofs.Ytlhepgdheopgaaa
open Go Go.RowKit Ieee
attribute [local go_sem] run_store_float

theorem row_made (w : World) (G : Nat) (hG : w.heap.size = G) (z : Value) (n : Nat) (t : TypeId) (o : Obj) : ((w.alloc (.cells (madeCells #[z] n) t)).alloc o).rowIs G t n (fun _ => z) := by
  subst hG
  exact (World.rowIs_made w z n t).alloc o
def RS3 (W0 : World) (G N n s r l i : Nat) (wr : World) : Prop :=
  Below (G + 1) W0 wr ∧ wr.cell? ⟨G + 2, 0, none⟩ = some (.int .i64 n) ∧ wr.cell? ⟨G + 2, 1, none⟩ = some (.slice (some ⟨G + 1, 0, none⟩) N N) ∧ wr.rowIs (G + 1) 31 N (fun p => .float .f32 (ringTo n s r l i p))

end Go.Proofs.Ytlhepgdheopgaaa
