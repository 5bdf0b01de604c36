/-
  impl.WeighChain.
-/
import Derived.Test.YtlhepgdheopgaaaWe3
namespace Go.Proofs.Ytlhepgdheopgaaa
open Go Go.RowKit Ieee
attribute [local go_sem] run_store_float

theorem run_store_fn (P : Program) (w : World) (a : Addr) (m : Mode) (f : Fn) (x y : Array Value) : (store a (.func f x y) m).run P w = stored P w a (.func f x y) m := run_store P w a _ m rfl
attribute [local go_sem] run_store_fn

theorem chGive_same {xs ws : List Nat} {n : Nat} {g : Nat → Nat → Nat} {w w' : World} {e : Ending} (h : ∀ i k, i < n → k < n → weighV xs ws n i k (g i k)) (hc : chGive n (tab n g) w e w') : chGive n (tab n (weighF xs ws n)) w e w' := by
  obtain ⟨h1, h2⟩ := weigh_same h
  unfold chGive sideOf stepsOf at hc ⊢
  rw [h1] at hc
  cases hv : validB n (tab n (weighF xs ws n)) with
  | true => rw [hv, h2 hv] at hc; exact hc
  | false => rw [hv] at hc; simpa using hc

set_option maxRecDepth 100000 in
set_option maxHeartbeats 3200000 in
theorem WeighChain_bad (side : Int) (A : Option Addr) (xs : List Nat) (c : Nat) (B : Option Addr) (row : List Nat) (d : Nat) (w : World) (hx : xs.length ≤ c) (hc : c ≤ 9223372036854775807) (hr : row.length ≤ 9223372036854775807) (hA : Rd w w.heap.size A (fl xs)) (hB : Rd w w.heap.size B (fl row)) (hb : bkB side xs row = false) :
    Calls Try.prog 9 #[.agg #[.int .i64 side, .slice A xs.length c], .slice B row.length d] w (chOut 0 [] false w) := by
  have HF := Lib.hid fun W h h' => isRowOf_any side A xs c B row d W hx hc hr h h'
  have HP := Lib.hid fun W h => arePositive_any B row d W hr h
  unfold bkB at hb
  cases hf : fitB side xs row with
  | false =>
    rw [hf] at HF
    clear hb hf HP
    go_enter Try.func9, Try.ntmps9
    go_wp2_with fail
    generalize hW1 : World.alloc (World.alloc (World.alloc w _) _) _ = W1
    have c4 : W1.cell? ⟨w.heap.size + 1 + 1, 0, none⟩ = some (.int .i64 0) := by rw [← hW1]; simp [go_sem]
    have c5 : W1.cell? ⟨w.heap.size + 1 + 1, 1, none⟩ = some (.slice none 0 0) := by rw [← hW1]; simp [go_sem]
    have cf : ∀ o, W1.frozen? ⟨w.heap.size + 1 + 1, o, none⟩ = false := fun o => by rw [← hW1]; simp [go_sem]
    have cs : w.heap.size + 1 + 1 < W1.heap.size := by rw [← hW1]; simp
    have hb1 : Below w.heap.size w W1 := by rw [← hW1]; exact below_al (below_al (below_al (Below.refl _ _) _) _) _
    clear hW1
    refine (HF.out _ (hA.at_ hb1) (hB.at_ hb1)).mono ?_
    rintro e w2 ⟨rfl, hb2⟩
    have d4 := keepC hb2 c4
    have d5 := keepC hb2 c5
    have df : ∀ o, w2.frozen? ⟨w.heap.size + 1 + 1, o, none⟩ = false := fun o => (hb2.frozen (p := ⟨_, o, none⟩) cs).trans (cf o)
    have ds : w.heap.size + 1 + 1 < w2.heap.size := by have := hb2.size; omega
    have HB2 := Lib.hid (below_next hb1 hb2)
    clear c4 c5 cf cs hb1 hb2
    go_wp2_with fail
    refine bodyPost_ret (v := .tuple #[.agg #[.int .i64 0, .slice none 0 0], .bool false]) (by simp [results, Try.results9, go_sem, d4, d5]) rfl (chOut_none rfl ?_)
    exact (HB2.out.setCell (by simp; omega) _).setCell (by simp; omega) _
  | true =>
    rw [hf, Bool.true_and] at hb
    obtain ⟨n', -, -, -, -, -, -, hrw, -⟩ := fitB_facts hf
    rw [hf] at HF
    rw [pos_above hrw, hb] at HP
    clear hb hf hrw
    go_enter Try.func9, Try.ntmps9
    go_wp2_with fail
    generalize hW1 : World.alloc (World.alloc (World.alloc w _) _) _ = W1
    have c3 : W1.cell? ⟨w.heap.size + 1, 0, none⟩ = some (.slice B row.length d) := by rw [← hW1]; simp [go_sem]
    have c4 : W1.cell? ⟨w.heap.size + 1 + 1, 0, none⟩ = some (.int .i64 0) := by rw [← hW1]; simp [go_sem]
    have c5 : W1.cell? ⟨w.heap.size + 1 + 1, 1, none⟩ = some (.slice none 0 0) := by rw [← hW1]; simp [go_sem]
    have cf : ∀ o, W1.frozen? ⟨w.heap.size + 1 + 1, o, none⟩ = false := fun o => by rw [← hW1]; simp [go_sem]
    have cs : w.heap.size + 1 + 1 < W1.heap.size := by rw [← hW1]; simp
    have hb1 : Below w.heap.size w W1 := by rw [← hW1]; exact below_al (below_al (below_al (Below.refl _ _) _) _) _
    clear hW1
    refine (HF.out _ (hA.at_ hb1) (hB.at_ hb1)).mono ?_
    rintro e w2 ⟨rfl, hb2⟩
    have d3 := keepC hb2 c3
    have d4 := keepC hb2 c4
    have d5 := keepC hb2 c5
    have df : ∀ o, w2.frozen? ⟨w.heap.size + 1 + 1, o, none⟩ = false := fun o => (hb2.frozen (p := ⟨_, o, none⟩) cs).trans (cf o)
    have ds : w.heap.size + 1 + 1 < w2.heap.size := by have := hb2.size; omega
    have HB2 := Lib.hid (below_next hb1 hb2)
    clear c3 c4 c5 cf cs hb1 hb2
    go_wp2_with (go_at_call 33; refine (HP.out _ (hB.at_ HB2.out)).mono ?_; rintro e w3 ⟨rfl, m3, rfl⟩)
    refine bodyPost_ret (v := .tuple #[.agg #[.int .i64 0, .slice none 0 0], .bool false]) (by simp [results, Try.results9, go_sem, d4, d5]) rfl (chOut_none rfl ?_)
    exact ((below_drewN HB2.out _).setCell (by simp; omega) _).setCell (by simp; omega) _

set_option maxRecDepth 100000 in
set_option maxHeartbeats 3200000 in
theorem WeighChain_ok (n : Nat) (A : Option Addr) (xs : List Nat) (c : Nat) (B : Option Addr) (row : List Nat) (d : Nat) (w : World) (hx : xs.length ≤ c) (hc : c ≤ 9223372036854775807) (hA : Rd w w.heap.size A (fl xs)) (hB : Rd w w.heap.size B (fl row)) (hb : bkB n xs row = true) :
    Calls Try.prog 9 #[.agg #[.int .i64 n, .slice A xs.length c], .slice B row.length d] w (chGive n (tab n (weighF xs row n)) w) := by
  unfold bkB at hb
  rw [Bool.and_eq_true] at hb
  obtain ⟨hf, hab⟩ := hb
  obtain ⟨n', hn', hn1, hn2, hl, hp, hrl, hrw, hv, hw⟩ := fitB_facts hf
  obtain rfl : n = n' := by omega
  have HF := Lib.hid fun W h h' => isRowOf_any n A xs c B row d W hx hc (by omega) h h'
  have HP := Lib.hid fun W h => arePositive_any B row d W (by omega) h
  rw [hf] at HF
  rw [pos_above hrw, hab] at HP
  have HCB : Hid (∀ W b0 b1 b3, Below w.heap.size w W → W.cell? ⟨b0, 0, none⟩ = some (.slice B row.length d) → W.cell? ⟨b1, 0, none⟩ = some (.int .i64 n) → W.cell? ⟨b1, 1, none⟩ = some (.slice A xs.length c) → W.cell? ⟨b3, 0, none⟩ = some (.func (.func 34) #[] #[.pointer (some ⟨b1, 0, none⟩), .pointer (some ⟨b0, 0, none⟩)]) →
      Calls Try.prog 37 #[.int .i64 n, .func (.func 38) #[] #[.pointer (some ⟨b3, 0, none⟩), .pointer (some ⟨b1, 0, none⟩)]] W (chGive n (tab n (weighF xs row n)) W)) := Lib.hid fun W b0 b1 b3 hW h0 h1 h2 h3 =>
    (chainByWeigh n _ _ (weighV xs row n) W hn1 hn2 fun W' hW' i k hi hk => weighClo n i k b0 b1 b3 A xs c B row d W' hn2 hi hk hl hp hrl hrw hab (keepC hW' h0) (keepC hW' h1) (keepC hW' h2) (keepC hW' h3) ((hA.at_ hW).at_ hW') ((hB.at_ hW).at_ hW')).mono fun e W2 ⟨g, hg, hres⟩ => chGive_same hg hres.out
  unfold chGive at HCB ⊢
  generalize sideOf n (tab n (weighF xs row n)) = sd at *
  generalize stepsOf n (tab n (weighF xs row n)) = zs at *
  generalize validB n (tab n (weighF xs row n)) = ok at *
  clear hv hw hl hp hrl hrw hab hx hc hn' hf
  go_enter Try.func9, Try.ntmps9
  go_wp2_with fail
  generalize hW1 : World.alloc (World.alloc (World.alloc w _) _) _ = W1
  have c0 : W1.cell? ⟨w.heap.size, 0, none⟩ = some (.int .i64 n) := by rw [← hW1]; simp [go_sem]
  have c1 : W1.cell? ⟨w.heap.size, 1, none⟩ = some (.slice A xs.length c) := by rw [← hW1]; simp [go_sem]
  have c3 : W1.cell? ⟨w.heap.size + 1, 0, none⟩ = some (.slice B row.length d) := by rw [← hW1]; simp [go_sem]
  have c4 : W1.cell? ⟨w.heap.size + 1 + 1, 0, none⟩ = some (.int .i64 0) := by rw [← hW1]; simp [go_sem]
  have c5 : W1.cell? ⟨w.heap.size + 1 + 1, 1, none⟩ = some (.slice none 0 0) := by rw [← hW1]; simp [go_sem]
  have cf : ∀ o, W1.frozen? ⟨w.heap.size + 1 + 1, o, none⟩ = false := fun o => by rw [← hW1]; simp [go_sem]
  have cs : w.heap.size + 1 + 1 < W1.heap.size := by rw [← hW1]; simp
  have hb1 : Below w.heap.size w W1 := by rw [← hW1]; exact below_al (below_al (below_al (Below.refl _ _) _) _) _
  clear hW1
  refine (HF.out _ (hA.at_ hb1) (hB.at_ hb1)).mono ?_
  rintro e w2 ⟨rfl, hb2⟩
  have d0 := keepC hb2 c0
  have d1 := keepC hb2 c1
  have d3 := keepC hb2 c3
  have d4 := keepC hb2 c4
  have d5 := keepC hb2 c5
  have df : ∀ o, w2.frozen? ⟨w.heap.size + 1 + 1, o, none⟩ = false := fun o => (hb2.frozen (p := ⟨_, o, none⟩) cs).trans (cf o)
  have ds : w.heap.size + 1 + 1 < w2.heap.size := by have := hb2.size; omega
  have HB2 := Lib.hid (below_next hb1 hb2)
  clear c0 c1 c3 c4 c5 cf cs hb1 hb2
  have n0 : ∀ m (t : TypeId), (World.alloc (w2.drewN m) (.cells #[Value.nilFunc] t)).cell? ⟨w2.heap.size, 0, none⟩ = some Value.nilFunc := fun m t => World.cell?_alloc_new (w := w2.drewN m) _ _ 0
  have n1 : ∀ m (t : TypeId), (World.alloc (w2.drewN m) (.cells #[Value.nilFunc] t)).frozen? ⟨w2.heap.size, 0, none⟩ = false := fun m t => by simp [World.frozen?, World.alloc, World.drewN]
  have b5 : ∀ m (t : TypeId) v, Below w2.heap.size w2 (World.setCell (World.alloc (w2.drewN m) (.cells #[Value.nilFunc] t)) ⟨w2.heap.size, 0, none⟩ v) := fun m t v => (below_al (below_drewN (Below.refl _ _) m) _).setCell (Nat.le_refl _) v
  have z0 : ∀ m (t : TypeId) v, (World.setCell (World.alloc (w2.drewN m) (.cells #[Value.nilFunc] t)) ⟨w2.heap.size, 0, none⟩ v).cell? ⟨w.heap.size, 0, none⟩ = some (.int .i64 n) := fun m t v => keepC (b5 m t v) d0
  have Z1 := Lib.hid fun m t v => keepC (b5 m t v) d1
  have Z3 := Lib.hid fun m t v => keepC (b5 m t v) d3
  have Z4 := Lib.hid fun m t v => keepC (b5 m t v) d4
  have Z5 := Lib.hid fun m t v => keepC (b5 m t v) d5
  have Z6 : Hid (∀ m (t : TypeId) v, (World.setCell (World.alloc (w2.drewN m) (.cells #[Value.nilFunc] t)) ⟨w2.heap.size, 0, none⟩ v).cell? ⟨w2.heap.size, 0, none⟩ = some v) := Lib.hid fun m t v => World.cell?_setCell_same _ _ _ (n0 m t)
  have ZF : Hid (∀ m (t : TypeId) v o, (World.setCell (World.alloc (w2.drewN m) (.cells #[Value.nilFunc] t)) ⟨w2.heap.size, 0, none⟩ v).frozen? ⟨w.heap.size + 1 + 1, o, none⟩ = false) := Lib.hid fun m t v o => ((b5 m t v).frozen (p := ⟨_, o, none⟩) ds).trans (df o)
  have BB5 := Lib.hid b5
  clear b5
  go_wp2_with (go_at_call 33; refine (HP.out _ (hB.at_ HB2.out)).mono ?_; rintro e w3 ⟨rfl, m3, rfl⟩)
  have hZ0 := Z1.out m3 59 (.func (.func 34) #[] #[.pointer (some ⟨w.heap.size, 0, none⟩), .pointer (some ⟨w.heap.size + 1, 0, none⟩)])
  have hZ3 := Z3.out m3 59 (.func (.func 34) #[] #[.pointer (some ⟨w.heap.size, 0, none⟩), .pointer (some ⟨w.heap.size + 1, 0, none⟩)])
  have hZ4 := Z4.out m3 59 (.func (.func 34) #[] #[.pointer (some ⟨w.heap.size, 0, none⟩), .pointer (some ⟨w.heap.size + 1, 0, none⟩)])
  have hZ5 := Z5.out m3 59 (.func (.func 34) #[] #[.pointer (some ⟨w.heap.size, 0, none⟩), .pointer (some ⟨w.heap.size + 1, 0, none⟩)])
  have hZ6 := Z6.out m3 59 (.func (.func 34) #[] #[.pointer (some ⟨w.heap.size, 0, none⟩), .pointer (some ⟨w.heap.size + 1, 0, none⟩)])
  have hZF := ZF.out m3 59 (.func (.func 34) #[] #[.pointer (some ⟨w.heap.size, 0, none⟩), .pointer (some ⟨w.heap.size + 1, 0, none⟩)])
  have hZZ := z0 m3 59 (.func (.func 34) #[] #[.pointer (some ⟨w.heap.size, 0, none⟩), .pointer (some ⟨w.heap.size + 1, 0, none⟩)])
  have hZB := below_next HB2.out (BB5.out m3 59 (.func (.func 34) #[] #[.pointer (some ⟨w.heap.size, 0, none⟩), .pointer (some ⟨w.heap.size + 1, 0, none⟩)]))
  clear Z1 Z3 Z4 Z5 Z6 ZF z0 BB5 n0 n1
  generalize World.setCell (World.alloc (w2.drewN m3) _) _ _ = W3 at *
  have hzs : w.heap.size + 1 + 1 < W3.heap.size := lt_of_cell (a := ⟨w.heap.size + 1 + 1, 0, none⟩) hZ4
  have HZB := Lib.hid hZB
  clear hZB
  refine (HCB.out W3 _ _ _ HZB.out hZ3 hZZ hZ0 hZ6).mono ?_
  rintro e w7 ⟨A7, c7, rfl, hown, hb7⟩
  have f3 : w7.cell? ⟨w.heap.size + 1 + 1, 0, none⟩ = some (.int .i64 0) := keepC hb7 hZ4
  have f4 : w7.cell? ⟨w.heap.size + 1 + 1, 1, none⟩ = some (.slice none 0 0) := keepC hb7 hZ5
  have f5 : ∀ o, w7.frozen? ⟨w.heap.size + 1 + 1, o, none⟩ = false := fun o => (hb7.frozen (p := ⟨_, o, none⟩) hzs).trans (hZF o)
  have hsz7 := hb7.size
  have HBW7 := Lib.hid (below_next HZB.out hb7)
  have HOWN := Lib.hid hown
  clear hb7 hown hZ0 hZ3 hZ4 hZ5 hZ6 hZF hZZ
  go_wp2_with fail
  refine bodyPost_ret (v := .tuple #[.agg #[.int .i64 sd, .slice A7 zs.length c7], .bool ok]) (by simp [results, Try.results9, go_sem, f3, f4]) rfl ⟨A7, c7, rfl, ?_, ?_⟩
  · exact own_base (ownsRow_setCell_below (ownsRow_setCell_below HOWN.out (by simp; omega) _) (by simp; omega) _) (by omega)
  · exact (HBW7.out.setCell (by simp; omega) _).setCell (by simp; omega) _
end Go.Proofs.Ytlhepgdheopgaaa

