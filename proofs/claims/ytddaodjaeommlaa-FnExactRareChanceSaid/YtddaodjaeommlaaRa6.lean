/-
  RareChance: impl.RareChance, spec.RareChance.
-/
import Derived.Test.YtddaodjaeommlaaRa5
import Derived.Deep.DeepCutAuto
namespace Go.Proofs.Ytddaodjaeommlaa
open Go Go.RowKit Ieee

def rcOut (rk ra rb : Int) (p : Nat) (ok : Bool) (w : World) : Ending → World → Prop := fun e w' =>
  e = .returned (.tuple #[.agg #[.int .i64 rk, .int .u64 ra, .int .u64 rb], .float .f32 p, .bool ok]) ∧ Below w.heap.size w w'
theorem nl_il (ls : List Nat) : nl ls = il (ls.map (fun x : Nat => (x : Int))) := rfl
theorem levB_mem {side i : Int} {ls : List Int} (hi : 0 ≤ i) (h : levB side i ls = true) : ∀ q, q < ls.length → 0 ≤ prevL i ls (q + 1) ∧ ls.getD q 0 < side := by
  have h' : ∀ q, q < ls.length → prevL i ls q < ls.getD q 0 ∧ ls.getD q 0 < side := fun q hq => of_decide_eq_true (List.all_eq_true.1 h q (List.mem_range.2 hq))
  intro q
  induction q with
  | zero =>
    intro hq
    have h1 : i < ls.getD 0 0 ∧ ls.getD 0 0 < side := h' 0 hq
    have h2 : prevL i ls (0 + 1) = ls.getD 0 0 := rfl
    rw [h2]
    omega
  | succ q ih =>
    intro hq
    have h1 := h' (q + 1) hq
    have h2 : prevL i ls (q + 1 + 1) = ls.getD (q + 1) 0 := rfl
    have h3 := ih (by omega)
    rw [h2]
    omega
/-- levels as natural numbers -/
theorem lev_nat {side i : Int} {ls : List Int} (hi : 0 ≤ i) (hs : side ≤ 12) (h : levB side i ls = true) : ∃ lvs : List Nat, ls = lvs.map (fun x : Nat => (x : Int)) ∧ ∀ l ∈ lvs, l ≤ 64 := by
  have hm := levB_mem hi h
  have hm2 : ∀ x ∈ ls, 0 ≤ x ∧ x < side := fun x hx => by
    obtain ⟨q, hq, rfl⟩ := List.getElem_of_mem hx
    have h2 : prevL i ls (q + 1) = ls.getD q 0 := rfl
    have h3 := hm q hq
    rw [h2, List.getD_eq_getElem?_getD, List.getElem?_eq_getElem hq] at h3
    exact h3
  refine ⟨ls.map Int.toNat, ?_, fun l hl => ?_⟩
  · rw [List.map_map]
    refine (List.map_id ls).symm.trans (List.map_congr_left fun x hx => ?_)
    have := hm2 x hx
    show x = ((x.toNat : Nat) : Int)
    omega
  · obtain ⟨x, hx, rfl⟩ := List.mem_map.1 hl
    have := hm2 x hx
    omega
theorem rareB_ok {k a b side : Int} {xs : List Nat} {i : Int} {ls : List Int} {walks : Int} (h : rareB k a b side xs i ls walks = true) : ∃ (n j W : Nat) (lvs : List Nat), side = n ∧ i = j ∧ walks = W ∧ ls = lvs.map (fun x : Nat => (x : Int)) ∧ j < n ∧ 1 ≤ W ∧ W ≤ 64 ∧ lvs.length ≤ 8 ∧ (∀ l ∈ lvs, l ≤ 64) ∧ seedB k a b = true ∧ validB n xs = true := by
  unfold rareB isrB at h
  rw [Bool.and_eq_true, Bool.and_eq_true, Bool.and_eq_true, Bool.and_eq_true, Bool.and_eq_true] at h
  obtain ⟨h1, h2, h3, h4, h5, h6⟩ := h
  obtain ⟨n, rfl, n1, n2, -⟩ := validB_facts h2
  have h3' := of_decide_eq_true h3
  obtain ⟨z1, z2⟩ := of_decide_eq_true h4
  have h6' := of_decide_eq_true h6
  obtain ⟨lvs, rfl, hl⟩ := lev_nat h3'.1 (by omega) h5
  obtain ⟨j, rfl⟩ := Int.eq_ofNat_of_zero_le h3'.1
  obtain ⟨W, rfl⟩ := Int.eq_ofNat_of_zero_le (show 0 ≤ walks by omega)
  rw [List.length_map] at z2
  exact ⟨n, j, W, lvs, rfl, rfl, rfl, rfl, by omega, by omega, by omega, z2, hl, h1, h2⟩

theorem fin_notNan {x : Nat} (h : isFin single x = true) : isNan single x = false := by
  unfold isFin at h
  cases hr : single.read x <;> simp_all [isNan]
  rfl
theorem cw_len {xs : List Nat} {n : Nat} {k a b : Int} {lv : Nat} {st : List Nat} {T0 : Nat} : ∀ t, (cwT xs n k a b lv st T0 t).2.length ≤ t := by
  intro t
  induction t with
  | zero => exact Nat.le_refl _
  | succ t ih =>
    show (if _ then (cwT xs n k a b lv st T0 t).2 ++ [_] else (cwT xs n k a b lv st T0 t).2).length ≤ t + 1
    split
    · rw [List.length_append, List.length_singleton]; omega
    · omega
theorem rareT_unit {xs : List Nat} {n : Nat} {k a b : Int} {i : Nat} {lvs : List Nat} {W : Nat} (h1 : 1 ≤ W) (hW : W ≤ 64) : ∀ j, unitP (rareT xs n k a b i lvs W j).2.2 := by
  intro j
  induction j with
  | zero => exact unit_one
  | succ j ih => exact (chance_runs ih (cw_len W) h1 (by omega)).2.2.1
theorem raP_notNan {xs : List Nat} {n : Nat} {k a b : Int} {i : Nat} {lvs : List Nat} {W : Nat} (h1 : 1 ≤ W) (hW : W ≤ 64) : isNan single (raP xs n k a b i lvs W) = false := fin_notNan (rareT_unit h1 hW _).1

set_option maxRecDepth 100000 in
set_option maxHeartbeats 1600000 in
theorem RareChance_bad (k a b side i walks : Int) (ls : List Int) (A : Option Addr) (xs : List Nat) (c : Nat) (B : Option Addr) (d : Nat) (w : World) (hb0 : 0 ≤ b ∧ b < 18446744073709551616) (hx : xs.length ≤ c) (hc : c ≤ 9223372036854775807) (h : Rd w w.heap.size A (fl xs)) (h' : Rd w w.heap.size B (il ls)) (hbad : rareB k a b side xs i ls walks = false) :
    Calls Try.prog 78 #[.agg #[.int .i64 k, .int .u64 a, .int .u64 b], .agg #[.int .i64 side, .slice A xs.length c], .int .i64 i, .slice B ls.length d, .int .i64 walks] w (rcOut 0 0 0 0 false w) := by
  have HS := Lib.hid fun w => ValidSeed_any k a b hb0 w
  have HV := Lib.hid fun W h h' => isRare_any side i walks ls A xs c B d W hx hc h h'
  have hcase : seedB k a b = false ∨ (seedB k a b = true ∧ isrB side i xs ls walks = false) := by
    unfold rareB at hbad
    cases hq : seedB k a b with
    | false => exact .inl rfl
    | true => rw [hq, Bool.true_and] at hbad; exact .inr ⟨rfl, hbad⟩
  clear hbad hx hc hb0
  generalize seedB k a b = d1 at *
  generalize isrB side i xs ls walks = d2 at *
  rcases hcase with rfl | ⟨rfl, rfl⟩
  all_goals
    go_enter Try.func78, Try.ntmps78
    go_wp2_with fail
    generalize hW1 : World.alloc (World.alloc (World.alloc w _) _) _ = W1
    have hx1 : Bx w.heap.size k a b side A xs.length c W1 := by rw [← hW1]; simp [Bx, SdAt, go_sem]
    have HB1 : Hid (Below w.heap.size w W1) := by rw [← hW1]; exact Lib.hid (below_al (below_al (below_al (Below.refl _ _) _) _) _)
    clear hW1
    refine (HS.out _).mono ?_
    rintro e w2 ⟨rfl, hb2⟩
    have HXq := Lib.hid (hx1.keep hb2)
    have HBq := Lib.hid (below_next HB1.out hb2)
    clear hx1 hb2
    obtain ⟨⟨s0, s1, s2, sf⟩, n0, n1, ⟨z0, z1, z2, zf⟩⟩ := HXq.out
    go_wp2_with (go_at_call 141; refine (HV.out _ (h.at_ HBq.out) (h'.at_ HBq.out)).mono ?_; rintro e w3 ⟨rfl, hb3⟩; have HXq := Lib.hid (HXq.out.keep hb3); have HBq := Lib.hid (below_next HBq.out hb3); clear hb3; obtain ⟨⟨s0, s1, s2, sf⟩, n0, n1, ⟨z0, z1, z2, zf⟩⟩ := HXq.out)
    refine bodyPost_ret (v := .tuple #[.agg #[.int .i64 0, .int .u64 0, .int .u64 0], .float .f32 0, .bool false]) (by simp [results, Try.results78, go_sem, z0, z1, z2]) rfl ⟨rfl, ?_⟩
    exact below_set (below_set (below_set HBq.out _ _ (by first | omega | (simp; omega))) _ _ (by first | omega | (simp; omega))) _ _ (by first | omega | (simp; omega))
set_option maxRecDepth 100000 in
set_option maxHeartbeats 1600000 in
theorem RareChance_ok (k a b : Int) (n i W : Nat) (lvs : List Nat) (ls : List Int) (A : Option Addr) (xs : List Nat) (c : Nat) (B : Option Addr) (d : Nat) (w : World) (hb0 : 0 ≤ b ∧ b < 18446744073709551616) (hx : xs.length ≤ c) (hc : c ≤ 9223372036854775807) (h : Rd w w.heap.size A (fl xs)) (h' : Rd w w.heap.size B (il ls))
    (hok : rareB k a b n xs i ls W = true) (hls : ls = lvs.map (fun x : Nat => (x : Int))) (hs : seedB k a b = true) (hv : validB n xs = true) (hi : i < n) (hW1 : 1 ≤ W) (hW2 : W ≤ 64) (hL : lvs.length ≤ 8) (hlv : ∀ l ∈ lvs, l ≤ 64) :
    Calls Try.prog 78 #[.agg #[.int .i64 k, .int .u64 a, .int .u64 b], .agg #[.int .i64 n, .slice A xs.length c], .int .i64 i, .slice B ls.length d, .int .i64 W] w (rcOut k (sdT k a b (raT xs n k a b i lvs W)).1 (sdT k a b (raT xs n k a b i lvs W)).2 (raP xs n k a b i lvs W) true w) := by
  have HS := Lib.hid fun w => ValidSeed_any k a b hb0 w
  have hr : isrB n i xs ls W = true := by
    unfold rareB at hok
    rw [hs, Bool.true_and] at hok
    exact hok
  have hll : ls.length = lvs.length := by rw [hls, List.length_map]
  have hnl : il ls = nl lvs := by rw [hls]; rfl
  have HV : Hid (∀ V, Rd V V.heap.size A (fl xs) → Rd V V.heap.size B (il ls) → Calls Try.prog 141 #[.agg #[.int .i64 n, .slice A xs.length c], .int .i64 i, .slice B ls.length d, .int .i64 W] V (fun e w' => e = .returned (.bool true) ∧ Below V.heap.size V w')) := Lib.hid fun V q1 q2 => by
    have := isRare_any n i W ls A xs c B d V hx hc q1 q2
    rw [hr] at this
    exact this
  have HR : Hid (∀ V, Rd V V.heap.size A (fl xs) → Rd V V.heap.size B (il ls) → Calls Try.prog 142 #[.agg #[.int .i64 k, .int .u64 a, .int .u64 b], .agg #[.int .i64 n, .slice A xs.length c], .int .i64 i, .slice B ls.length d, .int .i64 W] V (raOut xs n k a b i lvs W V)) := Lib.hid fun V q1 q2 => by
    rw [hnl] at q2
    have := rareChance_any k a b n i W lvs A xs c B d V (seedB_kind hs) hx hc hv hi hW1 hW2 hL hlv q1 q2
    rw [hll]
    exact this
  rw [hs] at HS
  clear hok hr hs hv hi hW1 hW2 hL hlv hx hc hb0 hls hll hnl
  unfold raOut at HR
  generalize sdT k a b (raT xs n k a b i lvs W) = st at *
  generalize raP xs n k a b i lvs W = p at *
  obtain ⟨a', b'⟩ := st
  dsimp only at *
  go_enter Try.func78, Try.ntmps78
  go_wp2_with fail
  generalize hW1 : World.alloc (World.alloc (World.alloc w _) _) _ = W1
  have hx1 : Bx w.heap.size k a b n A xs.length c W1 := by rw [← hW1]; simp [Bx, SdAt, go_sem]
  have HB1 : Hid (Below w.heap.size w W1) := by rw [← hW1]; exact Lib.hid (below_al (below_al (below_al (Below.refl _ _) _) _) _)
  clear hW1
  refine (HS.out _).mono ?_
  rintro e w2 ⟨rfl, hb2⟩
  have HXq := Lib.hid (hx1.keep hb2)
  have HBq := Lib.hid (below_next HB1.out hb2)
  clear hx1 hb2
  obtain ⟨⟨s0, s1, s2, sf⟩, n0, n1, ⟨z0, z1, z2, zf⟩⟩ := HXq.out
  go_wp2_with (go_at_call 141; refine (HV.out _ (h.at_ HBq.out) (h'.at_ HBq.out)).mono ?_; rintro e w3 ⟨rfl, hb3⟩; have HXq := Lib.hid (HXq.out.keep hb3); have HBq := Lib.hid (below_next HBq.out hb3); clear hb3; obtain ⟨⟨s0, s1, s2, sf⟩, n0, n1, ⟨z0, z1, z2, zf⟩⟩ := HXq.out)
  refine (HR.out _ (h.at_ HBq.out) (h'.at_ HBq.out)).mono ?_
  rintro e w4 ⟨rfl, hb4⟩
  have HX4 := Lib.hid (HXq.out.keep hb4)
  have HB4 := Lib.hid (below_next HBq.out hb4)
  clear hb4
  go_upto_region 4 with fail
  have hz4 := HX4.out.lt
  have hS5 : SdAt (w4.alloc (.cells #[.int .i64 k, .int .u64 a', .int .u64 b'] 67)) w4.heap.size k a' b' := by simp [SdAt, go_sem]
  have hX5 := HX4.out.keep (below_al (Below.refl _ _) (.cells #[.int .i64 k, .int .u64 a', .int .u64 b'] 67))
  have hB5 := below_al HB4.out (.cells #[.int .i64 k, .int .u64 a', .int .u64 b'] 67)
  clear s0 s1 s2 sf n0 n1 z0 z1 z2 zf
  generalize World.alloc w4 _ = W5 at hS5 hX5 hB5 ⊢
  have HX5 := Lib.hid hX5
  have HB5 := Lib.hid hB5
  obtain ⟨s0, s1, s2, sf⟩ := hS5
  obtain ⟨-, -, -, ⟨z0, z1, z2, zf⟩⟩ := hX5
  clear hB5
  go_wp2_with fail
  have hX9 := (HX5.out.2.2.2).set k a' b'
  have hB9 := below_set (below_set (below_set HB5.out ⟨w.heap.size + 1 + 1, 0, none⟩ (.int .i64 k) (by simp; omega)) ⟨w.heap.size + 1 + 1, 1, none⟩ (.int .u64 a') (by simp; omega)) ⟨w.heap.size + 1 + 1, 2, none⟩ (.int .u64 b') (by simp; omega)
  generalize World.setCell (World.setCell (World.setCell _ _ _) _ _) _ _ = W9 at hX9 hB9 ⊢
  clear s0 s1 s2 sf z0 z1 z2 zf
  obtain ⟨y0, y1, y2, -⟩ := hX9
  refine bodyPost_ret (v := .tuple #[.agg #[.int .i64 k, .int .u64 a', .int .u64 b'], .float .f32 p, .bool true]) (by simp [results, Try.results78, go_sem, y0, y1, y2]) rfl ⟨rfl, hB9⟩

set_option maxRecDepth 100000 in
set_option maxHeartbeats 1600000 in
theorem specRareChance_bad (k a b side i walks : Int) (ls : List Int) (A : Option Addr) (xs : List Nat) (c : Nat) (B : Option Addr) (d : Nat) (w : World) (hb0 : 0 ≤ b ∧ b < 18446744073709551616) (hx : xs.length ≤ 9223372036854775807) (hl : ls.length ≤ 9223372036854775807) (h : Rd w w.heap.size A (fl xs)) (h' : Rd w w.heap.size B (il ls)) (hbad : rareB k a b side xs i ls walks = false) :
    Calls Try.prog 76 #[.agg #[.int .i64 k, .int .u64 a, .int .u64 b], .agg #[.int .i64 side, .slice A xs.length c], .int .i64 i, .slice B ls.length d, .int .i64 walks] w (rcOut 0 0 0 0 false w) := by
  have HC := Lib.hid fun p g W hsd h0 h1 q1 q2 => l07Can_any p g k a b side i walks ls A xs c B d W hb0 hx hl hsd h0 h1 q1 q2
  rw [hbad] at HC
  clear hbad hx hl hb0
  go_enter Try.func76, Try.ntmps76
  go_wp2_with fail
  generalize hW1 : World.alloc (World.alloc (World.alloc w _) _) _ = W1
  have hx1 : Bx w.heap.size k a b side A xs.length c W1 := by rw [← hW1]; simp [Bx, SdAt, go_sem]
  have HB1 : Hid (Below w.heap.size w W1) := by rw [← hW1]; exact Lib.hid (below_al (below_al (below_al (Below.refl _ _) _) _) _)
  clear hW1
  refine (HC.out _ _ W1 hx1.1 hx1.2.1 hx1.2.2.1 (h.at_ HB1.out) (h'.at_ HB1.out)).mono ?_
  rintro e w2 ⟨rfl, m, rfl⟩
  have HX1 := Lib.hid (hx1.dn m)
  have HB2 := Lib.hid (below_drewN HB1.out m)
  clear hx1
  obtain ⟨⟨s0, s1, s2, sf⟩, n0, n1, ⟨z0, z1, z2, zf⟩⟩ := HX1.out
  go_wp2_with fail
  refine bodyPost_ret (v := .tuple #[.agg #[.int .i64 0, .int .u64 0, .int .u64 0], .float .f32 0, .bool false]) (by simp [results, Try.results76, go_sem, z0, z1, z2]) rfl ⟨rfl, ?_⟩
  exact below_set (below_set (below_set HB2.out _ _ (by first | omega | (simp; omega))) _ _ (by first | omega | (simp; omega))) _ _ (by first | omega | (simp; omega))
set_option maxRecDepth 100000 in
set_option maxHeartbeats 1600000 in
theorem specRareChance_ok (k a b : Int) (n i W : Nat) (lvs : List Nat) (ls : List Int) (A : Option Addr) (xs : List Nat) (c : Nat) (B : Option Addr) (d : Nat) (w : World) (hb0 : 0 ≤ b ∧ b < 18446744073709551616) (hx : xs.length ≤ 9223372036854775807) (hl : ls.length ≤ 9223372036854775807) (h : Rd w w.heap.size A (fl xs)) (h' : Rd w w.heap.size B (il ls))
    (hok : rareB k a b n xs i ls W = true) (hls : ls = lvs.map (fun x : Nat => (x : Int))) (hs : seedB k a b = true) (hv : validB n xs = true) (hi : i < n) (hW1 : 1 ≤ W) (hW2 : W ≤ 64) (hL : lvs.length ≤ 8) (hlv : ∀ l ∈ lvs, l ≤ 64) :
    Calls Try.prog 76 #[.agg #[.int .i64 k, .int .u64 a, .int .u64 b], .agg #[.int .i64 n, .slice A xs.length c], .int .i64 i, .slice B ls.length d, .int .i64 W] w (rcOut k (sdT k a b (raT xs n k a b i lvs W)).1 (sdT k a b (raT xs n k a b i lvs W)).2 (raP xs n k a b i lvs W) true w) := by
  have HC := Lib.hid fun p g V hsd h0 h1 q1 q2 => l07Can_any p g k a b n i W ls A xs c B d V hb0 hx hl hsd h0 h1 q1 q2
  rw [hok] at HC
  have hll : ls.length = lvs.length := by rw [hls, List.length_map]
  have hnl : il ls = nl lvs := by rw [hls]; rfl
  have HR : Hid (∀ V, w.heap.size + 1 < V.heap.size → SdAt V w.heap.size k a b → V.cell? ⟨w.heap.size + 1, 0, none⟩ = some (.int .i64 n) → V.cell? ⟨w.heap.size + 1, 1, none⟩ = some (.slice A xs.length c) → Below w.heap.size w V → Calls Try.prog 140 #[.pointer (some ⟨w.heap.size, 0, none⟩), .pointer (some ⟨w.heap.size + 1, 0, none⟩), .int .i64 i, .slice B ls.length d, .int .i64 W] V (rareSOut w.heap.size xs n k a b i lvs W V)) := Lib.hid fun V hV q1 q2 q3 hbw => by
    have := l07Rare_any w.heap.size k a b n i W lvs A xs c B d V (seedB_kind hs) hv hi hW1 hW2 hL hlv (by omega) hV q1 q2 q3 (h.below hbw) (by rw [← hnl]; exact h'.below hbw)
    rw [hll]
    exact this
  clear hok hx hl hb0 hls hll hnl hs hv hi hW1 hW2 hL hlv
  unfold rareSOut at HR
  generalize sdT k a b (raT xs n k a b i lvs W) = st at *
  generalize raP xs n k a b i lvs W = p at *
  obtain ⟨a', b'⟩ := st
  dsimp only at *
  go_enter Try.func76, Try.ntmps76
  go_wp2_with fail
  generalize hW1 : World.alloc (World.alloc (World.alloc w _) _) _ = W1
  have hx1 : Bx w.heap.size k a b n A xs.length c W1 := by rw [← hW1]; simp [Bx, SdAt, go_sem]
  have HB1 : Hid (Below w.heap.size w W1) := by rw [← hW1]; exact Lib.hid (below_al (below_al (below_al (Below.refl _ _) _) _) _)
  clear hW1
  refine (HC.out _ _ W1 hx1.1 hx1.2.1 hx1.2.2.1 (h.at_ HB1.out) (h'.at_ HB1.out)).mono ?_
  rintro e w2 ⟨rfl, m, rfl⟩
  have HX1 := Lib.hid (hx1.dn m)
  have HB2 := Lib.hid (below_drewN HB1.out m)
  have hl1 := HX1.out.lt
  clear hx1
  go_wp2_with (go_at_call 140; refine (HR.out (W1.drewN m) (by omega) HX1.out.1 HX1.out.2.1 HX1.out.2.2.1 HB2.out).mono ?_; rintro e w3 ⟨rfl, hs3⟩; have HX3 := Lib.hid (HX1.out.moved hs3); have HB3 := Lib.hid (hs3.below HB2.out (Nat.le_refl _)); clear hs3; obtain ⟨⟨s0, s1, s2, sf⟩, n0, n1, ⟨z0, z1, z2, zf⟩⟩ := HX3.out)
  have hl3 := HX3.out.lt
  have hX9 := (HX3.out.2.2.2).set k a' b'
  have hB9 := below_set (below_set (below_set HB3.out ⟨w.heap.size + 1 + 1, 0, none⟩ (.int .i64 k) (by simp; omega)) ⟨w.heap.size + 1 + 1, 1, none⟩ (.int .u64 a') (by simp; omega)) ⟨w.heap.size + 1 + 1, 2, none⟩ (.int .u64 b') (by simp; omega)
  generalize World.setCell (World.setCell (World.setCell _ _ _) _ _) _ _ = W9 at hX9 hB9 ⊢
  clear s0 s1 s2 sf n0 n1 z0 z1 z2 zf
  obtain ⟨y0, y1, y2, -⟩ := hX9
  refine bodyPost_ret (v := .tuple #[.agg #[.int .i64 k, .int .u64 a', .int .u64 b'], .float .f32 p, .bool true]) (by simp [results, Try.results76, go_sem, y0, y1, y2]) rfl ⟨rfl, hB9⟩
end Go.Proofs.Ytddaodjaeommlaa
