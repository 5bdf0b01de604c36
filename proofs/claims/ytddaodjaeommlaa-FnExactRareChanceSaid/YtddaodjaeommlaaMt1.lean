/-
  impl.MeetWalks.
-/
import Derived.Test.YtddaodjaeommlaaWk2
import Derived.Deep.RegionHeld3
namespace Go.Proofs.Ytddaodjaeommlaa
open Go Go.RowKit Ieee

def mtOut (rk ra rb r1 r2 : Int) (ok : Bool) (w : World) : Ending → World → Prop := fun e w' =>
  e = .returned (.tuple #[.agg #[.int .i64 rk, .int .u64 ra, .int .u64 rb], .int .i64 r1, .int .i64 r2, .bool ok]) ∧ Below w.heap.size w w'
def meetB (k a b side : Int) (xs : List Nat) (i1 i2 most : Int) : Bool := seedB k a b && (validB side xs && (stateB side i1 && (stateB side i2 && inB most 0 512)))
/-- when two walks meet -/
def meetT (xs : List Nat) (n : Nat) (k a b : Int) (i1 i2 M : Nat) : Option Nat := (List.range (M + 1)).find? fun t => posT xs n k a b i1 t == posT xs n k a b i2 t
theorem meetT_some {xs : List Nat} {n : Nat} {k a b : Int} {i1 i2 M t : Nat} (ht : t ≤ M) (h0 : ∀ q, q < t → posT xs n k a b i1 q ≠ posT xs n k a b i2 q) (h1 : posT xs n k a b i1 t = posT xs n k a b i2 t) : meetT xs n k a b i1 i2 M = some t := by
  unfold meetT
  rw [List.find?_range_eq_some]
  exact ⟨by simpa using h1, List.mem_range.2 (by omega), fun j hj => by simpa using h0 j hj⟩
theorem meetT_none {xs : List Nat} {n : Nat} {k a b : Int} {i1 i2 M : Nat} (h0 : ∀ q, q < M + 1 → posT xs n k a b i1 q ≠ posT xs n k a b i2 q) : meetT xs n k a b i1 i2 M = none := by
  unfold meetT
  rw [List.find?_eq_none]
  intro q hq
  simpa using h0 q (List.mem_range.1 hq)
def meetK (k : Int) : Option Nat → Int | some _ => k | none => 0
def meetA (k a b : Int) : Option Nat → Int | some t => (sdT k a b t).1 | none => 0
def meetC (k a b : Int) : Option Nat → Int | some t => (sdT k a b t).2 | none => 0
def meetN : Option Nat → Int | some t => t | none => 0
def meetP (xs : List Nat) (n : Nat) (k a b : Int) (i1 : Nat) : Option Nat → Int | some t => posT xs n k a b i1 t | none => 0
def meetO : Option Nat → Bool | some _ => true | none => false
/-- what is given of two walks -/
def mtGive (xs : List Nat) (n : Nat) (k a b : Int) (i1 i2 M : Nat) (w : World) : Ending → World → Prop :=
  mtOut (meetK k (meetT xs n k a b i1 i2 M)) (meetA k a b (meetT xs n k a b i1 i2 M)) (meetC k a b (meetT xs n k a b i1 i2 M)) (meetN (meetT xs n k a b i1 i2 M)) (meetP xs n k a b i1 (meetT xs n k a b i1 i2 M)) (meetO (meetT xs n k a b i1 i2 M)) w
theorem mtGive_some {xs : List Nat} {n : Nat} {k a b a' b' : Int} {i1 i2 M t p : Nat} {w w' : World} (h : meetT xs n k a b i1 i2 M = some t) (hs : sdT k a b t = (a', b')) (hp : posT xs n k a b i1 t = p) (hb : Below w.heap.size w w') : mtGive xs n k a b i1 i2 M w (.returned (.tuple #[.agg #[.int .i64 k, .int .u64 a', .int .u64 b'], .int .i64 (t : Int), .int .i64 (p : Int), .bool true])) w' := by
  unfold mtGive mtOut
  rw [h]
  refine ⟨?_, hb⟩
  show _ = Ending.returned (.tuple #[.agg #[.int .i64 k, .int .u64 (sdT k a b t).1, .int .u64 (sdT k a b t).2], .int .i64 (t : Int), .int .i64 (posT xs n k a b i1 t : Int), .bool true])
  rw [hs, hp]
theorem mtGive_none {xs : List Nat} {n : Nat} {k a b : Int} {i1 i2 M : Nat} {w w' : World} (h : meetT xs n k a b i1 i2 M = none) (hb : Below w.heap.size w w') : mtGive xs n k a b i1 i2 M w (.returned (.tuple #[.agg #[.int .i64 0, .int .u64 0, .int .u64 0], .int .i64 0, .int .i64 0, .bool false])) w' := by
  unfold mtGive mtOut
  rw [h]
  exact ⟨rfl, hb⟩

set_option maxRecDepth 100000 in
set_option maxHeartbeats 3200000 in
theorem MeetWalks_bad (k a b side i1 i2 most : Int) (A : Option Addr) (xs : List Nat) (c : Nat) (w : World) (hb0 : 0 ≤ b ∧ b < 18446744073709551616) (hx : xs.length ≤ c) (hc : c ≤ 9223372036854775807) (h : Rd w w.heap.size A (fl xs)) (hbad : meetB k a b side xs i1 i2 most = false) :
    Calls Try.prog 69 #[.agg #[.int .i64 k, .int .u64 a, .int .u64 b], .agg #[.int .i64 side, .slice A xs.length c], .int .i64 i1, .int .i64 i2, .int .i64 most] w (mtOut 0 0 0 0 0 false w) := by
  have HS := Lib.hid fun w => ValidSeed_any k a b hb0 w
  have HV := Lib.hid fun W h => ValidChain_any side A xs c W hx hc h
  have HT1 := Lib.hid fun (hn : 1 ≤ side ∧ side ≤ 12) W => isState_any side i1 A xs.length c W hn
  have HT2 := Lib.hid fun (hn : 1 ≤ side ∧ side ≤ 12) W => isState_any side i2 A xs.length c W hn
  have HW := Lib.hid fun w => within_any most 0 512 w
  have HSIDE : Hid (validB side xs = true → 1 ≤ side ∧ side ≤ 12) := Lib.hid fun hv => by
    obtain ⟨n, hn, h1, h2, -⟩ := validB_facts hv
    omega
  unfold meetB at hbad
  clear hx hc hb0
  generalize seedB k a b = d1 at *
  generalize validB side xs = d2 at *
  generalize stateB side i1 = d3 at *
  generalize stateB side i2 = d4 at *
  generalize inB most 0 512 = d5 at *
  have hcase : d1 = false ∨ (d1 = true ∧ d2 = false) ∨ (d1 = true ∧ d2 = true ∧ d3 = false) ∨ (d1 = true ∧ d2 = true ∧ d3 = true ∧ d4 = false) ∨ (d1 = true ∧ d2 = true ∧ d3 = true ∧ d4 = true ∧ d5 = false) := by
    cases d1 <;> cases d2 <;> cases d3 <;> cases d4 <;> cases d5 <;> simp_all
  clear hbad
  rcases hcase with rfl | ⟨rfl, rfl⟩ | ⟨rfl, rfl, rfl⟩ | ⟨rfl, rfl, rfl, rfl⟩ | ⟨rfl, rfl, rfl, rfl, rfl⟩
  all_goals
    first | (have HU1 := Lib.hid (HT1.out (HSIDE.out rfl)); have HU2 := Lib.hid (HT2.out (HSIDE.out rfl))) | skip
    go_enter Try.func69, Try.ntmps69
    go_wp2_with fail
    generalize hW1 : World.alloc (World.alloc (World.alloc w _) _) _ = W1
    have hx1 : Bx w.heap.size k a b side A xs.length c W1 := by rw [← hW1]; simp [Bx, SdAt, go_sem]
    have HB1 : Hid (Below w.heap.size w W1) := by rw [← hW1]; exact Lib.hid (below_al (below_al (below_al (Below.refl _ _) _) _) _)
    clear hW1
    refine (HS.out _).mono ?_
    rintro e w2 ⟨rfl, hb2⟩
    have HXq := Lib.hid (hx1.keep hb2)
    have HBq := Lib.hid (below_next HB1.out hb2)
    clear hx1 hb2
    obtain ⟨⟨s0, s1, s2, sf⟩, n0, n1, ⟨z0, z1, z2, zf⟩⟩ := HXq.out
    go_wp2_with (first
      | (go_at_call 36; refine (HV.out _ (h.at_ HBq.out)).mono ?_; rintro e w3 ⟨rfl, hb3⟩; have HXq := Lib.hid (HXq.out.keep hb3); have HBq := Lib.hid (below_next HBq.out hb3); clear hb3; obtain ⟨⟨s0, s1, s2, sf⟩, n0, n1, ⟨z0, z1, z2, zf⟩⟩ := HXq.out)
      | (go_at_call 129; (with_reducible refine (HU1.out _).mono ?_); rintro e w4 ⟨rfl, hb4⟩; have HXq := Lib.hid (HXq.out.keep hb4); have HBq := Lib.hid (below_next HBq.out hb4); clear hb4; obtain ⟨⟨s0, s1, s2, sf⟩, n0, n1, ⟨z0, z1, z2, zf⟩⟩ := HXq.out)
      | (go_at_call 129; (with_reducible refine (HU2.out _).mono ?_); rintro e w4 ⟨rfl, hb4⟩; have HXq := Lib.hid (HXq.out.keep hb4); have HBq := Lib.hid (below_next HBq.out hb4); clear hb4; obtain ⟨⟨s0, s1, s2, sf⟩, n0, n1, ⟨z0, z1, z2, zf⟩⟩ := HXq.out)
      | (go_at_call 96; refine (HW.out _).mono ?_; rintro e w5 ⟨rfl, m5, rfl⟩; have HBq := Lib.hid (below_drewN HBq.out m5)))
    refine bodyPost_ret (v := .tuple #[.agg #[.int .i64 0, .int .u64 0, .int .u64 0], .int .i64 0, .int .i64 0, .bool false]) (by simp [results, Try.results69, go_sem, z0, z1, z2]) rfl ⟨rfl, ?_⟩
    exact below_set (below_set (below_set HBq.out _ _ (by first | omega | (simp; omega))) _ _ (by first | omega | (simp; omega))) _ _ (by first | omega | (simp; omega))
theorem meetB_ok {k a b side : Int} {xs : List Nat} {i1 i2 most : Int} (h : meetB k a b side xs i1 i2 most = true) : ∃ n j1 j2 M : Nat, side = n ∧ i1 = j1 ∧ i2 = j2 ∧ most = M ∧ 1 ≤ n ∧ n ≤ 12 ∧ j1 < n ∧ j2 < n ∧ M ≤ 512 ∧ seedB k a b = true ∧ validB n xs = true ∧ stateB n j1 = true ∧ stateB n j2 = true ∧ inB M 0 512 = true := by
  unfold meetB at h
  rw [Bool.and_eq_true, Bool.and_eq_true, Bool.and_eq_true, Bool.and_eq_true] at h
  obtain ⟨h1, h2, h3, h4, h5⟩ := h
  obtain ⟨n, rfl, n1, n2, -⟩ := validB_facts h2
  have h3' := of_decide_eq_true h3
  have h4' := of_decide_eq_true h4
  have h5' := of_decide_eq_true h5
  obtain ⟨j1, rfl⟩ := Int.eq_ofNat_of_zero_le h3'.1
  obtain ⟨j2, rfl⟩ := Int.eq_ofNat_of_zero_le h4'.1
  obtain ⟨M, rfl⟩ := Int.eq_ofNat_of_zero_le h5'.1
  exact ⟨n, j1, j2, M, rfl, rfl, rfl, rfl, n1, n2, by omega, by omega, by omega, h1, h2, h3, h4, h5⟩

set_option maxRecDepth 100000 in
set_option maxHeartbeats 6400000 in
theorem MeetWalks_ok (k a b : Int) (n i1 i2 M : Nat) (A : Option Addr) (xs : List Nat) (c : Nat) (w : World) (hb0 : 0 ≤ b ∧ b < 18446744073709551616) (hx : xs.length ≤ c) (hc : c ≤ 9223372036854775807) (h : Rd w w.heap.size A (fl xs)) (hok : meetB k a b n xs i1 i2 M = true) :
    Calls Try.prog 69 #[.agg #[.int .i64 k, .int .u64 a, .int .u64 b], .agg #[.int .i64 n, .slice A xs.length c], .int .i64 i1, .int .i64 i2, .int .i64 M] w (mtGive xs n k a b i1 i2 M w) := by
  obtain ⟨n', i1', i2', M', hn', hi1', hi2', hM', n1, n2, hi1, hi2, hM, h1, h2, h3, h4, h5⟩ := meetB_ok hok
  obtain rfl : n = n' := by omega
  obtain rfl : i1 = i1' := by omega
  obtain rfl : i2 = i2' := by omega
  obtain rfl : M = M' := by omega
  have HS := Lib.hid fun w => ValidSeed_any k a b hb0 w
  have HV := Lib.hid fun W h => ValidChain_any n A xs c W hx hc h
  have HT1 := Lib.hid fun W => isState_any n i1 A xs.length c W (by omega)
  have HT2 := Lib.hid fun W => isState_any n i2 A xs.length c W (by omega)
  have HW := Lib.hid fun w => within_any M 0 512 w
  rw [h1] at HS
  rw [h2] at HV
  rw [h3] at HT1
  rw [h4] at HT2
  rw [h5] at HW
  obtain ⟨n', hn', -, -, hl, hp, hrw⟩ := validB_facts h2
  obtain rfl : n = n' := by omega
  have HSH : Hid (∀ t w, Calls Try.prog 130 #[.agg #[.int .i64 k, .int .u64 (sdT k a b t).1, .int .u64 (sdT k a b t).2]] w (ShareOut k (sdT k a b t).1 (sdT k a b t).2 w)) := Lib.hid fun t w => share_any k _ _ (seedB_kind h1) w
  have HGO : Hid (∀ j u W, j < n → isNan single u = false → Below w.heap.size w W → Calls Try.prog 131 #[.agg #[.int .i64 n, .slice A xs.length c], .int .i64 (j : Nat), .float .f32 u] W (fun e w' => e = .returned (.int .i64 (onC xs n j u)) ∧ Below W.heap.size W w')) := Lib.hid fun j u W hj hu hW => goOn_any n j u A xs c W hx hc h2 hj hu (h.at_ hW)
  have HSD : Hid (∀ t, nA k (sdT k a b t).1 (sdT k a b t).2 = (sdT k a b (t + 1)).1 ∧ nB k (sdT k a b t).1 (sdT k a b t).2 = (sdT k a b (t + 1)).2 ∧ nU k (sdT k a b t).1 (sdT k a b t).2 = uT k a b t) := Lib.hid fun t => ⟨rfl, rfl, rfl⟩
  have HPO : Hid (∀ i t, posT xs n k a b i (t + 1) = onC xs n (posT xs n k a b i t) (uT k a b t)) := Lib.hid fun i t => rfl
  have HPL : Hid (∀ t, posT xs n k a b i1 t < n ∧ posT xs n k a b i2 t < n ∧ isNan single (uT k a b t) = false) := Lib.hid fun t => ⟨posT_lt hl hi1 t, posT_lt hl hi2 t, (nU_fin _ _ _).2⟩
  have H0 : Hid ((sdT k a b 0) = (a, b) ∧ posT xs n k a b i1 0 = i1 ∧ posT xs n k a b i2 0 = i2) := Lib.hid ⟨rfl, rfl, rfl⟩
  have HRD := Lib.hid h
  clear hok hn' hi1' hi2' hM' h1 h2 h3 h4 h5 hl hp hrw hb0 hx hc h
  unfold ShareOut at HSH
  go_enter Try.func69, Try.ntmps69
  go_wp2_with fail
  generalize hW1 : World.alloc (World.alloc (World.alloc w _) _) _ = W1
  have hx1 : Bx w.heap.size k a b n A xs.length c W1 := by rw [← hW1]; simp [Bx, SdAt, go_sem]
  have HB1 : Hid (Below w.heap.size w W1) := by rw [← hW1]; exact Lib.hid (below_al (below_al (below_al (Below.refl _ _) _) _) _)
  clear hW1
  refine (HS.out _).mono ?_
  rintro e w2 ⟨rfl, hb2⟩
  have HXq := Lib.hid (hx1.keep hb2)
  have HBq := Lib.hid (below_next HB1.out hb2)
  clear hx1 hb2
  obtain ⟨⟨s0, s1, s2, sf⟩, n0, n1', ⟨z0, z1, z2, zf⟩⟩ := HXq.out
  go_wp2_with (first
    | (go_at_call 36; refine (HV.out _ (HRD.out.at_ HBq.out)).mono ?_; rintro e w3 ⟨rfl, hb3⟩; have HXq := Lib.hid (HXq.out.keep hb3); have HBq := Lib.hid (below_next HBq.out hb3); clear hb3; obtain ⟨⟨s0, s1, s2, sf⟩, n0, n1', ⟨z0, z1, z2, zf⟩⟩ := HXq.out)
    | (go_at_call 129; (with_reducible refine (HT1.out _).mono ?_); rintro e w4 ⟨rfl, hb4⟩; have HXq := Lib.hid (HXq.out.keep hb4); have HBq := Lib.hid (below_next HBq.out hb4); clear hb4; obtain ⟨⟨s0, s1, s2, sf⟩, n0, n1', ⟨z0, z1, z2, zf⟩⟩ := HXq.out)
    | (go_at_call 129; (with_reducible refine (HT2.out _).mono ?_); rintro e w4 ⟨rfl, hb4⟩; have HXq := Lib.hid (HXq.out.keep hb4); have HBq := Lib.hid (below_next HBq.out hb4); clear hb4; obtain ⟨⟨s0, s1, s2, sf⟩, n0, n1', ⟨z0, z1, z2, zf⟩⟩ := HXq.out)
    | (go_at_call 96; refine (HW.out _).mono ?_; rintro e w5 ⟨rfl, m5, rfl⟩; have HXq := Lib.hid (HXq.out.dn m5); have HBq := Lib.hid (below_drewN HBq.out m5)))
  have START : Hid (Bx w.heap.size k (sdT k a b 0).1 (sdT k a b 0).2 n A xs.length c _ ∧ Below w.heap.size w _) := Lib.hid ⟨by rw [H0.out.1]; exact HXq.out, HBq.out⟩
  clear s0 s1 s2 sf n0 n1' z0 z1 z2 zf
  go_loopw [2, 3, 14, 15] (fun f g md _ wr => ∃ t : Nat, t ≤ M ∧ md = .int .i64 t ∧ f = .int .i64 (posT xs n k a b i1 t : Nat) ∧ g = .int .i64 (posT xs n k a b i2 t : Nat) ∧ (∀ q, q < t → posT xs n k a b i1 q ≠ posT xs n k a b i2 q) ∧ Bx w.heap.size k (sdT k a b t).1 (sdT k a b t).2 n A xs.length c wr ∧ Below w.heap.size w wr) (fun _ _ md _ _ => M - (intOf md).toNat)
  case atStart => exact ⟨0, Nat.zero_le _, rfl, by rw [H0.out.2.1], by rw [H0.out.2.2], (fun q hq => by omega), START.out.1, START.out.2⟩
  case round =>
    obtain ⟨t, ht, rfl, rfl, rfl, hno, hbx, hbw⟩ := hrel
    rename_i wr
    have HX := Lib.hid hbx
    have HB := Lib.hid hbw
    have HNO := Lib.hid hno
    obtain ⟨⟨s0, s1, s2, sf⟩, n0, n1', ⟨z0, z1, z2, zf⟩⟩ := hbx
    have hlt := HX.out.lt
    clear hbw hno
    obtain ⟨p1, p2, pu⟩ := HPL.out t
    have HPU := Lib.hid pu
    by_cases heq : posT xs n k a b i1 t = posT xs n k a b i2 t
    · have HMT := Lib.hid (meetT_some ht HNO.out heq)
      generalize hst : sdT k a b t = st at *
      have HST := Lib.hid hst
      obtain ⟨aT, bT⟩ := st
      generalize hj1 : posT xs n k a b i1 t = j1 at *
      have HJ1 := Lib.hid hj1
      rw [← heq] at *
      clear hst hj1 heq pu
      go_wp2_with fail
      have hX7 := (HX.out.2.2.2).set k aT bT
      have hB7 := below_set (below_set (below_set HB.out ⟨w.heap.size + 1 + 1, 0, none⟩ (.int .i64 k) (by simp; omega)) ⟨w.heap.size + 1 + 1, 1, none⟩ (.int .u64 aT) (by simp; omega)) ⟨w.heap.size + 1 + 1, 2, none⟩ (.int .u64 bT) (by simp; omega)
      generalize World.setCell (World.setCell (World.setCell _ _ _) _ _) _ _ = W7 at hX7 hB7 ⊢
      clear s0 s1 s2 sf n0 n1' z0 z1 z2 zf
      obtain ⟨y0, y1, y2, -⟩ := hX7
      refine bodyPost_ret (v := .tuple #[.agg #[.int .i64 k, .int .u64 aT, .int .u64 bT], .int .i64 (t : Int), .int .i64 (j1 : Int), .bool true]) (by simp [results, Try.results69, go_sem, y0, y1, y2]) rfl (mtGive_some HMT.out HST.out HJ1.out hB7)
    · by_cases htM : t = M
      · have HMT := Lib.hid (meetT_none (M := M) (fun q hq => by
          rcases Nat.lt_or_ge q t with hl | hg
          · exact HNO.out q hl
          · obtain rfl : q = t := by omega
            exact heq))
        subst htM
        generalize posT xs n k a b i1 t = j1 at *
        generalize posT xs n k a b i2 t = j2 at *
        have hne : ((j1 : Int) != (j2 : Int)) = true := by simp; omega
        clear heq pu
        go_wp2_with fail
        refine bodyPost_ret (v := .tuple #[.agg #[.int .i64 0, .int .u64 0, .int .u64 0], .int .i64 0, .int .i64 0, .bool false]) (by simp [results, Try.results69, go_sem, z0, z1, z2]) rfl (mtGive_none HMT.out ?_)
        exact below_set (below_set (below_set HB.out _ _ (by first | omega | (simp; omega))) _ _ (by first | omega | (simp; omega))) _ _ (by first | omega | (simp; omega))
      · have HN2 : Hid (∀ q, q < t + 1 → posT xs n k a b i1 q ≠ posT xs n k a b i2 q) := Lib.hid fun q hq => by
          rcases Nat.lt_or_ge q t with hl | hg
          · exact HNO.out q hl
          · obtain rfl : q = t := by omega
            exact heq
        have hmm : ((t : Int) == (M : Int)) = false := by simp; omega
        have htM' : t < M := by omega
        clear htM
        obtain ⟨q1, q2, q3⟩ := HSD.out t
        have hsh := HSH.out t
        rw [q1, q2, q3] at hsh
        have HSHt := Lib.hid hsh
        have HPO1 := Lib.hid (HPO.out i1 t)
        have HPO2 := Lib.hid (HPO.out i2 t)
        clear q1 q2 q3 hsh
        generalize hst : sdT k a b t = st at *
        generalize hst' : sdT k a b (t + 1) = st' at *
        have HST := Lib.hid hst'
        clear hst hst'
        obtain ⟨aT, bT⟩ := st
        obtain ⟨a', b'⟩ := st'
        generalize uT k a b t = u at *
        generalize posT xs n k a b i1 t = j1 at *
        generalize posT xs n k a b i2 t = j2 at *
        have hne : ((j1 : Int) != (j2 : Int)) = true := by simp; omega
        clear heq pu
        go_wp2_with (go_at_call 130; refine (HSHt.out _).mono ?_; rintro e w6 ⟨rfl, hb6⟩; have HX6 := Lib.hid (HX.out.keep hb6); have HB6 := Lib.hid (below_next HB.out hb6); clear hb6 s0 s1 s2 sf n0 n1' z0 z1 z2 zf; obtain ⟨⟨s0, s1, s2, sf⟩, n0, n1', ⟨z0, z1, z2, zf⟩⟩ := HX6.out)
        have hX7 := HX6.out.set k a' b'
        have hB7 := below_set (below_set (below_set HB6.out ⟨w.heap.size, 0, none⟩ (.int .i64 k) (Nat.le_refl _)) ⟨w.heap.size, 1, none⟩ (.int .u64 a') (Nat.le_refl _)) ⟨w.heap.size, 2, none⟩ (.int .u64 b') (Nat.le_refl _)
        generalize World.setCell (World.setCell (World.setCell _ _ _) _ _) _ _ = W7 at hX7 hB7 ⊢
        have HX7 := Lib.hid hX7
        have HB7 := Lib.hid hB7
        clear s0 s1 s2 sf n0 n1' z0 z1 z2 zf hB7
        obtain ⟨-, c0, c1, -⟩ := hX7
        have hMk : Hid (∀ W, Below W7.heap.size W7 W → W.cell? ⟨w.heap.size + 1, 0, none⟩ = some (.int .i64 n) ∧ W.cell? ⟨w.heap.size + 1, 1, none⟩ = some (.slice A xs.length c)) := Lib.hid fun W hW => ⟨keepC hW c0, keepC hW c1⟩
        go_region_held3 (fun W => W.cell? ⟨w.heap.size + 1, 0, none⟩ = some (.int .i64 n) ∧ W.cell? ⟨w.heap.size + 1, 1, none⟩ = some (.slice A xs.length c))
          (first | exact hMk.out _ (by first | exact (Below.refl _ _).drew | assumption))
          (first
            | (go_at_call 131; refine (HGO.out _ _ _ (by assumption) HPU.out (below_next HB7.out (by first | exact (Below.refl _ _).drew | assumption))).mono ?_; rintro e w8 ⟨rfl, hb8⟩; have hk8 : Below W7.heap.size W7 w8 := below_next (by first | exact (Below.refl _ _).drew | assumption) hb8))
        all_goals
          go_wp2_with fail
          go_roundw
          case rel => exact ⟨t + 1, by omega, by go_num, by rw [HPO1.out], by rw [HPO2.out], HN2.out, by rw [HST.out]; exact HX7.out.keep hk8, below_next HB7.out hk8⟩
          case measure => simp [intOf]; omega
end Go.Proofs.Ytddaodjaeommlaa
