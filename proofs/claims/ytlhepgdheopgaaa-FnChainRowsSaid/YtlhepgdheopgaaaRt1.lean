/-
  impl.RestOf.
-/
import Derived.Test.YtlhepgdheopgaaaRt0
import Derived.Test.YtlhepgdheopgaaaRp1
import Derived.Test.YtlhepgdheopgaaaRun
import Derived.Test.YtlhepgdheopgaaaBal
namespace Go.Proofs.Ytlhepgdheopgaaa
open Go Go.RowKit Ieee

/-- a row of single numbers of the call's own, how many steps were made, and whether there is one -/
def rtOut (ys : List Nat) (made : Int) (ok : Bool) (w : World) : Ending → World → Prop := fun e w' =>
  ∃ A c, e = .returned (.tuple #[.slice A ys.length c, .int .i64 made, .bool ok]) ∧ w'.ownsRow w.heap.size 31 1 (.slice A ys.length c) ys.length (fl ys) ∧ Below w.heap.size w w'
theorem rtOut_none {w w' : World} (hb : Below w.heap.size w w') : rtOut [] 0 false w (.returned (.tuple #[.slice none 0 0, .int .i64 0, .bool false])) w' := ⟨none, 0, rfl, World.ownsRow_nil _ _ _ _, hb⟩
/-- what is given of a chain -/
def rtGive (xs : List Nat) (n near M : Nat) (w : World) : Ending → World → Prop := rtOut (restL xs n (restT xs n near M)) (restN (restT xs n near M)) (restT xs n near M).isSome w
theorem rtGive_some {xs : List Nat} {n near M t : Nat} {A : Option Addr} {c : Nat} {w w' : World} (h : restT xs n near M = some t) (hl : (restR xs n (t + 1)).length = n) (ho : w'.ownsRow w.heap.size 31 1 (.slice A n c) n (fl (restR xs n (t + 1)))) (hb : Below w.heap.size w w') :
    rtGive xs n near M w (.returned (.tuple #[.slice A n c, .int .i64 ((t + 1 : Nat) : Int), .bool true])) w' := by
  unfold rtGive
  rw [h]
  refine ⟨A, c, ?_, ?_, hb⟩
  · show _ = Ending.returned (.tuple #[.slice A (restR xs n (t + 1)).length c, .int .i64 ((t + 1 : Nat) : Int), .bool true])
    rw [hl]
  · show w'.ownsRow w.heap.size 31 1 (.slice A (restR xs n (t + 1)).length c) (restR xs n (t + 1)).length (fl (restR xs n (t + 1)))
    rw [hl]
    exact ho
theorem rtGive_none {xs : List Nat} {n near M : Nat} {w w' : World} (h : restT xs n near M = none) (hb : Below w.heap.size w w') : rtGive xs n near M w (.returned (.tuple #[.slice none 0 0, .int .i64 0, .bool false])) w' := by
  unfold rtGive
  rw [h]
  exact rtOut_none hb
theorem least_parts (x : Nat) : leastB x = (isFin single x && !(FloatKind.f32.format.order x 0 == some .lt)) := by
  have h := badRow_least x
  have : badRow x = (!isFin single x || (FloatKind.f32.format.order x 0 == some .lt)) := rfl
  rw [this] at h
  cases h1 : isFin single x <;> cases h2 : (FloatKind.f32.format.order x 0 == some .lt) <;> cases h3 : leastB x <;> simp_all

set_option maxRecDepth 100000 in
set_option maxHeartbeats 3200000 in
theorem RestOf_bad (side : Int) (A : Option Addr) (xs : List Nat) (c near : Nat) (most : Int) (w : World) (hx : xs.length ≤ c) (hc : c ≤ 9223372036854775807) (hA : Rd w w.heap.size A (fl xs)) (hbad : restB side xs near most = false) :
    Calls Try.prog 19 #[.agg #[.int .i64 side, .slice A xs.length c], .float .f32 near, .int .i64 most] w (rtOut [] 0 false w) := by
  have HV := Lib.hid fun W h => ValidChain_any side A xs c W hx hc h
  have HN := Lib.hid fun W => IsFinite_any near W
  have HW := Lib.hid fun W => within_any most 1 512 W
  unfold restB at hbad
  rw [least_parts] at hbad
  clear hx hc
  generalize validB side xs = d1 at *
  generalize isFin single near = d2 at *
  generalize inB most 1 512 = d4 at *
  generalize hd3 : (FloatKind.f32.format.order near 0 == some .lt) = d3 at *
  have hcase : d1 = false ∨ (d1 = true ∧ d2 = false) ∨ (d1 = true ∧ d2 = true ∧ d3 = true) ∨ (d1 = true ∧ d2 = true ∧ d3 = false ∧ d4 = false) := by
    cases d1 <;> cases d2 <;> cases d3 <;> cases d4 <;> simp_all
  clear hbad
  rcases hcase with rfl | ⟨rfl, rfl⟩ | ⟨rfl, rfl, rfl⟩ | ⟨rfl, rfl, rfl, rfl⟩
  all_goals
    go_enter Try.func19, Try.ntmps19
    go_wp2_with fail
    refine (HV.out _ (hA.at_ (below_al (Below.refl _ _) _))).mono ?_
    rintro e w1 ⟨rfl, hb1⟩
    have HB := Lib.hid (below_next (below_al (Below.refl _ _) _) hb1)
    clear hb1
    go_wp2_with (first
      | (go_at_call 40; refine (HN.out _).mono ?_; rintro e w2 ⟨rfl, m2, rfl⟩)
      | (go_at_call 51; refine (HW.out _).mono ?_; rintro e w3 ⟨rfl, m3, rfl⟩))
    refine bodyPost_ret (v := .tuple #[.slice none 0 0, .int .i64 0, .bool false]) (by simp [results, Try.results19, go_sem]) rfl (rtOut_none ?_)
    repeat (first | exact HB.out | refine below_drewN ?_ _)

set_option maxRecDepth 100000 in
set_option maxHeartbeats 3200000 in
theorem RestOf_ok (n : Nat) (A : Option Addr) (xs : List Nat) (c near M : Nat) (w : World) (hx : xs.length ≤ c) (hc : c ≤ 9223372036854775807) (hA : Rd w w.heap.size A (fl xs)) (hv : validB n xs = true) (hn : leastB near = true) (hM : inB M 1 512 = true) :
    Calls Try.prog 19 #[.agg #[.int .i64 n, .slice A xs.length c], .float .f32 near, .int .i64 M] w (rtGive xs n near M w) := by
  obtain ⟨n', hn', hn1, hn2, hl, hp, ho⟩ := validB_facts hv
  obtain rfl : n = n' := by omega
  have HV := Lib.hid fun W h => ValidChain_any n A xs c W hx hc h
  have HN := Lib.hid fun W => IsFinite_any near W
  have HW := Lib.hid fun W => within_any M 1 512 W
  have hM2 : 1 ≤ M ∧ M ≤ 512 := by have := of_decide_eq_true hM; omega
  have hnl : isFin single near = true ∧ (FloatKind.f32.format.order near 0 == some .lt) = false := by
    have := hn
    rw [least_parts] at this
    simpa using this
  obtain ⟨hnf, hn0⟩ := hnl
  rw [hv] at HV
  rw [hnf] at HN
  rw [hM] at HW
  obtain ⟨q1, q2, -⟩ := partQ_ok hn1 hn2
  have e1 := fun w => run_float_arith (P := Try.prog) w .quo 31 .f32 _ _ _ q1
  have HRK := Lib.hid fun t ht => restR_ok hv t ht
  have HR0 : Hid (fl (restR xs n 0) = fl (List.replicate n (partQ n))) := Lib.hid rfl
  have HST : Hid (∀ t A' c' W, t < 512 → Rd W W.heap.size A (fl xs) → Rd W W.heap.size A' (fl (restR xs n t)) → Calls Try.prog 12 #[.agg #[.int .i64 n, .slice A xs.length c], .slice A' n c'] W (fun e w' => ∃ A5 c5, e = .returned (.tuple #[.slice A5 n c5, .bool true]) ∧ w'.ownsRow W.heap.size 31 1 (.slice A5 n c5) n (fl (restR xs n (t + 1))) ∧ Below W.heap.size W w')) := Lib.hid fun t A' c' W ht h h' => by
    obtain ⟨a1, a2⟩ := restR_ok hv t (by omega)
    have := StepRow_ok n A xs c A' (restR xs n t) c' W hx hc h h' (fitB_mk hv hn1 hn2 a1 a2)
    unfold rowGive at this
    rw [restR_fin hv ht, a1, if_pos rfl] at this
    unfold flOut at this
    rw [stepRow_len] at this
    exact this
  have HCR : Hid (∀ t k, t < 512 → k < n → floatBits .sub .f32 (rowOf (restR xs n (t + 1)) k) (rowOf (restR xs n t) k) = some (chgAt (restR xs n (t + 1)) (restR xs n t) k) ∧ isFin single (chgAt (restR xs n (t + 1)) (restR xs n t) k) = true) := Lib.hid fun t k ht hk => by
    obtain ⟨a1, a2⟩ := restR_ok hv t (by omega)
    obtain ⟨b1, b2⟩ := restR_ok hv (t + 1) (by omega)
    exact chgAt_runs b1 b2 a1 a2 hk
  have HCO : Hid (∀ t k, t < 512 → k ≤ n → negOf single (chgTo (restR xs n (t + 1)) (restR xs n t) k) = false ∧ isFin single (chgTo (restR xs n (t + 1)) (restR xs n t) k) = true) := Lib.hid fun t k ht hk => by
    obtain ⟨a1, a2⟩ := restR_ok hv t (by omega)
    obtain ⟨b1, b2⟩ := restR_ok hv (t + 1) (by omega)
    exact chgTo_ok b1 b2 a1 a2 k hk
  have HCM : Hid (∀ t k, t < 512 → k < n → maxF (chgTo (restR xs n (t + 1)) (restR xs n t) k) (fabs (chgAt (restR xs n (t + 1)) (restR xs n t) k)) = chgTo (restR xs n (t + 1)) (restR xs n t) (k + 1)) := Lib.hid fun t k ht hk => by
    obtain ⟨a1, a2⟩ := restR_ok hv t (by omega)
    obtain ⟨b1, b2⟩ := restR_ok hv (t + 1) (by omega)
    exact chgTo_max b1 b2 a1 a2 hk
  have HC0 : Hid (∀ t, chgTo (restR xs n (t + 1)) (restR xs n t) 0 = 0) := Lib.hid fun t => rfl
  have HCD : Hid (∀ t, chgTo (restR xs n (t + 1)) (restR xs n t) n = restD xs n t) := Lib.hid fun t => rfl
  have HCB : Hid (∀ d, closeB d near = (FloatKind.f32.format.order d near == some .lt || FloatKind.f32.format.order d near == some .eq)) := Lib.hid fun d => rfl
  have HSOME : Hid (∀ t, t < M → (∀ q, q < t → closeB (restD xs n q) near = false) → closeB (restD xs n t) near = true → restT xs n near M = some t) := Lib.hid fun t h1 h2 h3 => restT_some h1 h2 h3
  have HNONE : Hid ((∀ q, q < M → closeB (restD xs n q) near = false) → restT xs n near M = none) := Lib.hid fun h => restT_none h
  have HREP := Lib.hid fun b c' W h => Repeat_any (partQ n) b c' n W hn1 hn2 h
  have HA := Lib.hid hA
  clear q1 q2 hv hn hM hnf hl hp ho hx hc hA hn'
  generalize partQ n = pq at *
  go_enter Try.func19, Try.ntmps19
  go_wp2_with fail
  refine (HV.out _ (HA.out.at_ (below_al (Below.refl _ _) _))).mono ?_
  rintro e w1 ⟨rfl, hb1⟩
  have z0 : w1.cell? ⟨w.heap.size, 0, none⟩ = some (.int .i64 n) := keepC hb1 (by simp [go_sem])
  have z1 : w1.cell? ⟨w.heap.size, 1, none⟩ = some (.slice A xs.length c) := keepC hb1 (by simp [go_sem])
  have s1 : w.heap.size < w1.heap.size := by have := hb1.size; simp at this; omega
  have z2 : ∀ m o, (World.alloc (w1.drewN m) o).cell? ⟨w.heap.size, 0, none⟩ = some (.int .i64 n) := fun m o => (World.cell?_alloc_lt (w1.drewN m) o ⟨w.heap.size, 0, none⟩ s1).trans z0
  have HB1 := Lib.hid (below_next (below_al (Below.refl _ _) _) hb1)
  clear hb1 HV
  go_wp2_with (first
    | (go_at_call 40; refine (HN.out _).mono ?_; rintro e w2 ⟨rfl, m2, rfl⟩)
    | (go_at_call 51; refine (HW.out _).mono ?_; rintro e w3 ⟨rfl, m3, rfl⟩))
  generalize hW2 : World.alloc (World.drewN w1 _) _ = W2
  have hb2 : Below w1.heap.size w1 W2 := by rw [← hW2]; exact below_al (below_drewN (Below.refl _ _) _) _
  have hx2 : W2.cell? ⟨w1.heap.size, 0, none⟩ = some (.float .f32 pq) := by rw [← hW2]; exact World.cell?_alloc_new (w := w1.drewN _) _ _ 0
  have y0 : W2.cell? ⟨w.heap.size, 0, none⟩ = some (.int .i64 n) := keepC hb2 z0
  have y1 : W2.cell? ⟨w.heap.size, 1, none⟩ = some (.slice A xs.length c) := keepC hb2 z1
  have HB2 := Lib.hid (below_next HB1.out hb2)
  clear hW2 z0 z1 hb2 HB1
  refine (HREP.out _ _ _ hx2).mono ?_
  rintro e w3 ⟨A3, c3, rfl, hown3, hb3⟩
  have x0 : w3.cell? ⟨w.heap.size, 0, none⟩ = some (.int .i64 n) := keepC hb3 y0
  have x1 : w3.cell? ⟨w.heap.size, 1, none⟩ = some (.slice A xs.length c) := keepC hb3 y1
  have HO3 : Hid (w3.ownsRow w.heap.size 31 1 (.slice A3 n c3) n (fl (restR xs n 0))) := Lib.hid (by rw [HR0.out]; exact own_base hown3 HB2.out.size)
  have HB3 := Lib.hid (below_next HB2.out hb3)
  clear hown3 hb3 y0 y1 hx2 HREP HR0 HN HW e1
  go_wp2_with fail
  go_loopw [9, 10] (fun v i wr => ∃ t : Nat, t ≤ M ∧ i = .int .i64 ((t + 1 : Nat) : Int) ∧ (∀ q, q < t → closeB (restD xs n q) near = false) ∧ Below w3.heap.size w3 wr ∧ ∃ A4 c4, v = .slice A4 n c4 ∧ wr.ownsRow w.heap.size 31 1 (.slice A4 n c4) n (fl (restR xs n t))) (fun _ i _ => M + 1 - (intOf i).toNat)
  case atStart => exact ⟨0, Nat.zero_le _, rfl, fun q hq => absurd hq (by omega), Below.refl _ _, A3, c3, rfl, HO3.out⟩
  case round =>
    obtain ⟨t, ht, rfl, hno, hbw, A4, c4, rfl, hown⟩ := hrel
    rename World => wr
    have g0 : wr.cell? ⟨w.heap.size, 0, none⟩ = some (.int .i64 n) := keepC hbw x0
    have g1 : wr.cell? ⟨w.heap.size, 1, none⟩ = some (.slice A xs.length c) := keepC hbw x1
    have HNO := Lib.hid hno
    have HOWN := Lib.hid hown
    have HBW := Lib.hid (below_next HB3.out hbw)
    have HBX := Lib.hid hbw
    clear hno hown hbw
    by_cases hlt : t < M
    · have ht5 : t < 512 := by omega
      have hst := Lib.hid (HST.out t A4 c4 wr ht5 (HA.out.at_ HBW.out) (Rd.of_own HOWN.out))
      have hrl := (HRK.out t (by omega)).1
      have hrl2 := (HRK.out (t + 1) (by omega)).1
      have HCR' := Lib.hid fun k hk => HCR.out t k ht5 hk
      have HCO' := Lib.hid fun k hk => HCO.out t k ht5 hk
      have HCM' := Lib.hid fun k hk => HCM.out t k ht5 hk
      have HC0' := Lib.hid (HC0.out t)
      have HCD' := Lib.hid (HCD.out t)
      have HSOME' := Lib.hid (HSOME.out t hlt HNO.out)
      have HRL := Lib.hid hrl
      have HRL2 := Lib.hid hrl2
      clear hrl hrl2 HCR HCO HCM HC0 HCD
      have HNEXT : Hid (closeB (restD xs n t) near = false → ∀ q, q < t + 1 → closeB (restD xs n q) near = false) := Lib.hid fun h q hq => by
        rcases Nat.lt_or_ge q t with h1 | h1
        · exact HNO.out q h1
        · obtain rfl : q = t := by omega
          exact h
      go_wp2_with (go_at_call 12; refine (hst.out).mono ?_; rintro e w5 ⟨A5, c5, rfl, hown5, hb5⟩)
      rename World => w5
      obtain ⟨b4, o4, rfl, hb4, hc4⟩ := Rd.of_own HOWN.out (by rw [fl_len, HRL.out]; omega)
      have HC4 : Hid (∀ k, k < n → w5.cell? ⟨b4, o4 + k, none⟩ = some (.float .f32 (rowOf (restR xs n t) k))) := Lib.hid fun k hk => keepC hb5 (rowOf_cell (by rw [HRL.out]; exact hk) hc4)
      obtain ⟨b6, o6, rfl, hb6, hc6⟩ := Rd.of_own hown5 (by rw [fl_len, HRL2.out]; omega)
      have HC6 : Hid (∀ k, k < n → w5.cell? ⟨b6, o6 + k, none⟩ = some (.float .f32 (rowOf (restR xs n (t + 1)) k))) := Lib.hid fun k hk => rowOf_cell (by rw [HRL2.out]; exact hk) hc6
      have HO5 := Lib.hid (own_base (base' := w.heap.size) hown5 HBW.out.size)
      have HB5 := Lib.hid (below_next HBX.out hb5)
      have HB5w := Lib.hid (below_next HBW.out hb5)
      clear hb4 hc4 hb6 hc6 hown5 hb5 hst
      generalize chgTo (restR xs n (t + 1)) (restR xs n t) = ct at *
      generalize chgAt (restR xs n (t + 1)) (restR xs n t) = ca at *
      go_loopw [13, 56] (fun v i W => ∃ k r : Nat, k ≤ n ∧ i = .int .i64 k ∧ v = .float .f32 (ct k) ∧ W = w5.drewN r) (fun _ i _ => n - (intOf i).toNat)
      case atStart => exact ⟨0, 0, Nat.zero_le _, rfl, by rw [HC0'.out], rfl⟩
      case round =>
        obtain ⟨k, r, hk, rfl, rfl, rfl⟩ := hrel
        by_cases hkt : k < n
        · obtain ⟨r1, hfin⟩ := HCR'.out k hkt
          have hok := HCO'.out k hk
          have hmx := HCM'.out k hkt
          have HABS := Lib.hid fun W => absolute_any (ca k) W (fin_not_nan hfin)
          have hff : isFin single (fabs (ca k)) = true := by
            have he : 1 ≤ single.exponentBits := by decide
            rw [fin_iff single he] at hfin ⊢
            unfold fabs
            split
            · rw [(neg_parts _).1]; exact hfin
            · exact hfin
          have em : ∀ (W : World) ts t, (Builtin.max_ ts t #[.float .f32 (ct k), .float .f32 (fabs (ca k))]).run Try.prog W = .ok (.float .f32 (ct (k + 1))) W := fun W ts t => by rw [run_max_f W ts t (fin_not_nan hok.2) (fin_not_nan hff), hmx]
          have e3 := fun w => run_float_arith (P := Try.prog) w .sub 31 .f32 _ _ _ r1
          have xa := HC4.out k hkt
          have xb := HC6.out k hkt
          clear r1 hfin hok hmx hff
          generalize fabs (ca k) = ab at *
          generalize ca k = cv at *
          generalize rowOf (restR xs n (t + 1)) k = rv at *
          generalize rowOf (restR xs n t) k = qv at *
          generalize hc2 : ct (k + 1) = c2 at *
          have HC2 := Lib.hid hc2
          clear hc2
          generalize ct k = c1 at *
          go_wp2_with (go_at_call 39; refine (HABS.out _).mono ?_; rintro e wz ⟨rfl, mz, rfl⟩)
          go_roundw
          case rel => exact ⟨k + 1, _, by omega, by go_num, by rw [HC2.out], rfl⟩
          case measure => simp [intOf]; omega
        · obtain rfl : k = n := by omega
          have hcd := HCD'.out
          rw [hcd]
          have HCBd := (HCB.out (restD xs k t)).symm
          cases hcl : closeB (restD xs k t) near with
          | true =>
            have HSM := Lib.hid (HSOME'.out hcl)
            rw [hcl] at HCBd
            clear hcl
            generalize restD xs k t = dd at *
            go_wp2_with fail
            refine bodyPost_ret (v := .tuple #[.slice (some ⟨b6, o6, none⟩) k c5, .int .i64 ((t + 1 : Nat) : Int), .bool true]) (by simp [results, Try.results19, go_sem]) rfl ?_
            exact rtGive_some HSM.out HRL2.out (own_below HO5.out (below_drewN (Below.refl _ _) _)) (below_drewN HB5w.out _)
          | false =>
            have HNX := Lib.hid (HNEXT.out hcl)
            rw [hcl] at HCBd
            clear hcl
            generalize hdd : restD xs k t = dd at *
            have HDD := Lib.hid hdd
            clear hdd
            go_wp2_with fail
            go_roundw
            case rel => exact ⟨t + 1, by omega, by go_num, HNX.out, below_drewN HB5.out _, _, _, rfl, own_below HO5.out (below_drewN (Below.refl _ _) _)⟩
            case measure => simp [intOf]; omega
    · have hno := HNONE.out (fun q hq => HNO.out q (by omega))
      have HNN := Lib.hid hno
      clear hno
      go_wp2_with fail
      refine bodyPost_ret (v := .tuple #[.slice none 0 0, .int .i64 0, .bool false]) (by simp [results, Try.results19, go_sem]) rfl ?_
      exact rtGive_none HNN.out HBW.out
end Go.Proofs.Ytlhepgdheopgaaa

