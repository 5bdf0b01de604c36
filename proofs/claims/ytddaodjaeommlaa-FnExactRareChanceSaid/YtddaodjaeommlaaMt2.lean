/-
  spec.MeetWalks.
-/
import Derived.Test.YtddaodjaeommlaaMt1
namespace Go.Proofs.Ytddaodjaeommlaa
open Go Go.RowKit Ieee

set_option maxRecDepth 100000 in
set_option maxHeartbeats 3200000 in
theorem specMeetWalks_bad (k a b side i1 i2 most : Int) (A : Option Addr) (xs : List Nat) (c : Nat) (w : World) (hb0 : 0 ≤ b ∧ b < 18446744073709551616) (hx : xs.length ≤ 9223372036854775807) (h : Rd w w.heap.size A (fl xs)) (hbad : meetB k a b side xs i1 i2 most = false) :
    Calls Try.prog 68 #[.agg #[.int .i64 k, .int .u64 a, .int .u64 b], .agg #[.int .i64 side, .slice A xs.length c], .int .i64 i1, .int .i64 i2, .int .i64 most] w (mtOut 0 0 0 0 0 false w) := by
  have HS := Lib.hid fun p w h => l02Is_any p k a b hb0 w h
  have HV1 := Lib.hid fun b W h0 h1 h => l07State_any b side i1 A xs c W hx h0 h1 h
  have HV2 := Lib.hid fun b W h0 h1 h => l07State_any b side i2 A xs c W hx h0 h1 h
  have HW := Lib.hid fun w => l00In_any most 0 512 w
  unfold meetB at hbad
  clear hx hb0
  have hcase : seedB k a b = false ∨ (seedB k a b = true ∧ (validB side xs && stateB side i1) = false) ∨ (seedB k a b = true ∧ (validB side xs && stateB side i1) = true ∧ (validB side xs && stateB side i2) = false) ∨ (seedB k a b = true ∧ (validB side xs && stateB side i1) = true ∧ (validB side xs && stateB side i2) = true ∧ inB most 0 512 = false) := by
    cases h1 : seedB k a b <;> cases h2 : validB side xs <;> cases h3 : stateB side i1 <;> cases h4 : stateB side i2 <;> simp_all
  clear hbad
  generalize seedB k a b = d1 at *
  generalize (validB side xs && stateB side i1) = d3 at *
  generalize (validB side xs && stateB side i2) = d4 at *
  generalize inB most 0 512 = d5 at *
  rcases hcase with rfl | ⟨rfl, rfl⟩ | ⟨rfl, rfl, rfl⟩ | ⟨rfl, rfl, rfl, rfl⟩
  all_goals
    go_enter Try.func68, Try.ntmps68
    go_wp2_with fail
    generalize hW1 : World.alloc (World.alloc (World.alloc w _) _) _ = W1
    have hx1 : Bx w.heap.size k a b side A xs.length c W1 := by rw [← hW1]; simp [Bx, SdAt, go_sem]
    have HBq : Hid (Below w.heap.size w W1) := by rw [← hW1]; exact Lib.hid (below_al (below_al (below_al (Below.refl _ _) _) _) _)
    clear hW1
    refine (HS.out _ _ hx1.1).mono ?_
    rintro e w2 ⟨rfl, rfl⟩
    have HB0 := HBq
    obtain ⟨⟨s0, s1, s2, sf⟩, n0, n1, ⟨z0, z1, z2, zf⟩⟩ := hx1
    go_wp2_with (first
      | (go_at_call 125; (with_reducible refine (HV1.out _ _ n0 n1 (h.at_ HBq.out)).mono ?_); rintro e w3 ⟨rfl, m3, rfl⟩; have HBq := Lib.hid (below_drewN HBq.out m3))
      | (go_at_call 125; refine (HV2.out _ (W1.drewN m3) n0 n1 (h.at_ HBq.out)).mono ?_; rintro e w3 ⟨rfl, m4, rfl⟩; have HBq := Lib.hid (below_drewN HBq.out m4))
      | (go_at_call 101; refine (HW.out _).mono ?_; rintro e w5 ⟨rfl, m5, rfl⟩; have HBq := Lib.hid (below_drewN HBq.out m5)))
    refine bodyPost_ret (v := .tuple #[.agg #[.int .i64 0, .int .u64 0, .int .u64 0], .int .i64 0, .int .i64 0, .bool false]) (by simp [results, Try.results68, go_sem, z0, z1, z2]) rfl ⟨rfl, ?_⟩
    exact below_set (below_set (below_set (by first | exact HB0.out | exact below_drewN HB0.out _) _ _ (by first | omega | (simp; done) | (simp; omega) | exact Nat.le_add_right _ _)) _ _ (by first | omega | (simp; done) | (simp; omega) | exact Nat.le_add_right _ _)) _ _ (by first | omega | (simp; done) | (simp; omega) | exact Nat.le_add_right _ _)

set_option maxRecDepth 100000 in
set_option maxHeartbeats 6400000 in
theorem specMeetWalks_ok (k a b : Int) (n i1 i2 M : Nat) (A : Option Addr) (xs : List Nat) (c : Nat) (w : World) (hb0 : 0 ≤ b ∧ b < 18446744073709551616) (hx : xs.length ≤ 9223372036854775807) (h : Rd w w.heap.size A (fl xs)) (hok : meetB k a b n xs i1 i2 M = true) :
    Calls Try.prog 68 #[.agg #[.int .i64 k, .int .u64 a, .int .u64 b], .agg #[.int .i64 n, .slice A xs.length c], .int .i64 i1, .int .i64 i2, .int .i64 M] w (mtGive xs n k a b i1 i2 M w) := by
  obtain ⟨n', i1', i2', M', hn', hi1', hi2', hM', n1, n2, hi1, hi2, hM, h1, h2, h3, h4, h5⟩ := meetB_ok hok
  obtain rfl : n = n' := by omega
  obtain rfl : i1 = i1' := by omega
  obtain rfl : i2 = i2' := by omega
  obtain rfl : M = M' := by omega
  have HS := Lib.hid fun p w h => l02Is_any p k a b hb0 w h
  have HV1 := Lib.hid fun b W h0 h1 h => l07State_any b n i1 A xs c W hx h0 h1 h
  have HV2 := Lib.hid fun b W h0 h1 h => l07State_any b n i2 A xs c W hx h0 h1 h
  have HW := Lib.hid fun w => l00In_any M 0 512 w
  rw [h1] at HS
  rw [h2, h3] at HV1
  rw [h2, h4] at HV2
  rw [h5] at HW
  obtain ⟨n', hn', -, -, hl, hp, hrw⟩ := validB_facts h2
  obtain rfl : n = n' := by omega
  have HSH : Hid (∀ t g w, SdAt w g k (sdT k a b t).1 (sdT k a b t).2 → Calls Try.prog 126 #[.pointer (some ⟨g, 0, none⟩)] w (SShareOut g k (sdT k a b t).1 (sdT k a b t).2 w)) := Lib.hid fun t g w hs => l02Share_any g k _ _ (seedB_kind h1) w hs
  have HGO : Hid (∀ g j u W, j < n → isNan single u = false → Below w.heap.size w W → W.cell? ⟨g, 0, none⟩ = some (.int .i64 n) → W.cell? ⟨g, 1, none⟩ = some (.slice A xs.length c) → Calls Try.prog 127 #[.pointer (some ⟨g, 0, none⟩), .int .i64 (j : Nat), .float .f32 u] W (Quiet (.int .i64 (onC xs n j u)) W)) := Lib.hid fun g j u W hj hu hW c0 c1 => l07On_any g n j u A xs c W h2 hj hu c0 c1 (h.at_ hW)
  have HSD : Hid (∀ t, nA k (sdT k a b t).1 (sdT k a b t).2 = (sdT k a b (t + 1)).1 ∧ nB k (sdT k a b t).1 (sdT k a b t).2 = (sdT k a b (t + 1)).2 ∧ nU k (sdT k a b t).1 (sdT k a b t).2 = uT k a b t) := Lib.hid fun t => ⟨rfl, rfl, rfl⟩
  have HPO : Hid (∀ i t, posT xs n k a b i (t + 1) = onC xs n (posT xs n k a b i t) (uT k a b t)) := Lib.hid fun i t => rfl
  have HPL : Hid (∀ t, posT xs n k a b i1 t < n ∧ posT xs n k a b i2 t < n ∧ isNan single (uT k a b t) = false) := Lib.hid fun t => ⟨posT_lt hl hi1 t, posT_lt hl hi2 t, (nU_fin _ _ _).2⟩
  have H0 : Hid ((sdT k a b 0) = (a, b) ∧ posT xs n k a b i1 0 = i1 ∧ posT xs n k a b i2 0 = i2) := Lib.hid ⟨rfl, rfl, rfl⟩
  have HRD := Lib.hid h
  clear hok hn' hi1' hi2' hM' h1 h2 h3 h4 h5 hl hp hrw hb0 hx h
  unfold SShareOut at HSH
  go_enter Try.func68, Try.ntmps68
  go_wp2_with fail
  generalize hW1 : World.alloc (World.alloc (World.alloc w _) _) _ = W1
  have hx1 : Bx w.heap.size k a b n A xs.length c W1 := by rw [← hW1]; simp [Bx, SdAt, go_sem]
  have HBq : Hid (Below w.heap.size w W1) := by rw [← hW1]; exact Lib.hid (below_al (below_al (below_al (Below.refl _ _) _) _) _)
  clear hW1
  refine (HS.out _ _ hx1.1).mono ?_
  rintro e w2 ⟨rfl, rfl⟩
  have HXq := Lib.hid hx1
  have HX0 := HXq
  have HB0 := HBq
  obtain ⟨⟨s0, s1, s2, sf⟩, n0, n1', ⟨z0, z1, z2, zf⟩⟩ := hx1
  go_wp2_with (first
    | (go_at_call 125; (with_reducible refine (HV1.out _ _ n0 n1' (HRD.out.at_ HBq.out)).mono ?_); rintro e w3 ⟨rfl, m3, rfl⟩; have HXq := Lib.hid (HXq.out.dn m3); have HBq := Lib.hid (below_drewN HBq.out m3))
    | (go_at_call 125; refine (HV2.out _ (W1.drewN m3) n0 n1' (HRD.out.at_ HBq.out)).mono ?_; rintro e w3 ⟨rfl, m4, rfl⟩; have HXq := Lib.hid (HXq.out.dn m4); have HBq := Lib.hid (below_drewN HBq.out m4))
    | (go_at_call 101; refine (HW.out _).mono ?_; rintro e w5 ⟨rfl, m5, rfl⟩; have HXq := Lib.hid (HXq.out.dn m5); have HBq := Lib.hid (below_drewN HBq.out m5)))
  have START : Hid (∀ r, Bx w.heap.size k (sdT k a b 0).1 (sdT k a b 0).2 n A xs.length c (W1.drewN r) ∧ Below w.heap.size w (W1.drewN r)) := Lib.hid fun r => ⟨by rw [H0.out.1]; exact HX0.out.dn r, below_drewN HB0.out r⟩
  clear s0 s1 s2 sf n0 n1' z0 z1 z2 zf
  go_loopw [2, 3, 14, 15] (fun f g md _ wr => ∃ t : Nat, t ≤ M ∧ md = .int .i64 t ∧ f = .int .i64 (posT xs n k a b i1 t : Nat) ∧ g = .int .i64 (posT xs n k a b i2 t : Nat) ∧ (∀ q, q < t → posT xs n k a b i1 q ≠ posT xs n k a b i2 q) ∧ Bx w.heap.size k (sdT k a b t).1 (sdT k a b t).2 n A xs.length c wr ∧ Below w.heap.size w wr) (fun _ _ md _ _ => M - (intOf md).toNat)
  case atStart => exact ⟨0, Nat.zero_le _, rfl, by rw [H0.out.2.1], by rw [H0.out.2.2], (fun q hq => by omega), (START.out _).1, (START.out _).2⟩
  case round =>
    obtain ⟨t, ht, rfl, rfl, rfl, hno, hbx, hbw⟩ := hrel
    rename_i wr
    have HX := Lib.hid hbx
    have HB := Lib.hid hbw
    have HNO := Lib.hid hno
    obtain ⟨⟨s0, s1, s2, sf⟩, n0, n1', ⟨z0, z1, z2, zf⟩⟩ := hbx
    have hlt := HX.out.lt
    clear hbw hno
    obtain ⟨p1, p2, pu⟩ := HPL.out t
    have HPU := Lib.hid pu
    by_cases heq : posT xs n k a b i1 t = posT xs n k a b i2 t
    · have HMT := Lib.hid (meetT_some ht HNO.out heq)
      generalize hst : sdT k a b t = st at *
      have HST := Lib.hid hst
      obtain ⟨aT, bT⟩ := st
      generalize hj1 : posT xs n k a b i1 t = j1 at *
      have HJ1 := Lib.hid hj1
      rw [← heq] at *
      clear hst hj1 heq pu
      go_wp2_with fail
      have hX7 := (HX.out.2.2.2).set k aT bT
      have hB7 := below_set (below_set (below_set HB.out ⟨w.heap.size + 1 + 1, 0, none⟩ (.int .i64 k) (by simp; omega)) ⟨w.heap.size + 1 + 1, 1, none⟩ (.int .u64 aT) (by simp; omega)) ⟨w.heap.size + 1 + 1, 2, none⟩ (.int .u64 bT) (by simp; omega)
      generalize World.setCell (World.setCell (World.setCell _ _ _) _ _) _ _ = W7 at hX7 hB7 ⊢
      clear s0 s1 s2 sf n0 n1' z0 z1 z2 zf
      obtain ⟨y0, y1, y2, -⟩ := hX7
      refine bodyPost_ret (v := .tuple #[.agg #[.int .i64 k, .int .u64 aT, .int .u64 bT], .int .i64 (t : Int), .int .i64 (j1 : Int), .bool true]) (by simp [results, Try.results68, go_sem, y0, y1, y2]) rfl (mtGive_some HMT.out HST.out HJ1.out hB7)
    · by_cases htM : t = M
      · have HMT := Lib.hid (meetT_none (M := M) (fun q hq => by
          rcases Nat.lt_or_ge q t with hl | hg
          · exact HNO.out q hl
          · obtain rfl : q = t := by omega
            exact heq))
        subst htM
        generalize posT xs n k a b i1 t = j1 at *
        generalize posT xs n k a b i2 t = j2 at *
        have hne : ((j1 : Int) != (j2 : Int)) = true := by simp; omega
        clear heq pu
        go_wp2_with fail
        refine bodyPost_ret (v := .tuple #[.agg #[.int .i64 0, .int .u64 0, .int .u64 0], .int .i64 0, .int .i64 0, .bool false]) (by simp [results, Try.results68, go_sem, z0, z1, z2]) rfl (mtGive_none HMT.out ?_)
        exact below_set (below_set (below_set HB.out _ _ (by first | omega | (simp; omega))) _ _ (by first | omega | (simp; omega))) _ _ (by first | omega | (simp; omega))
      · have HN2 : Hid (∀ q, q < t + 1 → posT xs n k a b i1 q ≠ posT xs n k a b i2 q) := Lib.hid fun q hq => by
          rcases Nat.lt_or_ge q t with hl | hg
          · exact HNO.out q hl
          · obtain rfl : q = t := by omega
            exact heq
        have hmm : ((t : Int) == (M : Int)) = false := by simp; omega
        have htM' : t < M := by omega
        clear htM
        obtain ⟨q1, q2, q3⟩ := HSD.out t
        have hsh := HSH.out t w.heap.size wr HX.out.1
        rw [q1, q2, q3] at hsh
        have HSHt := Lib.hid hsh
        have HPO1 := Lib.hid (HPO.out i1 t)
        have HPO2 := Lib.hid (HPO.out i2 t)
        clear q1 q2 q3 hsh
        generalize hst : sdT k a b t = st at *
        generalize hst' : sdT k a b (t + 1) = st' at *
        have HST := Lib.hid hst'
        clear hst hst'
        obtain ⟨aT, bT⟩ := st
        obtain ⟨a', b'⟩ := st'
        generalize uT k a b t = u at *
        generalize posT xs n k a b i1 t = j1 at *
        generalize posT xs n k a b i2 t = j2 at *
        have hne : ((j1 : Int) != (j2 : Int)) = true := by simp; omega
        clear heq pu
        go_wp2_with (first
          | (go_at_call 126; refine HSHt.out.mono ?_; rintro e w6 ⟨rfl, hs6⟩; have HX6 := Lib.hid (HX.out.moved hs6); have HB6 := Lib.hid (hs6.below HB.out (Nat.le_refl _)); clear hs6 s0 s1 s2 sf n0 n1' z0 z1 z2 zf; obtain ⟨⟨s0, s1, s2, sf⟩, n0, n1', ⟨z0, z1, z2, zf⟩⟩ := HX6.out)
          | (go_at_call 127; (with_reducible refine (HGO.out _ _ _ w6 (by assumption) HPU.out HB6.out n0 n1').mono ?_); rintro e w8 ⟨rfl, m8, rfl⟩)
          | (go_at_call 127; refine (HGO.out _ _ _ (w6.drewN m8) (by assumption) HPU.out (below_drewN HB6.out _) n0 n1').mono ?_; rintro e w9 ⟨rfl, m9, rfl⟩))
        go_roundw
        case rel => exact ⟨t + 1, by omega, by go_num, by rw [HPO1.out], by rw [HPO2.out], HN2.out, by rw [HST.out]; exact HX6.out.dn _, below_drewN HB6.out _⟩
        case measure => simp [intOf]; omega
end Go.Proofs.Ytddaodjaeommlaa
