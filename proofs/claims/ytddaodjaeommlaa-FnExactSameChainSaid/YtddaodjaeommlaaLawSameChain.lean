/-
  impl.SameChain returns what spec.SameChain returns, for every two chains (the law FnExactSameChain returns true), and leaves its arguments as they were. No condition.
-/
import Derived.Test.YtddaodjaeommlaaSame
import Derived.Test.YtddaodjaeommlaaCh
import Derived.Test.YtddaodjaeommlaaOpen
import Derived.Deep.RegionHeld3
namespace Go.Proofs.Ytddaodjaeommlaa.lawSameChain
open Go.ChangeShapes Go.WideShapes Go.ChangeAt Go.RowKit

set_option maxHeartbeats 3200000 in
theorem walk (n : Int) (A : Option Addr) (xs : List Nat) (c : Nat) (m : Int) (B : Option Addr) (ys : List Nat) (d : Nat) (w : World) (h : Rd w w.heap.size A (fl xs)) (hx : xs.length ≤ 9223372036854775807) (_bd : -9223372036854775808 ≤ n ∧ n ≤ 9223372036854775807) (bx : ∀ x ∈ xs, x < 4294967296)
    (h' : Rd w w.heap.size B (fl ys)) (hy : ys.length ≤ 9223372036854775807) (_bd' : -9223372036854775808 ≤ m ∧ m ≤ 9223372036854775807) (bY : ∀ x ∈ ys, x < 4294967296) :
    Calls Try.prog 4 #[.agg #[.int .i64 n, .slice A xs.length c], .agg #[.int .i64 m, .slice B ys.length d]] w fun e w' => e = .returned (.bool true) ∧ Below w.heap.size w w' := by
  have HZ := Lib.hid fun w => szChain_any n A xs.length c 1048576 w hx (by omega) (by omega)
  by_cases hl : (1048576 : Int) - (xs.length : Int) < 0
  · have HL : Hid (leftOf 1048576 xs.length = -1) := if_pos hl
    clear hl bx bY
    go_enter Try.func4, Try.ntmps4
    go_wp2_with (go_at_call 27; refine (HZ.out _).mono ?_; rw [HL.out]; rintro e w1 ⟨rfl, hb1⟩)
    go_ret
    exact ⟨rfl, Below.trans (((Below.refl _ _).alloc (Nat.le_refl _) _).alloc (by simp) _) (hb1.mono (by simp; omega))⟩
  · have HL : Hid (leftOf 1048576 xs.length = 1048576 - xs.length) := if_neg hl
    have hx2 : xs.length ≤ 1048576 := by omega
    have HZ2 := Lib.hid fun w => szChain_any m B ys.length d (1048576 - xs.length) w hy (by omega) (by omega)
    by_cases hl2 : (1048576 : Int) - (xs.length : Int) - (ys.length : Int) < 0
    · have HL2 : Hid (leftOf (1048576 - xs.length) ys.length = -1) := if_pos hl2
      clear hl2 bx bY
      go_enter Try.func4, Try.ntmps4
      go_wp2_with fail
      refine (HZ.out _).mono ?_
      rw [HL.out]
      rintro e w1 ⟨rfl, hb1⟩
      obtain ⟨hc1, hf1⟩ := bcell hb1
      have hz1 : w.heap.size + 1 < w1.heap.size := (by have := hb1.size; simp at this; omega)
      go_wp2_with fail
      refine (HZ2.out _).mono ?_
      rw [HL2.out]
      rintro e w2 ⟨rfl, hb2⟩
      go_wp2_with fail
      go_ret
      exact ⟨rfl, (Below.trans (((Below.refl _ _).alloc (Nat.le_refl _) _).alloc (by simp) _) (hb1.mono (by simp; omega))).trans (hb2.mono (by omega))⟩
    · have HL2 : Hid (leftOf (1048576 - xs.length) ys.length = 1048576 - xs.length - ys.length) := if_neg hl2
      have hy2 : ys.length ≤ 1048576 := by omega
      have HTx := Lib.hid fun w h => toChain_any n A xs c w hx2 h
      have HTy := Lib.hid fun w h => toChain_any m B ys d w hy2 h
      have HS := Lib.hid fun A c B d w hA hB => specSameChain_any n m A B xs ys c d w hx hy bx bY hA hB
      have HV := Lib.hid fun A c B d w hA hB => SameChain_any n m A B xs ys c d w hx hy bx bY hA hB
      have HEx := Lib.hid fun A B c d w hA hB => eqChain_yes n A B xs xs c d w hx (sameL_refl xs) hA hB
      have HEy := Lib.hid fun A B c d w hA hB => eqChain_yes m A B ys ys c d w hy (sameL_refl ys) hA hB
      clear bx bY
      go_enter Try.func4, Try.ntmps4
      go_wp2_with fail
      refine (HZ.out _).mono ?_
      rw [HL.out]
      rintro e w1 ⟨rfl, hb1⟩
      obtain ⟨hc1, hf1⟩ := bcell hb1
      have hz1 : w.heap.size + 1 < w1.heap.size := (by have := hb1.size; simp at this; omega)
      go_wp2_with fail
      refine (HZ2.out _).mono ?_
      rw [HL2.out]
      rintro e w2 ⟨rfl, hb2⟩
      have B2 : Below w.heap.size w w2 := (Below.trans (((Below.refl _ _).alloc (Nat.le_refl _) _).alloc (by simp) _) (hb1.mono (by simp; omega))).trans (hb2.mono (by omega))
      have a0 : w2.cell? ⟨w.heap.size, 0, none⟩ = some (.int .i64 n) := (hb2.cell (p := ⟨_, 0, none⟩) (show w.heap.size < _ by omega)).trans (by simp [hc1, go_sem])
      have a1 : w2.cell? ⟨w.heap.size, 1, none⟩ = some (.slice A xs.length c) := (hb2.cell (p := ⟨_, 1, none⟩) (show w.heap.size < _ by omega)).trans (by simp [hc1, go_sem])
      have a2 : w2.cell? ⟨w.heap.size + 1, 0, none⟩ = some (.int .i64 m) := (hb2.cell (p := ⟨_, 0, none⟩) (show w.heap.size + 1 < _ by omega)).trans (by simp [hc1, go_sem])
      have a3 : w2.cell? ⟨w.heap.size + 1, 1, none⟩ = some (.slice B ys.length d) := (hb2.cell (p := ⟨_, 1, none⟩) (show w.heap.size + 1 < _ by omega)).trans (by simp [hc1, go_sem])
      have z2 : w.heap.size + 1 < w2.heap.size := by have := hb2.size; omega
      have HB2 := Lib.hid B2
      clear hb2 hc1 hf1 hb1 B2
      have hMk : Hid (∀ W, Below w2.heap.size w2 W → W.cell? ⟨w.heap.size, 0, none⟩ = some (.int .i64 n) ∧ W.cell? ⟨w.heap.size, 1, none⟩ = some (.slice A xs.length c) ∧ W.cell? ⟨w.heap.size + 1, 0, none⟩ = some (.int .i64 m) ∧ W.cell? ⟨w.heap.size + 1, 1, none⟩ = some (.slice B ys.length d)) := fun W hW =>
        ⟨(hW.cell (p := ⟨_, 0, none⟩) (show w.heap.size < _ by omega)).trans a0, (hW.cell (p := ⟨_, 1, none⟩) (show w.heap.size < _ by omega)).trans a1, (hW.cell (p := ⟨_, 0, none⟩) z2).trans a2, (hW.cell (p := ⟨_, 1, none⟩) z2).trans a3⟩
      go_wp2_with fail
      go_region_held3 (fun W => W.cell? ⟨w.heap.size, 0, none⟩ = some (.int .i64 n) ∧ W.cell? ⟨w.heap.size, 1, none⟩ = some (.slice A xs.length c) ∧ W.cell? ⟨w.heap.size + 1, 0, none⟩ = some (.int .i64 m) ∧ W.cell? ⟨w.heap.size + 1, 1, none⟩ = some (.slice B ys.length d))
        (first | exact hMk.out _ ((Below.refl _ _).drew) | exact hMk.out _ (by assumption))
        (first
          | (go_at_call_of 29 n; refine (HTx.out _ (h.at_ HB2.out.drew)).mono ?_; rintro e w3 ⟨A3, rfl, hown3, hb3⟩; have hk3 : Below w2.heap.size w2 w3 := Below.trans (Below.refl _ _).drew hb3)
          | (go_at_call_of 29 m; refine (HTy.out _ (h'.at_ (HB2.out.trans (hk3.mono HB2.out.size)))).mono ?_; rintro e w4 ⟨A4, rfl, hown4, hb4⟩; have hk4 : Below w2.heap.size w2 w4 := hk3.trans (hb4.mono hk3.size))
          | (go_at_call 28; refine (HS.out _ _ _ _ _ ((Rd.of_own hown3).at_ hb4) (Rd.of_own hown4)).mono ?_; rintro e w5 ⟨rfl, hb5⟩; have hk5 : Below w2.heap.size w2 w5 := hk4.trans (hb5.mono hk4.size)))
      obtain ⟨b0, b1, b2, b3⟩ := hMk.out _ hk5
      have HB5 := Lib.hid (HB2.out.trans (hk5.mono HB2.out.size))
      have z5 : w.heap.size + 1 < w5.heap.size := by have := hk5.size; omega
      clear hb3 hb4 hb5 hown3 hown4 hk3 hk4 hk5 hMk a0 a1 a2 a3
      go_wp2_with fail
      refine (HTx.out _ (h.at_ HB5.out)).mono ?_
      rintro e w6 ⟨A6, rfl, hown6, hb6⟩
      obtain ⟨hc6, hf6⟩ := bcell hb6
      have z6 : w.heap.size + 1 < w6.heap.size := by have := hb6.size; omega
      have r6 := Rd.of_own hown6
      have HB6 := Lib.hid (HB5.out.trans (hb6.mono HB5.out.size))
      have HK6 := Lib.hid hb6
      clear hown6 hb6
      go_wp2_with fail
      refine (HTy.out _ (h'.at_ (HB6.out.trans ((Below.refl _ _).alloc HB6.out.size _)))).mono ?_
      rintro e w7 ⟨A7, rfl, hown7, hb7⟩
      obtain ⟨hc7, hf7⟩ := bcell hb7
      have z7 : w6.heap.size < w7.heap.size := by have := hb7.size; simp at this; omega
      have r7 := Rd.of_own hown7
      have r67 := (r6.at_ ((Below.refl _ _).alloc (Nat.le_refl _) _)).at_ hb7
      have HB7 := Lib.hid ((HB6.out.trans ((Below.refl _ _).alloc HB6.out.size _)).trans (hb7.mono (by simp; have := HB6.out.size; omega)))
      have HK7 := Lib.hid (Below.trans (HK6.out.trans ((Below.refl _ _).alloc HK6.out.size _)) (hb7.mono (by simp; have := HK6.out.size; omega)))
      clear hown7 hb7
      go_wp2_with fail
      refine (HV.out _ _ _ _ _ (r67.at_ ((Below.refl _ _).alloc (Nat.le_refl _) _)) (r7.at_ ((Below.refl _ _).alloc (Nat.le_refl _) _))).mono ?_
      rintro e w8 ⟨rfl, hb8⟩
      obtain ⟨hc8, hf8⟩ := bcell hb8
      have z8 : w7.heap.size < w8.heap.size := by have := hb8.size; simp at this; omega
      have r68 := (r67.at_ ((Below.refl _ _).alloc (Nat.le_refl _) _)).at_ hb8
      have r78 := (r7.at_ ((Below.refl _ _).alloc (Nat.le_refl _) _)).at_ hb8
      have HB8 := Lib.hid ((HB7.out.trans ((Below.refl _ _).alloc HB7.out.size _)).trans (hb8.mono (by simp; have := HB7.out.size; omega)))
      have K8 : Below w5.heap.size w5 w8 := (HK7.out).trans (Below.trans ((Below.refl _ _).alloc HK7.out.size _) (hb8.mono (by simp; have := HK7.out.size; omega)))
      have d0 := keepC K8 b0
      have d1 := keepC K8 b1
      have d2 := keepC K8 b2
      have d3 := keepC K8 b3
      have d4 : w8.cell? ⟨w6.heap.size, 0, none⟩ = some (.int .i64 n) := by simp [hc8, hc7, go_sem, z7]
      have d5 : w8.cell? ⟨w6.heap.size, 1, none⟩ = some (.slice A6 xs.length xs.length) := by simp [hc8, hc7, go_sem, z7]
      have d6 : w8.cell? ⟨w7.heap.size, 0, none⟩ = some (.int .i64 m) := by simp [hc8, go_sem]
      have d7 : w8.cell? ⟨w7.heap.size, 1, none⟩ = some (.slice A7 ys.length ys.length) := by simp [hc8, go_sem]
      have x8 : w.heap.size + 1 < w8.heap.size ∧ w6.heap.size < w8.heap.size := by omega
      clear hc8 hc7 hc6 hf8 hf7 hf6 hb8 r6 r7 r67 z5 z6 b0 b1 b2 b3 K8
      generalize w6.heap.size = g7 at *
      generalize w7.heap.size = g8 at *
      have hMk : Hid (∀ W, Below w8.heap.size w8 W → W.cell? ⟨w.heap.size, 0, none⟩ = some (.int .i64 n) ∧ W.cell? ⟨w.heap.size, 1, none⟩ = some (.slice A xs.length c) ∧ W.cell? ⟨w.heap.size + 1, 0, none⟩ = some (.int .i64 m) ∧ W.cell? ⟨w.heap.size + 1, 1, none⟩ = some (.slice B ys.length d) ∧ W.cell? ⟨g7, 0, none⟩ = some (.int .i64 n) ∧ W.cell? ⟨g7, 1, none⟩ = some (.slice A6 xs.length xs.length) ∧ W.cell? ⟨g8, 0, none⟩ = some (.int .i64 m) ∧ W.cell? ⟨g8, 1, none⟩ = some (.slice A7 ys.length ys.length)) := fun W hW =>
        ⟨keepC hW d0, keepC hW d1, keepC hW d2, keepC hW d3, keepC hW d4, keepC hW d5, keepC hW d6, keepC hW d7⟩
      go_wp2_with fail
      go_region_held3 (fun W => W.cell? ⟨w.heap.size, 0, none⟩ = some (.int .i64 n) ∧ W.cell? ⟨w.heap.size, 1, none⟩ = some (.slice A xs.length c) ∧ W.cell? ⟨w.heap.size + 1, 0, none⟩ = some (.int .i64 m) ∧ W.cell? ⟨w.heap.size + 1, 1, none⟩ = some (.slice B ys.length d) ∧ W.cell? ⟨g7, 0, none⟩ = some (.int .i64 n) ∧ W.cell? ⟨g7, 1, none⟩ = some (.slice A6 xs.length xs.length) ∧ W.cell? ⟨g8, 0, none⟩ = some (.int .i64 m) ∧ W.cell? ⟨g8, 1, none⟩ = some (.slice A7 ys.length ys.length))
        (first | exact hMk.out _ ((Below.refl _ _).drew) | exact hMk.out _ (by assumption))
        (first
          | (go_at_call 29; refine (HTx.out _ (h.at_ HB8.out.drew)).mono ?_; rintro e w9 ⟨A9, rfl, hown9, hb9⟩; have hk9 : Below w8.heap.size w8 w9 := Below.trans (Below.refl _ _).drew hb9)
          | (go_at_call 31; refine (HEx.out _ _ _ _ _ (r68.at_ hk9) (Rd.of_own hown9)).mono ?_; rintro e w10 ⟨rfl, hb10⟩; have hk10 : Below w8.heap.size w8 w10 := hk9.trans (hb10.mono hk9.size)))
      obtain ⟨b0, b1, b2, b3, b4, b5, b6, b7⟩ := hMk.out _ hk10
      have HB10 := Lib.hid (HB8.out.trans (hk10.mono HB8.out.size))
      have r710 := r78.at_ hk10
      have z10 := hk10.size
      clear hb9 hb10 hk9 hk10 hMk d0 d1 d2 d3 d4 d5 d6 d7 hown9 r68 r78
      have hMk : Hid (∀ W, Below w10.heap.size w10 W → W.cell? ⟨w.heap.size, 0, none⟩ = some (.int .i64 n) ∧ W.cell? ⟨w.heap.size, 1, none⟩ = some (.slice A xs.length c) ∧ W.cell? ⟨w.heap.size + 1, 0, none⟩ = some (.int .i64 m) ∧ W.cell? ⟨w.heap.size + 1, 1, none⟩ = some (.slice B ys.length d) ∧ W.cell? ⟨g7, 0, none⟩ = some (.int .i64 n) ∧ W.cell? ⟨g7, 1, none⟩ = some (.slice A6 xs.length xs.length) ∧ W.cell? ⟨g8, 0, none⟩ = some (.int .i64 m) ∧ W.cell? ⟨g8, 1, none⟩ = some (.slice A7 ys.length ys.length)) := fun W hW =>
        ⟨keepC hW b0, keepC hW b1, keepC hW b2, keepC hW b3, keepC hW b4, keepC hW b5, keepC hW b6, keepC hW b7⟩
      go_wp2_with fail
      go_region_held3 (fun W => W.cell? ⟨w.heap.size, 0, none⟩ = some (.int .i64 n) ∧ W.cell? ⟨w.heap.size, 1, none⟩ = some (.slice A xs.length c) ∧ W.cell? ⟨w.heap.size + 1, 0, none⟩ = some (.int .i64 m) ∧ W.cell? ⟨w.heap.size + 1, 1, none⟩ = some (.slice B ys.length d) ∧ W.cell? ⟨g7, 0, none⟩ = some (.int .i64 n) ∧ W.cell? ⟨g7, 1, none⟩ = some (.slice A6 xs.length xs.length) ∧ W.cell? ⟨g8, 0, none⟩ = some (.int .i64 m) ∧ W.cell? ⟨g8, 1, none⟩ = some (.slice A7 ys.length ys.length))
        (first | exact hMk.out _ ((Below.refl _ _).drew) | exact hMk.out _ (by assumption))
        (first
          | (go_at_call 29; refine (HTy.out _ (h'.at_ HB10.out.drew)).mono ?_; rintro e w9 ⟨A9, rfl, hown9, hb9⟩; have hk9 : Below w10.heap.size w10 w9 := Below.trans (Below.refl _ _).drew hb9)
          | (go_at_call 31; refine (HEy.out _ _ _ _ _ (r710.at_ hk9) (Rd.of_own hown9)).mono ?_; rintro e w11 ⟨rfl, hb10⟩; have hk11 : Below w10.heap.size w10 w11 := hk9.trans (hb10.mono hk9.size)))
      go_wp2
      go_ret
      exact ⟨rfl, HB10.out.trans (hk11.mono HB10.out.size)⟩

set_option maxRecDepth 100000 in
theorem lifted (os : Os) (started : os.Started) (H : Type) (enc : TypeId × Value → H) :
    ReturnsInHanded {} Try.checked os 4 .any (Rows.fnExactSameChainSpec.pre6 enc Try.prog Try.f4 Rows.fnExactSameChainRow.domain false) (Rows.fnExactSameChainSpec.post enc Try.prog Try.f4 false true false false) := by
  refine returnsInHanded_of_change (C := Try.checked) own started (by kernel_rfl) Try.func4
    (ChangeSpec.witness6 (enc := enc) (C := Try.checked) false ⟨#[], #[.agg #[.int .i64 0, .slice none 0 0], .agg #[.int .i64 0, .slice none 0 0]], []⟩ 8 (by kernel_rfl) (by kernel_rfl) (by kernel_rfl) (by kernel_rfl)) ?_
  intro W base args ds gs before hval0 hW hcnd _
  have hval : ∀ (j : Nat) t v, Try.f4.params[j]? = some t → args[j]? = some v → Value.okWide Try.prog W .any base t v := hval0
  have hW' := hW
  have hlt : ∀ p ∈ before, p.block < W.heap.size := fun p hp => hW.lt p hp
  obtain ⟨p, q, hA0, hV, rfl, hfz, hnd⟩ := hW
  have hA : DataW.TrodAll enc Try.prog W 0 (fun _ => true) true Try.f4.params.toList args.toList ds p := hA0
  rw [Try.params4] at hA hval
  have hA1 := hA
  obtain ⟨v0, vs0, d0, ds0, p0, q0, hargs, rfl, rfl, h0, r0⟩ := trodAll_cons hA
  obtain ⟨v1, vs1, d1, ds1, p1, q1, rfl, rfl, rfl, h1, r1⟩ := trodAll_cons r0
  obtain ⟨rfl, rfl, rfl⟩ := trodAll_nil r1
  obtain rfl : args = #[v0, v1] := by cases args; simp_all
  obtain ⟨rfl, rfl⟩ := trodVars_none hV
  obtain ⟨n0, A0, xs0, c0, rfl, bd0, hx0, hr0, bf0⟩ := open_chain (hval 0 _ _ rfl rfl) h0
  obtain ⟨n1, A1, xs1, c1, rfl, bd1, hx1, hr1, bf1⟩ := open_chain (hval 1 _ _ rfl rfl) h1
  clear hA0 hval0
  refine (walk n0 A0 xs0 c0 n1 A1 xs1 c1 W hr0 hx0 bd0 bf0 hr1 hx1 bd1 bf1).mono fun e W' ⟨he, hb⟩ => ?_
  subst he
  rw [List.append_nil] at hW' hlt
  exact ⟨_, rfl, post_of_below (pa := _) (pv := []) hW' (fun _ _ _ => (trodAll_cons_mk (shut_bool Try.underlying4 _) trodAll_mk0))
    (fun sp hsp => trodAll_below cl_laid hb _ _ _ _ (by kernel_rfl) hA1 hlt hsp) (fun _ _ => rfl) (List.append_nil _).symm hb (ok_one (by kernel_rfl) rfl (okWide_bool_mk Try.underlying4 _))⟩

theorem g0 : Try.prog.funcNamed Rows.fnExactSameChainRow.func = some 4 := by kernel_rfl
theorem g1 : Rows.fnExactSameChainRow.inPlace = Try.prog.inPlace 4 := by kernel_rfl
theorem g2 : Rows.fnExactSameChainRow.unfollowed = Try.prog.unfollowed 4 := by kernel_rfl
theorem g3 : Rows.fnExactSameChainRow.recurses = Try.prog.recurses 4 := by kernel_rfl
theorem g4 : Rows.fnExactSameChainRow.named = Try.prog.varsNamed 4 := by kernel_rfl
theorem g5 : Rows.fnExactSameChainRow.wf (OpenSpec.ofChange Rows.fnExactSameChainSpec) = true := by kernel_rfl
theorem g6 : (Try.f4.params.all (Try.prog.readableRec ·)) = true := by kernel_rfl
theorem g7 : Rows.fnExactSameChainRow.veiledFits Try.prog Try.f4.params.toList (Try.f4.params.toList ++ Try.f4.resultTypes.toList) = true := by kernel_rfl
theorem g8 : joinedFacts Try.prog 4 Try.f4 Rows.fnExactSameChainSpec Rows.fnExactSameChainRow = true :=
  gen_facts _ _ _ _ rfl rfl cl_laid cl_maps cl_stops cl_knobs cl_heard cl_enter cl_lifts cl_make g5 g6 rfl rfl rfl g1 g2 g3 g4
    (by as_aux_lemma => kernel_rfl) (by as_aux_lemma => kernel_rfl) (by as_aux_lemma => kernel_rfl) (by as_aux_lemma => kernel_rfl) (by as_aux_lemma => kernel_rfl) (by as_aux_lemma => kernel_rfl) (by as_aux_lemma => kernel_rfl) (by as_aux_lemma => kernel_rfl)
    cl_keys.symm rfl rfl rfl rfl rfl (by as_aux_lemma => kernel_rfl) (by as_aux_lemma => kernel_rfl) g7
theorem g9 : Try.f4.isInstance Try.prog Rows.fnExactSameChainRow.origin Rows.fnExactSameChainRow.targs := of_decide_eq_true (by kernel_rfl)
theorem g10 : Try.f4.isWrapper Try.prog Rows.fnExactSameChainRow.wrapper Rows.fnExactSameChainRow.mainSum := by
  unfold Func.isWrapper; first | (rw [if_pos (by decide +kernel)]; kernel_rfl) | (rw [if_neg (by decide +kernel)]; exact ⟨rfl, rfl⟩)
theorem over : Rows.fnExactSameChainRow.holds Try.pinned (OpenSpec.ofChange Rows.fnExactSameChainSpec) :=
  OpenClaim.holds_of_wide 4 Try.f4 rfl rfl rfl rfl rfl rfl rfl ⟨rfl, rfl, rfl, rfl, rfl⟩ rfl rfl rfl rfl rfl g0 Try.func4 g8 g9 g10 (fun os started H enc _ => lifted os started H enc)
theorem proved : Rows.FnExactSameChainSaid := over
end Go.Proofs.Ytddaodjaeommlaa.lawSameChain
