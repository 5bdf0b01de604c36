/-
  spec.GroupsOfChain.
-/
import Derived.Test.YtnnnpdendnjkhaaGr4
namespace Go.Proofs.Ytnnnpdendnjkhaa
open Go Go.RowKit Ieee

theorem GS.start1 (W : World) (n : Nat) (R : Nat → Nat → Bool) : GS (W.alloc (.cells #[] 54)) W.heap.size n R (.slice (some ⟨W.heap.size, 0, none⟩) 0 0) [] (.slice none 0 0) [] :=
  ⟨World.ownsRow_made W #[] 0 (base := W.heap.size) (e := 54) (size := 1) (Nat.le_refl _) (by unfold maxLen; omega) rfl, fun i hi => absurd hi (by simp), World.ownsRow_nil _ _ _ _, fun g hg => absurd hg (by simp), fun g hg => absurd hg (by simp), fun j hj => by cases hj⟩
theorem GS.newU {W : World} {base n : Nat} {R : Nat → Nat → Bool} {v u : Value} {gs : List Nat} {vs : List Value} (h : GS W base n R v gs u vs) (hb : base ≤ W.heap.size) : GS (W.alloc (.cells #[] 2)) base n R v gs (.slice (some ⟨W.heap.size, 0, none⟩) 0 0) [] := by
  have h1 := h.keep (below_al (Below.refl _ _) (.cells #[] 2))
  refine ⟨h1.m, h1.r, own_base (World.ownsRow_made W #[] 0 (base := W.heap.size) (e := 2) (size := 1) (Nat.le_refl _) (by unfold maxLen; omega) rfl) hb, h1.mr, fun g hg e => ?_, fun j hj e => ?_⟩
  · have e : W.heap.size = g := Option.some.inj e
    have := h.rowLt hg
    omega
  · have hj : W.heap.size = j := Option.some.inj hj
    have := (h.m.lt j e).2
    omega
set_option maxHeartbeats 800000 in
theorem specGroupsOfChain_bad (side : Int) (A : Option Addr) (xs : List Nat) (c : Nat) (w : World) (hx : xs.length ≤ 9223372036854775807) (hA : Rd w w.heap.size A (fl xs)) (hb : validB side xs = false) :
    Calls Try.prog 9 #[.agg #[.int .i64 side, .slice A xs.length c]] w (grOut [] false w) := by
  have HI := Lib.hid fun b w h0 h1 h2 => l07Is_any b side A xs c w hx h0 h1 h2
  rw [hb] at HI
  clear hb
  go_enter Try.func9, Try.ntmps9
  go_wp2_with (go_at_call 31; refine (HI.out _ _ (by simp) (by simp) (hA.at_ ((Below.refl _ _).alloc (Nat.le_refl _) _))).mono ?_; rintro e w1 ⟨rfl, m, rfl⟩)
  refine bodyPost_ret (v := .tuple #[.slice none 0 0, .bool false]) (by simp [results, Try.results9, go_sem]) rfl ?_
  exact grOut_bad (below_drewN (below_al (Below.refl _ _) _) _)
set_option maxRecDepth 100000 in
set_option maxHeartbeats 3200000 in
theorem specGroupsOfChain_ok (n : Nat) (A : Option Addr) (xs : List Nat) (c : Nat) (w : World) (hx : xs.length ≤ 9223372036854775807) (hA : Rd w w.heap.size A (fl xs)) (hv : validB n xs = true) :
    Calls Try.prog 9 #[.agg #[.int .i64 n, .slice A xs.length c]] w (grOut (groupsTo (seenB (adjC xs n) n) n).1 true w) := by
  obtain ⟨n', hn', hn1, hn2, hl, hp, hrw⟩ := validB_facts hv
  obtain rfl : n = n' := by omega
  obtain ⟨i0, hi0, hz0, hz1, hz2⟩ := info_parts info_bools
  obtain ⟨j0, hj0, hy0, hy1, hy2⟩ := info_parts info_i64
  have HF := Lib.hid fun b w h0 h1 h2 => l07Is_any b n A xs c w hx h0 h1 h2
  rw [hv] at HF
  have HS := Lib.hid fun i W hi h0 h1 h => l07Reach_any w.heap.size n i A xs c W h0 h1 ⟨hn1, hn2⟩ hl hp hi h
  have HTR := Lib.hid (seen_trans (adj := adjC xs n) (n := n))
  have HGL := Lib.hid fun i => groupsTo_len (seenB (adjC xs n) n) i
  have HGM := Lib.hid fun i => groupsTo_many (seenB (adjC xs n) n) i
  have HGN := Lib.hid fun i => groupsTo_nn (seenB (adjC xs n) n) i
  have HA := Lib.hid hA
  clear hx hA hv hn' hl hp hrw
  generalize seenB (adjC xs n) n = R at *
  go_enter Try.func9, Try.ntmps9
  go_wp2_with fail
  refine (HF.out _ _ (by simp) (by simp) (HA.out.at_ (below_al (Below.refl _ _) _))).mono ?_
  rintro e w1 ⟨rfl, m1, rfl⟩
  have hb1 : Below w.heap.size w ((w.alloc (.cells #[.int .i64 n, .slice A xs.length c] 29)).drewN m1) := below_drewN (below_al (Below.refl _ _) _) m1
  have z0 : ((w.alloc (.cells #[.int .i64 n, .slice A xs.length c] 29)).drewN m1).cell? ⟨w.heap.size, 0, none⟩ = some (.int .i64 n) := by simp [go_sem]
  have z1 : ((w.alloc (.cells #[.int .i64 n, .slice A xs.length c] 29)).drewN m1).cell? ⟨w.heap.size, 1, none⟩ = some (.slice A xs.length c) := by simp [go_sem]
  generalize hw1 : (w.alloc (.cells #[.int .i64 n, .slice A xs.length c] 29)).drewN m1 = w1 at *
  have HB1 := Lib.hid hb1
  have HZ : Hid (∀ W, Below w1.heap.size w1 W → W.cell? ⟨w.heap.size, 0, none⟩ = some (.int .i64 n) ∧ W.cell? ⟨w.heap.size, 1, none⟩ = some (.slice A xs.length c)) := Lib.hid fun W hW => ⟨keepC hW z0, keepC hW z1⟩
  have HRA : Hid (∀ W, Below w1.heap.size w1 W → Rd W W.heap.size A (fl xs)) := Lib.hid fun W hW => HA.out.at_ (below_next HB1.out hW)
  clear hb1 HF hw1
  go_upto_region 4 with fail
  generalize hW2 : World.alloc w1 _ = w2
  have s2 : GS w2 w1.heap.size n R (.slice (some ⟨w1.heap.size, 0, none⟩) 0 0) [] (.slice none 0 0) [] ∧ Below w1.heap.size w1 w2 := by rw [← hW2]; exact ⟨GS.start1 _ _ _, below_al (Below.refl _ _) _⟩
  have S2 := Lib.hid s2
  clear hW2 s2
  go_wp2_with fail
  go_loopw [4, 5] (fun rv kv wr => ∃ (q : Nat) (A' : Option Addr) (c' : Nat) (gs : List Nat), q ≤ n ∧ kv = .int .i64 q ∧ rv = .slice A' q c' ∧ gs.length = q ∧ GS wr w1.heap.size n R (.slice A' q c') gs (.slice none 0 0) [] ∧ Below w1.heap.size w1 wr) (fun _ kv _ => n - (intOf kv).toNat)
  case atStart => exact ⟨0, _, _, [], Nat.zero_le _, rfl, rfl, rfl, S2.out.1, S2.out.2⟩
  case round =>
    obtain ⟨q, A', c', gs, hq, rfl, rfl, hgl, hgs, hbw⟩ := hrel
    rename World => wr
    have G := Lib.hid hgs
    have B := Lib.hid hbw
    have HGLq := Lib.hid hgl
    obtain ⟨e0, e1⟩ := HZ.out _ hbw
    clear hgs hbw S2
    by_cases hqn : q < n
    · have hs := HS.out q wr hqn e0 e1 (HRA.out wr B.out)
      have HSq := Lib.hid hs
      clear hs
      go_wp2_with fail
      refine HSq.out.mono ?_
      rintro e w3 ⟨g1, rfl, hg1, hr1, hb3⟩
      have g3 := G.out.keep hb3
      have hm3 := g3.m
      rw [hgl] at hm3
      have M3 := Lib.hid hm3
      have R1 := Lib.hid hr1
      have B3 := Lib.hid hb3
      have HZ3 : Hid (w1.heap.size ≤ w3.heap.size ∧ w1.heap.size ≤ wr.heap.size) := Lib.hid ⟨by have := B.out.size; have := hb3.size; omega, B.out.size⟩
      have hz3 := HZ3.out.1
      clear hm3 hr1 hb3 g3 e0 e1
      go_wp2_with (refine wpList_append_lies _ rfl _ _ _ rfl w1.heap.size 54 i0 _ 1 24 Try.underlying53 hi0 hz0 hz1 hz2 rfl (by omega) (.slice A' q c') q (rowsV n gs) (by rfl) (M3.out.alloc _) ⟨w3.heap.size, 0, none⟩ 1 1 [.slice (some ⟨g1, 0, none⟩) n n] (by rfl) (by rfl) (World.news_of_block (cs := #[.slice (some ⟨g1, 0, none⟩) n n]) (t := 54) (fr := (0, 0)) (heap_alloc_new w3 _)) (by simp [Value.oneCell']) (by omega) (by unfold maxLen; omega) (by omega) (by simp; omega) (w3.heap.size + 1) (by simp) ?_; intro g9 cap9 w9 hown9 hgrow hat hlt9; have G9 := Lib.hid (G.out.row' HGLq.out HZ3.out.2 B3.out hg1 R1.out (below_al (Below.refl _ _) _) hgrow hown9 (by rw [World.size_alloc]; exact hat)); have B9 := Lib.hid ((G.out.keep B3.out).far_below B.out B3.out (Nat.le_refl _) hgrow); clear hown9 hgrow hat)
      go_roundw
      case rel => exact ⟨q + 1, _, cap9, gs ++ [g1], by omega, by go_num, rfl, by rw [List.length_append, HGLq.out]; rfl, G9.out, B9.out⟩
      case measure => simp [intOf]; omega
    · obtain rfl : q = n := by omega
      obtain ⟨gV, cV, hV, -, -⟩ := G.out.m.form (by omega)
      injection hV with hA' hB' hC'
      subst hA'
      clear hB' hC'
      go_upto_region 9 with fail
      generalize hW4 : World.alloc wr _ = w4
      have s4 : GS w4 w1.heap.size q R (.slice (some ⟨gV, 0, none⟩) q c') gs (.slice (some ⟨wr.heap.size, 0, none⟩) 0 0) [] ∧ Below w1.heap.size w1 w4 := by rw [← hW4]; exact ⟨G.out.newU B.out.size, below_al B.out _⟩
      have S4 := Lib.hid s4
      clear hW4 s4 e0 e1
      go_wp2_with fail
      go_loopw [6, 7, 8] (fun gv mv kv wq => ∃ (m : Nat) (U : Option Addr) (d : Nat), m ≤ q ∧ kv = .int .i64 m ∧ mv = .int .i64 ((groupsTo R m).2 : Nat) ∧ gv = .slice U m d ∧ GS wq w1.heap.size q R (.slice (some ⟨gV, 0, none⟩) q c') gs (.slice U m d) (il (groupsTo R m).1) ∧ Below w1.heap.size w1 wq) (fun _ _ kv _ => q - (intOf kv).toNat)
      case atStart => exact ⟨0, _, 0, Nat.zero_le _, rfl, rfl, rfl, S4.out.1, S4.out.2⟩
      case round =>
        obtain ⟨m, U, d, hm, rfl, rfl, rfl, hgs, hbw⟩ := hrel
        rename World => wq
        have GQ := Lib.hid hgs
        have BQ := Lib.hid hbw
        obtain ⟨e0, e1⟩ := HZ.out _ BQ.out
        have hmn := HGM.out m
        have hgl2 := HGL.out m
        clear hgs hbw
        by_cases hmq : m < q
        · have HT0 : Hid (takeG R (groupsTo R m).1 m 0 = -1) := Lib.hid rfl
          have HTS : Hid (∀ k, k < m → takeG R (groupsTo R m).1 m (k + 1) = if both_ R m k = true then (groupsTo R m).1.getD k 0 else takeG R (groupsTo R m).1 m k) := Lib.hid fun k hk => takeG_last HTR.out hmq hk
          have HGS : Hid (groupsTo R (m + 1) = if takeG R (groupsTo R m).1 m m < 0 then ((groupsTo R m).1 ++ [((groupsTo R m).2 : Int)], (groupsTo R m).2 + 1) else ((groupsTo R m).1 ++ [takeG R (groupsTo R m).1 m m], (groupsTo R m).2)) := Lib.hid rfl
          generalize groupsTo R m = GM at *
          obtain ⟨gl, many⟩ := GM
          dsimp only at *
          have HGL2 := Lib.hid hgl2
          clear hgl2
          go_wp2_with fail
          go_loopw [9, 10] (fun ov kv wk => ∃ k r : Nat, k ≤ m ∧ kv = .int .i64 k ∧ ov = .int .i64 (takeG R gl m k) ∧ wk = wq.drewN r) (fun _ kv _ => m - (intOf kv).toNat)
          case atStart => exact ⟨0, 0, Nat.zero_le _, rfl, by rw [HT0.out], rfl⟩
          case round =>
            obtain ⟨k, r, hk, rfl, rfl, rfl⟩ := hrel
            by_cases hkm : k < m
            · have HT := Lib.hid (HTS.out k hkm)
              have gq := GQ.out.keep (below_dn (Below.refl _ _) r)
              have hmg : m < gs.length := by rw [HGLq.out]; exact hmq
              have hkg : k < gs.length := by rw [HGLq.out]; omega
              obtain ⟨a1, a2⟩ := gq.cellAt hmg (show k < q by omega)
              obtain ⟨b1, b2⟩ := gq.cellAt hkg hmq
              obtain ⟨gU, cU, hU, -, -⟩ := gq.o.form (by rw [il_len, HGL2.out]; omega)
              injection hU with hA hB hC
              subst hA
              clear hB hC
              have n1 := gq.numAt (k := k) (by rw [HGL2.out]; exact hkm)
              clear gq
              unfold both_ at HT
              generalize gs[m] = ga at *
              generalize gs[k] = gb at *
              generalize gl.getD k 0 = gx at *
              generalize hT1 : takeG R gl m (k + 1) = T1 at *
              have HT1 := Lib.hid hT1
              clear hT1
              generalize takeG R gl m k = T at *
              generalize R m k = x1 at *
              generalize R k m = x2 at *
              cases x1 <;> cases x2
              case true.true =>
                have HE : Hid (T1 = gx) := Lib.hid (by rw [HT.out]; simp)
                clear HT
                go_wp2_with fail
                exact ⟨⟨k + 1, r, by omega, by go_num, by rw [HT1.out, HE.out], rfl⟩, by simp [intOf]; omega⟩
              all_goals
                have HE : Hid (T1 = T) := Lib.hid (by rw [HT.out]; simp)
                clear HT
                go_wp2_with fail
                exact ⟨⟨k + 1, r, by omega, by go_num, by rw [HT1.out, HE.out], rfl⟩, by simp [intOf]; omega⟩
            · obtain rfl : k = m := by omega
              clear HTS HT0
              generalize takeG R gl k k = T at *
              have hbq := BQ.out.size
              have gq := GQ.out.keep (below_dn (Below.refl _ _) r)
              have hol := gq.o
              rw [il_len, HGL2.out] at hol
              have HO := Lib.hid hol
              have HGR := Lib.hid gq
              have HBR := Lib.hid (below_dn BQ.out r)
              have hbr := HBR.out.size
              have HLI : Hid ((il gl).length = k) := Lib.hid (by rw [il_len]; exact HGL2.out)
              clear gq hol
              generalize wq.drewN r = wr2 at *
              by_cases hneg : T < 0
              · rw [if_pos hneg] at HGS
                go_wp2_with (refine wpList_append_lies _ rfl _ _ _ rfl w1.heap.size 2 j0 _ 1 8 Try.underlying26 hj0 hy0 hy1 hy2 rfl (by omega) (.slice U k d) k (il gl) (by rfl) (HO.out.alloc _) ⟨wr2.heap.size, 0, none⟩ 1 1 [.int .i64 (many : Nat)] (by rfl) (by rfl) (World.news_of_block (cs := #[.int .i64 (many : Nat)]) (t := 2) (fr := (0, 0)) (heap_alloc_new wr2 _)) (by simp [Value.oneCell']) (by omega) (by unfold maxLen; omega) (by omega) (by simp; omega) (wr2.heap.size + 1) (by simp) ?_; intro g9 cap9 w9 hown9 hgrow hat hlt9; have G9 := Lib.hid (HGR.out.add' HLI.out (below_al (Below.refl _ _) _) hgrow hown9 (by rw [World.size_alloc]; exact hat)); have B9 := Lib.hid (HGR.out.add_below HBR.out (Nat.le_refl _) hgrow); clear hown9 hgrow hat)
                go_roundw
                case rel => exact ⟨k + 1, _, cap9, by omega, by go_num, by rw [HGS.out]; go_num, rfl, by rw [HGS.out]; simpa [il] using G9.out, B9.out⟩
                case measure => simp [intOf]; omega
              · rw [if_neg hneg] at HGS
                go_wp2_with (refine wpList_append_lies _ rfl _ _ _ rfl w1.heap.size 2 j0 _ 1 8 Try.underlying26 hj0 hy0 hy1 hy2 rfl (by omega) (.slice U k d) k (il gl) (by rfl) (HO.out.alloc _) ⟨wr2.heap.size, 0, none⟩ 1 1 [.int .i64 T] (by rfl) (by rfl) (World.news_of_block (cs := #[.int .i64 T]) (t := 2) (fr := (0, 0)) (heap_alloc_new wr2 _)) (by simp [Value.oneCell']) (by omega) (by unfold maxLen; omega) (by omega) (by simp; omega) (wr2.heap.size + 1) (by simp) ?_; intro g9 cap9 w9 hown9 hgrow hat hlt9; have G9 := Lib.hid (HGR.out.add' HLI.out (below_al (Below.refl _ _) _) hgrow hown9 (by rw [World.size_alloc]; exact hat)); have B9 := Lib.hid (HGR.out.add_below HBR.out (Nat.le_refl _) hgrow); clear hown9 hgrow hat)
                go_roundw
                case rel => exact ⟨k + 1, _, cap9, by omega, by go_num, by rw [HGS.out], rfl, by rw [HGS.out]; simpa [il] using G9.out, B9.out⟩
                case measure => simp [intOf]; omega
        · obtain rfl : m = q := by omega
          go_wp2_with fail
          refine bodyPost_ret (v := .tuple #[.slice U m d, .bool true]) (by simp [results, Try.results9, go_sem]) rfl ?_
          refine ⟨U, d, by rw [HGL.out], ?_, below_next HB1.out BQ.out⟩
          have := GQ.out.o
          rw [il_len, HGL.out] at this
          rw [HGL.out]
          exact own_base this HB1.out.size
end Go.Proofs.Ytnnnpdendnjkhaa
