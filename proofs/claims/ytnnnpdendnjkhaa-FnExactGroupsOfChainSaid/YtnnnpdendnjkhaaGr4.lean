/-
  impl.GroupsOfChain.
-/
import Derived.Test.YtnnnpdendnjkhaaGr3
namespace Go.Proofs.Ytnnnpdendnjkhaa
open Go Go.RowKit Ieee

theorem info_bools : (Try.prog.info? 54).map (fun i => (i.zero, i.size, i.bytes)) = some (some (.slice none 0 0), 1, 24) := by kernel_rfl
def grOut (ys : List Int) (ok : Bool) (w : World) : Ending → World → Prop := fun e w' => ∃ A c, e = .returned (.tuple #[.slice A ys.length c, .bool ok]) ∧ w'.ownsRow w.heap.size 2 1 (.slice A ys.length c) ys.length (il ys) ∧ Below w.heap.size w w'
theorem grOut_bad {w W : World} (h : Below w.heap.size w W) : grOut [] false w (.returned (.tuple #[.slice none 0 0, .bool false])) W := ⟨none, 0, rfl, World.ownsRow_nil _ _ _ _, h⟩
theorem GS.start (W : World) (n : Nat) (R : Nat → Nat → Bool) : GS ((W.alloc (.cells #[] 54)).alloc (.cells #[] 2)) W.heap.size n R (.slice (some ⟨W.heap.size, 0, none⟩) 0 0) [] (.slice (some ⟨W.heap.size + 1, 0, none⟩) 0 0) [] := by
  have h1 := World.ownsRow_made W #[] 0 (base := W.heap.size) (e := 54) (size := 1) (Nat.le_refl _) (by unfold maxLen; omega) rfl
  have h2 := World.ownsRow_made (W.alloc (.cells #[] 54)) #[] 0 (base := W.heap.size) (e := 2) (size := 1) (by simp) (by unfold maxLen; omega) rfl
  rw [World.size_alloc] at h2
  exact ⟨own_below h1 (below_al (Below.refl _ _) _), fun i hi => absurd hi (by simp), h2, fun g hg => absurd hg (by simp), fun g hg => absurd hg (by simp), fun j hj e => by
    have hj : W.heap.size + 1 = j := Option.some.inj hj
    have e : W.heap.size = j := Option.some.inj e
    omega⟩
set_option maxHeartbeats 800000 in
theorem GroupsOfChain_bad (side : Int) (A : Option Addr) (xs : List Nat) (c : Nat) (w : World) (hx : xs.length ≤ c) (hc : c ≤ 9223372036854775807) (hA : Rd w w.heap.size A (fl xs)) (hb : validB side xs = false) :
    Calls Try.prog 11 #[.agg #[.int .i64 side, .slice A xs.length c]] w (grOut [] false w) := by
  have HF := Lib.hid fun W h => ValidChain_any side A xs c W hx hc h
  rw [hb] at HF
  clear hb
  go_enter Try.func11, Try.ntmps11
  go_wp2_with (go_at_call 33; refine (HF.out _ (hA.at_ (below_al (Below.refl _ _) _))).mono ?_; rintro e w1 ⟨rfl, hb1⟩)
  refine bodyPost_ret (v := .tuple #[.slice none 0 0, .bool false]) (by simp [results, Try.results11, go_sem]) rfl ?_
  exact grOut_bad (below_next (below_al (Below.refl _ _) _) hb1)
set_option maxRecDepth 100000 in
set_option maxHeartbeats 3200000 in
theorem GroupsOfChain_ok (n : Nat) (A : Option Addr) (xs : List Nat) (c : Nat) (w : World) (hx : xs.length ≤ c) (hc : c ≤ 9223372036854775807) (hA : Rd w w.heap.size A (fl xs)) (hv : validB n xs = true) :
    Calls Try.prog 11 #[.agg #[.int .i64 n, .slice A xs.length c]] w (grOut (groupsTo (seenB (adjC xs n) n) n).1 true w) := by
  obtain ⟨n', hn', hn1, hn2, hl, hp, hrw⟩ := validB_facts hv
  obtain rfl : n = n' := by omega
  obtain ⟨i0, hi0, hz0, hz1, hz2⟩ := info_parts info_bools
  obtain ⟨j0, hj0, hy0, hy1, hy2⟩ := info_parts info_i64
  have HF := Lib.hid fun W h => ValidChain_any n A xs c W hx hc h
  rw [hv] at HF
  have HS := Lib.hid fun i W hi h => reachedFrom_any n i A xs c W ⟨hn1, hn2⟩ hl hp hi h
  have HGL := Lib.hid fun i => groupsTo_len (seenB (adjC xs n) n) i
  have HGM := Lib.hid fun i => groupsTo_many (seenB (adjC xs n) n) i
  have HGN := Lib.hid fun i => groupsTo_nn (seenB (adjC xs n) n) i
  have HA := Lib.hid hA
  clear hx hc hA hv hn' hl hp hrw
  generalize seenB (adjC xs n) n = R at *
  go_enter Try.func11, Try.ntmps11
  go_wp2_with fail
  refine (HF.out _ (HA.out.at_ (below_al (Below.refl _ _) _))).mono ?_
  rintro e w1 ⟨rfl, hb1⟩
  have z0 : w1.cell? ⟨w.heap.size, 0, none⟩ = some (.int .i64 n) := keepC hb1 (by simp [go_sem])
  have z1 : w1.cell? ⟨w.heap.size, 1, none⟩ = some (.slice A xs.length c) := keepC hb1 (by simp [go_sem])
  have HB1 := Lib.hid (below_next (below_al (Below.refl _ _) _) hb1)
  have HZ : Hid (∀ W, Below w1.heap.size w1 W → W.cell? ⟨w.heap.size, 0, none⟩ = some (.int .i64 n) ∧ W.cell? ⟨w.heap.size, 1, none⟩ = some (.slice A xs.length c)) := Lib.hid fun W hW => ⟨keepC hW z0, keepC hW z1⟩
  have HRA : Hid (∀ W, Below w1.heap.size w1 W → Rd W W.heap.size A (fl xs)) := Lib.hid fun W hW => HA.out.at_ (below_next HB1.out hW)
  clear hb1 HF
  go_upto_region 4 with fail
  generalize hW2 : World.alloc (World.alloc w1 _) _ = w2
  have s2 : GS w2 w1.heap.size n R (.slice (some ⟨w1.heap.size, 0, none⟩) 0 0) [] (.slice (some ⟨w1.heap.size + 1, 0, none⟩) 0 0) [] ∧ Below w1.heap.size w1 w2 := by rw [← hW2]; exact ⟨GS.start _ _ _, below_al (below_al (Below.refl _ _) _) _⟩
  have S2 := Lib.hid s2
  obtain ⟨e0, e1⟩ := HZ.out _ s2.2
  clear hW2 s2
  go_wp2_with fail
  go_loopw [4, 18] (fun rv kv wr => ∃ (q : Nat) (A' : Option Addr) (c' : Nat) (gs : List Nat), q ≤ n ∧ kv = .int .i64 q ∧ rv = .slice A' q c' ∧ gs.length = q ∧ GS wr w1.heap.size n R (.slice A' q c') gs (.slice (some ⟨w1.heap.size + 1, 0, none⟩) 0 0) [] ∧ Below w1.heap.size w1 wr) (fun _ kv _ => n - (intOf kv).toNat)
  case atStart => exact ⟨0, _, _, [], Nat.zero_le _, rfl, rfl, rfl, S2.out.1, S2.out.2⟩
  case round =>
    obtain ⟨q, A', c', gs, hq, rfl, rfl, hgl, hgs, hbw⟩ := hrel
    rename World => wr
    have G := Lib.hid hgs
    have B := Lib.hid hbw
    have HGLq := Lib.hid hgl
    obtain ⟨e0, e1⟩ := HZ.out _ hbw
    clear hgs hbw S2
    by_cases hqn : q < n
    · have hs := HS.out q wr hqn (HRA.out wr B.out)
      have HSq := Lib.hid hs
      clear hs
      go_wp2_with fail
      refine HSq.out.mono ?_
      rintro e w3 ⟨g1, rfl, hg1, hr1, hb3⟩
      have g3 := G.out.keep hb3
      have hm3 := g3.m
      rw [hgl] at hm3
      have M3 := Lib.hid hm3
      have R1 := Lib.hid hr1
      have B3 := Lib.hid hb3
      have HZ3 : Hid (w1.heap.size ≤ w3.heap.size ∧ w1.heap.size ≤ wr.heap.size) := Lib.hid ⟨by have := B.out.size; have := hb3.size; omega, B.out.size⟩
      have hz3 := HZ3.out.1
      clear hm3 hr1 hb3 g3 e0 e1
      go_wp2_with (refine wpList_append_lies _ rfl _ _ _ rfl w1.heap.size 54 i0 _ 1 24 Try.underlying53 hi0 hz0 hz1 hz2 rfl (by omega) (.slice A' q c') q (rowsV n gs) (by rfl) (M3.out.alloc _) ⟨w3.heap.size, 0, none⟩ 1 1 [.slice (some ⟨g1, 0, none⟩) n n] (by rfl) (by rfl) (World.news_of_block (cs := #[.slice (some ⟨g1, 0, none⟩) n n]) (t := 54) (fr := (0, 0)) (heap_alloc_new w3 _)) (by simp [Value.oneCell']) (by omega) (by unfold maxLen; omega) (by omega) (by simp; omega) (w3.heap.size + 1) (by simp) ?_; intro g9 cap9 w9 hown9 hgrow hat hlt9; have G9 := Lib.hid (G.out.row' HGLq.out HZ3.out.2 B3.out hg1 R1.out (below_al (Below.refl _ _) _) hgrow hown9 (by rw [World.size_alloc]; exact hat)); have B9 := Lib.hid ((G.out.keep B3.out).far_below B.out B3.out (Nat.le_refl _) hgrow); clear hown9 hgrow hat)
      go_roundw
      case rel => exact ⟨q + 1, _, cap9, gs ++ [g1], by omega, by go_num, rfl, by rw [List.length_append, HGLq.out]; rfl, G9.out, B9.out⟩
      case measure => simp [intOf]; omega
    · obtain rfl : q = n := by omega
      obtain ⟨gV, cV, hV, -, -⟩ := G.out.m.form (by omega)
      injection hV with hA' hB' hC'
      subst hA'
      clear hB' hC'
      go_wp2_with fail
      go_loopw [5, 6, 30] (fun gv mv kv wq => ∃ (m : Nat) (U : Option Addr) (d : Nat), m ≤ q ∧ kv = .int .i64 m ∧ mv = .int .i64 ((groupsTo R m).2 : Nat) ∧ gv = .slice U m d ∧ GS wq w1.heap.size q R (.slice (some ⟨gV, 0, none⟩) q c') gs (.slice U m d) (il (groupsTo R m).1) ∧ Below w1.heap.size w1 wq) (fun _ _ kv _ => q - (intOf kv).toNat)
      case atStart => exact ⟨0, _, 0, Nat.zero_le _, rfl, rfl, rfl, G.out, B.out⟩
      case round =>
        obtain ⟨m, U, d, hm, rfl, rfl, rfl, hgs, hbw⟩ := hrel
        rename World => wq
        have GQ := Lib.hid hgs
        have BQ := Lib.hid hbw
        have hmn := HGM.out m
        have hgl2 := HGL.out m
        clear hgs hbw
        by_cases hmq : m < q
        · have HT0 : Hid (takeG R (groupsTo R m).1 m 0 = -1) := Lib.hid rfl
          have HTS : Hid (∀ k, k < m → takeG R (groupsTo R m).1 m (k + 1) = if (decide (takeG R (groupsTo R m).1 m k < 0) && both_ R m k) = true then (groupsTo R m).1.getD k 0 else takeG R (groupsTo R m).1 m k) := Lib.hid fun k hk => takeG_first fun q hq => by
            rw [List.getD_eq_getElem?_getD, List.getElem?_eq_getElem (by rw [hgl2]; omega)]
            exact (HGN.out m _ (List.getElem_mem _)).1
          have HGS : Hid (groupsTo R (m + 1) = if takeG R (groupsTo R m).1 m m < 0 then ((groupsTo R m).1 ++ [((groupsTo R m).2 : Int)], (groupsTo R m).2 + 1) else ((groupsTo R m).1 ++ [takeG R (groupsTo R m).1 m m], (groupsTo R m).2)) := Lib.hid rfl
          generalize groupsTo R m = GM at *
          obtain ⟨gl, many⟩ := GM
          dsimp only at *
          have HGL2 := Lib.hid hgl2
          clear hgl2
          go_wp2_with fail
          go_loopw [9, 34] (fun ov kv wk => ∃ k r : Nat, k ≤ m ∧ kv = .int .i64 k ∧ ov = .int .i64 (takeG R gl m k) ∧ wk = wq.drewN r) (fun _ kv _ => m - (intOf kv).toNat)
          case atStart => exact ⟨0, 0, Nat.zero_le _, rfl, by rw [HT0.out], rfl⟩
          case round =>
            obtain ⟨k, r, hk, rfl, rfl, rfl⟩ := hrel
            by_cases hkm : k < m
            · have HT := Lib.hid (HTS.out k hkm)
              have gq := GQ.out.keep (below_dn (Below.refl _ _) r)
              have hmg : m < gs.length := by rw [HGLq.out]; exact hmq
              have hkg : k < gs.length := by rw [HGLq.out]; omega
              obtain ⟨a1, a2⟩ := gq.cellAt hmg (show k < q by omega)
              obtain ⟨b1, b2⟩ := gq.cellAt hkg hmq
              obtain ⟨gU, cU, hU, -, -⟩ := gq.o.form (by rw [il_len, HGL2.out]; omega)
              injection hU with hA hB hC
              subst hA
              clear hB hC
              have n1 := gq.numAt (k := k) (by rw [HGL2.out]; exact hkm)
              clear gq
              unfold both_ at HT
              generalize gs[m] = ga at *
              generalize gs[k] = gb at *
              generalize gl.getD k 0 = gx at *
              generalize hT1 : takeG R gl m (k + 1) = T1 at *
              have HT1 := Lib.hid hT1
              clear hT1
              generalize takeG R gl m k = T at *
              generalize R m k = x1 at *
              generalize R k m = x2 at *
              by_cases hneg : T < 0
              · cases x1 <;> cases x2
                case true.true =>
                  have HE : Hid (T1 = gx) := Lib.hid (by rw [HT.out]; simp [hneg])
                  clear HT
                  go_wp2_with fail
                  exact ⟨⟨k + 1, r, by omega, by go_num, by rw [HT1.out, HE.out], rfl⟩, by simp [intOf]; omega⟩
                all_goals
                  have HE : Hid (T1 = T) := Lib.hid (by rw [HT.out]; simp)
                  clear HT
                  go_wp2_with fail
                  exact ⟨⟨k + 1, r, by omega, by go_num, by rw [HT1.out, HE.out], rfl⟩, by simp [intOf]; omega⟩
              · have HE : Hid (T1 = T) := Lib.hid (by rw [HT.out]; simp [hneg])
                clear HT
                go_wp2_with fail
                exact ⟨⟨k + 1, r, by omega, by go_num, by rw [HT1.out, HE.out], rfl⟩, by simp [intOf]; omega⟩
            · obtain rfl : k = m := by omega
              clear HTS HT0
              generalize takeG R gl k k = T at *
              have hbq := BQ.out.size
              have gq := GQ.out.keep (below_dn (Below.refl _ _) r)
              have hol := gq.o
              rw [il_len, HGL2.out] at hol
              have HO := Lib.hid hol
              have HGR := Lib.hid gq
              have HBR := Lib.hid (below_dn BQ.out r)
              have hbr := HBR.out.size
              have HLI : Hid ((il gl).length = k) := Lib.hid (by rw [il_len]; exact HGL2.out)
              clear gq hol
              generalize wq.drewN r = wr2 at *
              by_cases hneg : T < 0
              · rw [if_pos hneg] at HGS
                go_wp2_with (refine wpList_append_lies _ rfl _ _ _ rfl w1.heap.size 2 j0 _ 1 8 Try.underlying26 hj0 hy0 hy1 hy2 rfl (by omega) (.slice U k d) k (il gl) (by rfl) (HO.out.alloc _) ⟨wr2.heap.size, 0, none⟩ 1 1 [.int .i64 (many : Nat)] (by rfl) (by rfl) (World.news_of_block (cs := #[.int .i64 (many : Nat)]) (t := 2) (fr := (0, 0)) (heap_alloc_new wr2 _)) (by simp [Value.oneCell']) (by omega) (by unfold maxLen; omega) (by omega) (by simp; omega) (wr2.heap.size + 1) (by simp) ?_; intro g9 cap9 w9 hown9 hgrow hat hlt9; have G9 := Lib.hid (HGR.out.add' HLI.out (below_al (Below.refl _ _) _) hgrow hown9 (by rw [World.size_alloc]; exact hat)); have B9 := Lib.hid (HGR.out.add_below HBR.out (Nat.le_refl _) hgrow); clear hown9 hgrow hat)
                go_roundw
                case rel => exact ⟨k + 1, _, cap9, by omega, by go_num, by rw [HGS.out]; go_num, rfl, by rw [HGS.out]; simpa [il] using G9.out, B9.out⟩
                case measure => simp [intOf]; omega
              · rw [if_neg hneg] at HGS
                go_wp2_with (refine wpList_append_lies _ rfl _ _ _ rfl w1.heap.size 2 j0 _ 1 8 Try.underlying26 hj0 hy0 hy1 hy2 rfl (by omega) (.slice U k d) k (il gl) (by rfl) (HO.out.alloc _) ⟨wr2.heap.size, 0, none⟩ 1 1 [.int .i64 T] (by rfl) (by rfl) (World.news_of_block (cs := #[.int .i64 T]) (t := 2) (fr := (0, 0)) (heap_alloc_new wr2 _)) (by simp [Value.oneCell']) (by omega) (by unfold maxLen; omega) (by omega) (by simp; omega) (wr2.heap.size + 1) (by simp) ?_; intro g9 cap9 w9 hown9 hgrow hat hlt9; have G9 := Lib.hid (HGR.out.add' HLI.out (below_al (Below.refl _ _) _) hgrow hown9 (by rw [World.size_alloc]; exact hat)); have B9 := Lib.hid (HGR.out.add_below HBR.out (Nat.le_refl _) hgrow); clear hown9 hgrow hat)
                go_roundw
                case rel => exact ⟨k + 1, _, cap9, by omega, by go_num, by rw [HGS.out], rfl, by rw [HGS.out]; simpa [il] using G9.out, B9.out⟩
                case measure => simp [intOf]; omega
        · obtain rfl : m = q := by omega
          go_wp2_with fail
          refine bodyPost_ret (v := .tuple #[.slice U m d, .bool true]) (by simp [results, Try.results11, go_sem]) rfl ?_
          refine ⟨U, d, by rw [HGL.out], ?_, below_next HB1.out BQ.out⟩
          have := GQ.out.o
          rw [il_len, HGL.out] at this
          rw [HGL.out]
          exact own_base this HB1.out.size
end Go.Proofs.Ytnnnpdendnjkhaa
