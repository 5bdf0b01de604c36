/-
  impl.averages at the two functions that give right sides.
-/
import Derived.Test.YtlhepgdheopgaaaAv1
namespace Go.Proofs.Ytlhepgdheopgaaa
open Go Go.RowKit Ieee
attribute [local go_sem] run_store_float

theorem below_grown_to {w W W' : World} {G : Nat} (hb : Below w.heap.size w W) (hg : W.grownBy W' (some G)) : w.grownBy W' (some G) := by
  obtain ⟨h1, h2, h3, h4, h5⟩ := hg
  refine ⟨h1.trans hb.os, h2.trans hb.tape, h3.trans hb.output, Nat.le_trans hb.size h4, fun k hk hne => ?_⟩
  rw [h5 k (Nat.lt_of_lt_of_le hk hb.size) hne]
  exact hb.block k hk
/-- what averages gives: the given row with the numbers at their places -/
def avOut (S : Option (List Nat)) (ls : List Nat) (x0 : Nat → Nat) (n G : Nat) (w : World) : Ending → World → Prop := fun e w' =>
  (S = none ∧ e = .returned (.tuple #[.slice none 0 0, .bool false]) ∧ Below w.heap.size w w') ∨
  ∃ ys, S = some ys ∧ e = .returned (.tuple #[.slice (some ⟨G, 0, none⟩) n n, .bool true]) ∧ w'.rowIs G 31 n (fun i => .float .f32 (putM ls (fun k => ys.getD k 0) x0 ls.length i)) ∧ w.grownBy w' (some G)

set_option maxRecDepth 100000 in
set_option maxHeartbeats 3200000 in
theorem averages_times (n : Nat) (A : Option Addr) (xs : List Nat) (c : Nat) (ls : List Nat) (sg cs G : Nat) (x0 right : Nat → Nat) (w : World) (hn : 1 ≤ n ∧ n ≤ 12) (hl : xs.length = n * n) (hp : xs.all partB = true) (hA : Rd w w.heap.size A (fl xs))
    (hS : Rd w w.heap.size (some ⟨sg, 0, none⟩) (nlv ls)) (hls : ls.length ≤ n) (hlt : ∀ i, i < ls.length → ls.getD i 0 < n) (hinj : ∀ i k, i < ls.length → k < ls.length → (ls.getD i 0 = ls.getD k 0 ↔ i = k)) (hG : w.rowIs G 31 n (fun i => .float .f32 (x0 i)))
    (hSG : 0 < ls.length → sg ≠ G)
    (hg : ∀ W, Below w.heap.size w W → ∀ i : Nat, i < n → Calls Try.prog 67 #[.int .i64 i] W (fun e W' => e = .returned (.float .f32 (right i)) ∧ Below W.heap.size W W')) :
    Calls Try.prog 65 #[.agg #[.int .i64 n, .slice A xs.length c], .slice (some ⟨sg, 0, none⟩) ls.length cs, .slice (some ⟨G, 0, none⟩) n n, .func (.func 67) #[] #[]] w (avOut (solM (cofM xs n ls right) ls.length) ls x0 n G w) := by
  obtain ⟨i0, hi0, hz0, hz1, hz2⟩ := info_parts info_f32
  obtain ⟨j0, hj0, hy0, hy1, hy2⟩ := info_parts info_f32s
  have HSTEP := Lib.hid fun j k W hj hk hr => step_any n j k A xs c W hn.2 hj hk hl hr
  have HSOL := Lib.hid fun R cap base bl cp g W h1 h2 h3 h4 => solveRows_any ls.length R cap base bl cp g (cofM xs n ls right) W (by omega) h1 h2 h3 h4
  have HRUN := Lib.hid fun r k (hr : r < ls.length) (hk : k < ls.length) => cofM_run (right := right) hl hp (hlt r hr) (hlt k hk) hk
  have HRIGHT : Hid (∀ r, cofM xs n ls right r ls.length = right (ls.getD r 0)) := Lib.hid fun r => cofM_right
  have HLT := Lib.hid hlt
  have HINJ := Lib.hid hinj
  have HA := Lib.hid hA
  have HS := Lib.hid hS
  have HGR := Lib.hid hG
  have HG := Lib.hid hg
  have HSG := Lib.hid hSG
  have HLS : Hid (ls.length ≤ n) := Lib.hid hls
  obtain ⟨n1, n2⟩ := hn
  have hm12 : ls.length ≤ 12 := by omega
  clear hl hp hA hS hls hlt hinj hG hg hSG
  have HSC : Hid (∀ W k, Below w.heap.size w W → k < ls.length → W.cell? ⟨sg, k, none⟩ = some (.int .i64 ((ls.getD k 0 : Nat) : Int))) := Lib.hid fun W k hW hk => by
    obtain ⟨b, off, e, hb, hc⟩ := HS.out.at_ hW (by rw [nlv_len]; omega)
    injection e with e
    injection e with e1 e2
    subst e1
    subst e2
    have := hc k (by rw [nlv_len]; exact hk)
    rw [Nat.zero_add] at this
    rw [this, List.getD_eq_getElem?_getD, List.getElem?_eq_getElem hk]
    simp [nlv]
  have HROWS : Hid (∀ k r : Nat, fl (rowTo (cofM xs n ls right) r (k + 1)) = fl (rowTo (cofM xs n ls right) r k) ++ [.float .f32 (cofM xs n ls right r k)]) := Lib.hid fun k r => rowTo_succ _ r k
  generalize hC : cofM xs n ls right = C at *
  generalize hm : ls.length = m at *
  have HM := Lib.hid hm
  clear hC hm
  go_enter Try.func65, Try.ntmps65
  go_upto_region 1 with fail
  generalize hW1 : World.alloc w _ = W1
  have c0 : W1.cell? ⟨w.heap.size, 0, none⟩ = some (.int .i64 n) := by rw [← hW1]; simp [go_sem]
  have c1 : W1.cell? ⟨w.heap.size, 1, none⟩ = some (.slice A xs.length c) := by rw [← hW1]; simp [go_sem]
  have HB1 : Hid (Below w.heap.size w W1) := by rw [← hW1]; exact Lib.hid (below_al (Below.refl _ _) _)
  clear hW1
  have HBX : Hid (∀ W, Below W1.heap.size W1 W → W.cell? ⟨w.heap.size, 0, none⟩ = some (.int .i64 n) ∧ W.cell? ⟨w.heap.size, 1, none⟩ = some (.slice A xs.length c)) := Lib.hid fun W hW => ⟨keepC hW c0, keepC hW c1⟩
  clear c0 c1
  go_upto_region 2 with fail
  have START := Lib.hid (show FR (W1.alloc (.cells #[] 24)) W1.heap.size (.slice (some ⟨W1.heap.size, 0, none⟩) 0 0) [] (.slice none 0 0) [] ∧ Below W1.heap.size W1 (W1.alloc (.cells #[] 24)) from ⟨FR.start W1, below_al (Below.refl _ _) _⟩)
  generalize World.alloc W1 _ = W2 at *
  go_wp2_with fail
  go_loopw [10, 24] (fun rv iv wr => ∃ (q R cR : Nat) (rs : List (List Nat × Value)), q ≤ m ∧ iv = .int .i64 q ∧ rv = .slice (some ⟨R, 0, none⟩) q cR ∧ rs.length = q ∧ rs.map (·.1) = (List.range q).map (fun r => rowTo C r (m + 1)) ∧ FR wr W1.heap.size (.slice (some ⟨R, 0, none⟩) q cR) rs (.slice none 0 0) [] ∧ Below W1.heap.size W1 wr) (fun _ iv _ => m - (intOf iv).toNat)
  case atStart => exact ⟨0, W1.heap.size, 0, [], Nat.zero_le _, rfl, rfl, rfl, rfl, START.out.1, START.out.2⟩
  case round =>
    clear START
    obtain ⟨q, R, cR, rs, hq, rfl, rfl, hrl, hrc, hfr, hbw⟩ := hrel
    rename World => wr
    have F := Lib.hid hfr
    have B := Lib.hid hbw
    have HRL := Lib.hid hrl
    have HRC := Lib.hid hrc
    have hwsz := hbw.size
    have HWS := Lib.hid hwsz
    clear hrc hfr hbw hrl hwsz
    by_cases hqm : q < m
    · have y0 := HSC.out wr q (below_next HB1.out B.out) hqm
      have HQN := Lib.hid (HLT.out q hqm)
      have HLQ := Lib.hid (HINJ.out q)
      have HRUN' := Lib.hid fun k hk => HRUN.out q k hqm hk
      have hR0 : Hid (fl (rowTo C q 0) = []) := Lib.hid rfl
      have HRT := Lib.hid (HRIGHT.out q)
      generalize hsq : ls.getD q 0 = sq at *
      have HSQ := Lib.hid hsq
      clear hsq
      go_upto_region 6 with fail
      have F3 := Lib.hid (F.out.fresh HWS.out)
      have B3 := Lib.hid (below_al B.out (.cells #[] 31))
      generalize hW3 : World.alloc wr _ = W3 at *
      have hz3 : W1.heap.size ≤ wr.heap.size := HWS.out
      generalize wr.heap.size = g3 at *
      clear hW3 y0
      go_wp2_with fail
      go_loopw [13, 31] (fun uv kv wk => ∃ (k gU cU : Nat), k ≤ m ∧ kv = .int .i64 k ∧ uv = .slice (some ⟨gU, 0, none⟩) k cU ∧ FR wk W1.heap.size (.slice (some ⟨R, 0, none⟩) q cR) rs (.slice (some ⟨gU, 0, none⟩) k cU) (fl (rowTo C q k)) ∧ Below W1.heap.size W1 wk) (fun _ kv _ => m - (intOf kv).toNat)
      case atStart => exact ⟨0, g3, 0, Nat.zero_le _, rfl, rfl, by rw [hR0.out]; exact F3.out, B3.out⟩
      case round =>
        clear F3 B3
        obtain ⟨k, gU, cU, hk, rfl, rfl, hfr, hbw⟩ := hrel
        rename World => wk
        have F := Lib.hid hfr
        have B := Lib.hid hbw
        have hwsz := hbw.size
        clear hfr hbw
        by_cases hkm : k < m
        · have y0 := HSC.out wk k (below_next HB1.out B.out) hkm
          obtain ⟨e0, e1⟩ := HBX.out wk B.out
          have HKN := Lib.hid (HLT.out k hkm)
          have hrun := HRUN'.out k hkm
          have hiff := HLQ.out k hqm hkm
          have HROW := Lib.hid (HROWS.out k q)
          have HRDA := Lib.hid (HA.out.at_ (below_next HB1.out B.out))
          have HO := Lib.hid F.out.o
          have hlen : (fl (rowTo C q k)).length = k := by rw [fl_len, rowTo_len]
          rw [hlen] at HO
          have HLEN := Lib.hid hlen
          generalize hsk : ls.getD k 0 = sk at *
          have HSTP := Lib.hid fun W h => HSTEP.out sq sk W HQN.out HKN.out h
          generalize C q k = v at *
          clear hlen hsk
          by_cases hqk : q = k
          · have hs2 : sq = sk := hiff.2 hqk
            subst hs2
            rw [decide_eq_true hqk] at hrun
            have e1' := fun w => run_float_arith (P := Try.prog) w .sub 31 .f32 _ _ _ hrun
            rw [show unitF true = 1065353216 from rfl] at e1'
            clear hiff hqk hrun
            have HQK : Hid True := Lib.hid trivial
            go_wp2_with (first
              | (go_at_call 35; refine (HSTP.out _ HRDA.out).mono ?_; rintro e w9 ⟨rfl, hb9⟩; have F9 := Lib.hid (F.out.keep hb9); have B9 := Lib.hid (below_next B.out hb9); have O9 := Lib.hid (own_below HO.out hb9); have z9 := hb9.size; clear hb9)
              | (refine wpList_append_lies _ rfl _ _ _ rfl W1.heap.size 31 i0 _ 1 4 Try.underlying24 hi0 hz0 hz1 hz2 rfl (by omega) (.slice (some ⟨gU, 0, none⟩) k cU) k (fl (rowTo C q k)) (by rfl) (O9.out.alloc _) ⟨w9.heap.size, 0, none⟩ 1 1 [.float .f32 v] (by rfl) (by rfl) (World.news_of_block (cs := #[.float .f32 v]) (t := 31) (fr := (0, 0)) (heap_alloc_new w9 _)) (by simp [Value.oneCell']) (by omega) (by unfold maxLen; omega) (by omega) (by simp; omega) (w9.heap.size + 1) (by simp) ?_; intro g8 cap8 w8 hown8 hgrow8 hat8 hlt8; have F8 := Lib.hid (F9.out.add HLEN.out hgrow8 hown8 hat8); have B8 := Lib.hid (F9.out.add_below B9.out (Nat.le_refl _) hgrow8); clear hown8 hgrow8 hat8))
            go_roundw
            case rel => exact ⟨k + 1, g8, cap8, by omega, by go_num, rfl, by rw [HROW.out]; exact F8.out, B8.out⟩
            case measure => simp [intOf]; omega
          · have hs2 : ¬ sq = sk := fun h => hqk (hiff.1 h)
            rw [decide_eq_false hqk] at hrun
            have e1' := fun w => run_float_arith (P := Try.prog) w .sub 31 .f32 _ _ _ hrun
            rw [show unitF false = 0 from rfl] at e1'
            have hs3 : ((sq : Int) == (sk : Int)) = false := by rw [Bool.eq_false_iff, ne_eq, beq_iff_eq]; omega
            clear hiff hqk hrun hs2
            go_wp2_with (first
              | (go_at_call 35; refine (HSTP.out _ HRDA.out).mono ?_; rintro e w9 ⟨rfl, hb9⟩; have F9 := Lib.hid (F.out.keep hb9); have B9 := Lib.hid (below_next B.out hb9); have O9 := Lib.hid (own_below HO.out hb9); have z9 := hb9.size; clear hb9)
              | (refine wpList_append_lies _ rfl _ _ _ rfl W1.heap.size 31 i0 _ 1 4 Try.underlying24 hi0 hz0 hz1 hz2 rfl (by omega) (.slice (some ⟨gU, 0, none⟩) k cU) k (fl (rowTo C q k)) (by rfl) (O9.out.alloc _) ⟨w9.heap.size, 0, none⟩ 1 1 [.float .f32 v] (by rfl) (by rfl) (World.news_of_block (cs := #[.float .f32 v]) (t := 31) (fr := (0, 0)) (heap_alloc_new w9 _)) (by simp [Value.oneCell']) (by omega) (by unfold maxLen; omega) (by omega) (by simp; omega) (w9.heap.size + 1) (by simp) ?_; intro g8 cap8 w8 hown8 hgrow8 hat8 hlt8; have F8 := Lib.hid (F9.out.add HLEN.out hgrow8 hown8 hat8); have B8 := Lib.hid (F9.out.add_below B9.out (Nat.le_refl _) hgrow8); clear hown8 hgrow8 hat8))
            go_roundw
            case rel => exact ⟨k + 1, g8, cap8, by omega, by go_num, rfl, by rw [HROW.out]; exact F8.out, B8.out⟩
            case measure => simp [intOf]; omega
        · obtain rfl : m = k := by omega
          have HGQ := Lib.hid fun W hW => HG.out W hW sq HQN.out
          have HROW := Lib.hid (HROWS.out m q)
          rw [HRT.out] at HROW
          have HO := Lib.hid F.out.o
          have hlen : (fl (rowTo C q m)).length = m := by rw [fl_len, rowTo_len]
          rw [hlen] at HO
          have HLEN := Lib.hid hlen
          have HBW := Lib.hid (below_next HB1.out B.out)
          clear hlen
          generalize right sq = v at *
          go_wp2_with (first
            | (go_at_call 67; refine (HGQ.out _ HBW.out).mono ?_; rintro e w9 ⟨rfl, hb9⟩; have F9 := Lib.hid (F.out.keep hb9); have B9 := Lib.hid (below_next B.out hb9); have O9 := Lib.hid (own_below HO.out hb9); have z9 := hb9.size; clear hb9)
            | (refine wpList_append_lies _ rfl _ _ _ rfl W1.heap.size 31 i0 _ 1 4 Try.underlying24 hi0 hz0 hz1 hz2 rfl (by omega) (.slice (some ⟨gU, 0, none⟩) m cU) m (fl (rowTo C q m)) (by rfl) (O9.out.alloc _) ⟨w9.heap.size, 0, none⟩ 1 1 [.float .f32 v] (by rfl) (by rfl) (World.news_of_block (cs := #[.float .f32 v]) (t := 31) (fr := (0, 0)) (heap_alloc_new w9 _)) (by simp [Value.oneCell']) (by omega) (by unfold maxLen; omega) (by omega) (by simp; omega) (w9.heap.size + 1) (by simp) ?_; intro g8 cap8 w8 hown8 hgrow8 hat8 hlt8; have F8 := F9.out.add HLEN.out hgrow8 hown8 hat8; have B8 := Lib.hid (F9.out.add_below B9.out (Nat.le_refl _) hgrow8); rw [← HROW.out] at F8; have F8 := Lib.hid F8; have M8 := Lib.hid F8.out.m; rw [HRL.out] at M8; have z8 := B8.out.size; clear hown8 hgrow8 hat8)
            | (refine wpList_append_lies _ rfl _ _ _ rfl W1.heap.size 24 j0 _ 1 24 Try.underlying91 hj0 hy0 hy1 hy2 rfl (by omega) (.slice (some ⟨R, 0, none⟩) q cR) q (rs.map (·.2)) (by rfl) (M8.out.alloc _) ⟨w8.heap.size, 0, none⟩ 1 1 [.slice (some ⟨g8, 0, none⟩) (m + 1) cap8] (by rfl) (by rfl) (World.news_of_block (cs := #[.slice (some ⟨g8, 0, none⟩) (m + 1) cap8]) (t := 24) (fr := (0, 0)) (heap_alloc_new w8 _)) (by simp [Value.oneCell']) (by omega) (by unfold maxLen; omega) (by omega) (by simp; omega) (w8.heap.size + 1) (by simp) ?_; intro g7 cap7 w7 hown7 hgrow7 hat7 hlt7; have F7 := Lib.hid (F8.out.push HRL.out hgrow7 hown7 hat7); have B7 := Lib.hid (F8.out.push_below B8.out (Nat.le_refl _) hgrow7); clear hown7 hgrow7 hat7))
          refine ⟨⟨q + 1, g7, cap7, rs ++ [(rowTo C q (m + 1), .slice (some ⟨g8, 0, none⟩) (m + 1) cap8)], by omega, by go_num, rfl, by rw [List.length_append, HRL.out]; rfl, ?_, F7.out, B7.out⟩, by simp [intOf]; omega⟩
          rw [List.map_append, HRC.out, List.range_succ, List.map_append]
          rfl
    · obtain rfl : m = q := by omega
      obtain ⟨bl, cp, hM⟩ := F.out.toM HRL.out HRC.out
      have hcap := own_cap (by have := F.out.m; rw [HRL.out] at this; exact this)
      have HSV := Lib.hid (HSOL.out R cR W1.heap.size bl cp C wr hcap hM (fun r c _ _ => sameN.refl _) HWS.out)
      have HBW := Lib.hid (below_next HB1.out B.out)
      clear hM hcap HSTEP HSOL HRUN HRIGHT HINJ HA HG HROWS HBX F HRL HRC hi0 hz0 hz1 hz2 hj0 hy0 hy1 hy2
      go_wp2_with fail
      refine HSV.out.mono ?_
      rintro e w5 ⟨A5, c5, ys, rfl, hys, hblk, hrd, hb5⟩
      have B5 := Lib.hid (HBW.out.trans (hb5.mono HB1.out.size))
      have RD := Lib.hid hrd
      have BLK := Lib.hid hblk
      clear hb5 hrd hblk HSV
      cases hsol : solM C m with
      | none =>
        have HN := Lib.hid hsol
        rw [show (none : Option (List Nat)).isSome = false from rfl]
        clear hsol hys
        go_wp2_with fail
        refine bodyPost_ret (v := .tuple #[.slice none 0 0, .bool false]) (by simp [results, Try.results65, go_sem]) rfl ?_
        exact .inl ⟨HN.out, rfl, B5.out⟩
      | some zs =>
        obtain rfl := hys _ hsol
        have HSO := Lib.hid hsol
        have HYL : Hid (ys.length = m) := Lib.hid (sol_len hsol)
        rw [HYL.out, show (some ys).isSome = true from rfl]
        have HG0 : Hid (w5.rowIs G 31 n (fun i => .float .f32 (putM ls (fun k => ys.getD k 0) x0 0 i))) := Lib.hid (HGR.out.of_block (B5.out.block _ HGR.out.lt))
        have HGL : Hid (G < w.heap.size) := Lib.hid HGR.out.lt
        have HSC5 : Hid (∀ k W, k < m → w5.grownBy W (some G) → W.cell? ⟨sg, k, none⟩ = some (.int .i64 ((ls.getD k 0 : Nat) : Int))) := Lib.hid fun k W hk hW => by
          have h1 := HSC.out w5 k B5.out hk
          rw [hW.cell_far _ (lt_of_cell h1) (fun e => HSG.out (by omega) (by injection e))]
          exact h1
        have HYC : Hid (0 < m → ∃ b off, A5 = some ⟨b, off, none⟩ ∧ ∀ k W, k < m → w5.grownBy W (some G) → W.cell? ⟨b, off + k, none⟩ = some (.float .f32 (ys.getD k 0))) := Lib.hid fun h0 => by
          obtain ⟨b, off, e, hb, hc⟩ := RD.out (by rw [fl_len, HYL.out]; exact h0)
          refine ⟨b, off, e, fun k W hk hW => ?_⟩
          have h1 := hc k (by rw [fl_len, HYL.out]; exact hk)
          have h2 := BLK.out _ e
          have h3 := HGL.out
          have h4 := HB1.out.size
          have h2 : W1.heap.size ≤ b := h2
          rw [hW.cell_far _ (lt_of_cell h1) (fun e => by have e : b = G := by injection e
                                                         omega), h1]
          rw [List.getD_eq_getElem?_getD, List.getElem?_eq_getElem (by rw [HYL.out]; exact hk)]
          simp [fl]
        have HPS : Hid (∀ (k : Nat) (W : World), W.rowIs G 31 n (fun i => .float .f32 (putM ls (fun k => ys.getD k 0) x0 k i)) → (W.setCell ⟨G, ls.getD k 0, none⟩ (.float .f32 (ys.getD k 0))).rowIs G 31 n (fun i => .float .f32 (putM ls (fun k => ys.getD k 0) x0 (k + 1) i))) := Lib.hid fun k W hW => (hW.set _ _).congr fun i _ => by
          show (if i = ls.getD k 0 then Value.float .f32 (ys.getD k 0) else Value.float .f32 (putM ls (fun k => ys.getD k 0) x0 k i)) = Value.float .f32 (if i = ls.getD k 0 then ys.getD k 0 else putM ls (fun k => ys.getD k 0) x0 k i)
          split <;> rfl
        clear hsol hys HSC HGR BLK RD HYL
        generalize hpm : putM ls (fun k => ys.getD k 0) x0 = pm at *
        have HPM := Lib.hid hpm
        clear hpm
        go_wp2_with fail
        go_loopw [67] (fun iv wq => ∃ k : Nat, k ≤ m ∧ iv = .int .i64 k ∧ w5.grownBy wq (some G) ∧ wq.rowIs G 31 n (fun i => .float .f32 (pm k i))) (fun iv _ => m - (intOf iv).toNat)
        case atStart => exact ⟨0, Nat.zero_le _, rfl, grown_refl _ _, HG0.out⟩
        case round =>
          clear HG0
          obtain ⟨k, hk, rfl, hgr, hrow⟩ := hrel
          rename World => wq
          have GR := Lib.hid hgr
          have RW := Lib.hid hrow
          clear hgr hrow
          by_cases hkm : k < m
          · have y0 := HSC5.out k wq hkm GR.out
            obtain ⟨b5, o5, rfl, hy⟩ := HYC.out (by omega)
            have y1 := hy k wq hkm GR.out
            have hln := HLT.out k hkm
            have y2 := RW.out.cell hln
            have f2 := RW.out.frozen (ls.getD k 0)
            have HPK := Lib.hid (HPS.out k _ RW.out)
            have HGS := Lib.hid (grown_set GR.out (ls.getD k 0) (.float .f32 (ys.getD k 0)))
            have hln2 : ((ls.getD k 0 : Nat) : Int) < (n : Int) := by omega
            clear hy HYC HSC5 HPS
            generalize ls.getD k 0 = lk at *
            generalize ys.getD k 0 = yk at *
            generalize pm k lk = ok at *
            go_wp2_with fail
            exact ⟨⟨k + 1, by omega, by go_num, HGS.out, HPK.out⟩, by simp [intOf]; omega⟩
          · obtain rfl : m = k := by omega
            go_wp2_with fail
            refine bodyPost_ret (v := .tuple #[.slice (some ⟨G, 0, none⟩) n n, .bool true]) (by simp [results, Try.results65, go_sem]) rfl ?_
            refine .inr ⟨ys, HSO.out, rfl, ?_, below_grown_to B5.out GR.out⟩
            rw [HM.out, HPM.out]
            exact RW.out


set_option maxRecDepth 100000 in
set_option maxHeartbeats 3200000 in
theorem averages_chances (n : Nat) (p0 p1 : Value) (A : Option Addr) (xs : List Nat) (c : Nat) (ls : List Nat) (sg cs G : Nat) (x0 right : Nat → Nat) (w : World) (hn : 1 ≤ n ∧ n ≤ 12) (hl : xs.length = n * n) (hp : xs.all partB = true) (hA : Rd w w.heap.size A (fl xs))
    (hS : Rd w w.heap.size (some ⟨sg, 0, none⟩) (nlv ls)) (hls : ls.length ≤ n) (hlt : ∀ i, i < ls.length → ls.getD i 0 < n) (hinj : ∀ i k, i < ls.length → k < ls.length → (ls.getD i 0 = ls.getD k 0 ↔ i = k)) (hG : w.rowIs G 31 n (fun i => .float .f32 (x0 i)))
    (hSG : 0 < ls.length → sg ≠ G)
    (hg : ∀ W, Below w.heap.size w W → ∀ i : Nat, i < n → Calls Try.prog 68 #[.int .i64 i, p0, p1] W (fun e W' => e = .returned (.float .f32 (right i)) ∧ Below W.heap.size W W')) :
    Calls Try.prog 65 #[.agg #[.int .i64 n, .slice A xs.length c], .slice (some ⟨sg, 0, none⟩) ls.length cs, .slice (some ⟨G, 0, none⟩) n n, .func (.func 68) #[] #[p0, p1]] w (avOut (solM (cofM xs n ls right) ls.length) ls x0 n G w) := by
  obtain ⟨i0, hi0, hz0, hz1, hz2⟩ := info_parts info_f32
  obtain ⟨j0, hj0, hy0, hy1, hy2⟩ := info_parts info_f32s
  have HSTEP := Lib.hid fun j k W hj hk hr => step_any n j k A xs c W hn.2 hj hk hl hr
  have HSOL := Lib.hid fun R cap base bl cp g W h1 h2 h3 h4 => solveRows_any ls.length R cap base bl cp g (cofM xs n ls right) W (by omega) h1 h2 h3 h4
  have HRUN := Lib.hid fun r k (hr : r < ls.length) (hk : k < ls.length) => cofM_run (right := right) hl hp (hlt r hr) (hlt k hk) hk
  have HRIGHT : Hid (∀ r, cofM xs n ls right r ls.length = right (ls.getD r 0)) := Lib.hid fun r => cofM_right
  have HLT := Lib.hid hlt
  have HINJ := Lib.hid hinj
  have HA := Lib.hid hA
  have HS := Lib.hid hS
  have HGR := Lib.hid hG
  have HG := Lib.hid hg
  have HSG := Lib.hid hSG
  have HLS : Hid (ls.length ≤ n) := Lib.hid hls
  obtain ⟨n1, n2⟩ := hn
  have hm12 : ls.length ≤ 12 := by omega
  clear hl hp hA hS hls hlt hinj hG hg hSG
  have HSC : Hid (∀ W k, Below w.heap.size w W → k < ls.length → W.cell? ⟨sg, k, none⟩ = some (.int .i64 ((ls.getD k 0 : Nat) : Int))) := Lib.hid fun W k hW hk => by
    obtain ⟨b, off, e, hb, hc⟩ := HS.out.at_ hW (by rw [nlv_len]; omega)
    injection e with e
    injection e with e1 e2
    subst e1
    subst e2
    have := hc k (by rw [nlv_len]; exact hk)
    rw [Nat.zero_add] at this
    rw [this, List.getD_eq_getElem?_getD, List.getElem?_eq_getElem hk]
    simp [nlv]
  have HROWS : Hid (∀ k r : Nat, fl (rowTo (cofM xs n ls right) r (k + 1)) = fl (rowTo (cofM xs n ls right) r k) ++ [.float .f32 (cofM xs n ls right r k)]) := Lib.hid fun k r => rowTo_succ _ r k
  generalize hC : cofM xs n ls right = C at *
  generalize hm : ls.length = m at *
  have HM := Lib.hid hm
  clear hC hm
  go_enter Try.func65, Try.ntmps65
  go_upto_region 1 with fail
  generalize hW1 : World.alloc w _ = W1
  have c0 : W1.cell? ⟨w.heap.size, 0, none⟩ = some (.int .i64 n) := by rw [← hW1]; simp [go_sem]
  have c1 : W1.cell? ⟨w.heap.size, 1, none⟩ = some (.slice A xs.length c) := by rw [← hW1]; simp [go_sem]
  have HB1 : Hid (Below w.heap.size w W1) := by rw [← hW1]; exact Lib.hid (below_al (Below.refl _ _) _)
  clear hW1
  have HBX : Hid (∀ W, Below W1.heap.size W1 W → W.cell? ⟨w.heap.size, 0, none⟩ = some (.int .i64 n) ∧ W.cell? ⟨w.heap.size, 1, none⟩ = some (.slice A xs.length c)) := Lib.hid fun W hW => ⟨keepC hW c0, keepC hW c1⟩
  clear c0 c1
  go_upto_region 2 with fail
  have START := Lib.hid (show FR (W1.alloc (.cells #[] 24)) W1.heap.size (.slice (some ⟨W1.heap.size, 0, none⟩) 0 0) [] (.slice none 0 0) [] ∧ Below W1.heap.size W1 (W1.alloc (.cells #[] 24)) from ⟨FR.start W1, below_al (Below.refl _ _) _⟩)
  generalize World.alloc W1 _ = W2 at *
  go_wp2_with fail
  go_loopw [10, 24] (fun rv iv wr => ∃ (q R cR : Nat) (rs : List (List Nat × Value)), q ≤ m ∧ iv = .int .i64 q ∧ rv = .slice (some ⟨R, 0, none⟩) q cR ∧ rs.length = q ∧ rs.map (·.1) = (List.range q).map (fun r => rowTo C r (m + 1)) ∧ FR wr W1.heap.size (.slice (some ⟨R, 0, none⟩) q cR) rs (.slice none 0 0) [] ∧ Below W1.heap.size W1 wr) (fun _ iv _ => m - (intOf iv).toNat)
  case atStart => exact ⟨0, W1.heap.size, 0, [], Nat.zero_le _, rfl, rfl, rfl, rfl, START.out.1, START.out.2⟩
  case round =>
    clear START
    obtain ⟨q, R, cR, rs, hq, rfl, rfl, hrl, hrc, hfr, hbw⟩ := hrel
    rename World => wr
    have F := Lib.hid hfr
    have B := Lib.hid hbw
    have HRL := Lib.hid hrl
    have HRC := Lib.hid hrc
    have hwsz := hbw.size
    have HWS := Lib.hid hwsz
    clear hrc hfr hbw hrl hwsz
    by_cases hqm : q < m
    · have y0 := HSC.out wr q (below_next HB1.out B.out) hqm
      have HQN := Lib.hid (HLT.out q hqm)
      have HLQ := Lib.hid (HINJ.out q)
      have HRUN' := Lib.hid fun k hk => HRUN.out q k hqm hk
      have hR0 : Hid (fl (rowTo C q 0) = []) := Lib.hid rfl
      have HRT := Lib.hid (HRIGHT.out q)
      generalize hsq : ls.getD q 0 = sq at *
      have HSQ := Lib.hid hsq
      clear hsq
      go_upto_region 6 with fail
      have F3 := Lib.hid (F.out.fresh HWS.out)
      have B3 := Lib.hid (below_al B.out (.cells #[] 31))
      generalize hW3 : World.alloc wr _ = W3 at *
      have hz3 : W1.heap.size ≤ wr.heap.size := HWS.out
      generalize wr.heap.size = g3 at *
      clear hW3 y0
      go_wp2_with fail
      go_loopw [13, 31] (fun uv kv wk => ∃ (k gU cU : Nat), k ≤ m ∧ kv = .int .i64 k ∧ uv = .slice (some ⟨gU, 0, none⟩) k cU ∧ FR wk W1.heap.size (.slice (some ⟨R, 0, none⟩) q cR) rs (.slice (some ⟨gU, 0, none⟩) k cU) (fl (rowTo C q k)) ∧ Below W1.heap.size W1 wk) (fun _ kv _ => m - (intOf kv).toNat)
      case atStart => exact ⟨0, g3, 0, Nat.zero_le _, rfl, rfl, by rw [hR0.out]; exact F3.out, B3.out⟩
      case round =>
        clear F3 B3
        obtain ⟨k, gU, cU, hk, rfl, rfl, hfr, hbw⟩ := hrel
        rename World => wk
        have F := Lib.hid hfr
        have B := Lib.hid hbw
        have hwsz := hbw.size
        clear hfr hbw
        by_cases hkm : k < m
        · have y0 := HSC.out wk k (below_next HB1.out B.out) hkm
          obtain ⟨e0, e1⟩ := HBX.out wk B.out
          have HKN := Lib.hid (HLT.out k hkm)
          have hrun := HRUN'.out k hkm
          have hiff := HLQ.out k hqm hkm
          have HROW := Lib.hid (HROWS.out k q)
          have HRDA := Lib.hid (HA.out.at_ (below_next HB1.out B.out))
          have HO := Lib.hid F.out.o
          have hlen : (fl (rowTo C q k)).length = k := by rw [fl_len, rowTo_len]
          rw [hlen] at HO
          have HLEN := Lib.hid hlen
          generalize hsk : ls.getD k 0 = sk at *
          have HSTP := Lib.hid fun W h => HSTEP.out sq sk W HQN.out HKN.out h
          generalize C q k = v at *
          clear hlen hsk
          by_cases hqk : q = k
          · have hs2 : sq = sk := hiff.2 hqk
            subst hs2
            rw [decide_eq_true hqk] at hrun
            have e1' := fun w => run_float_arith (P := Try.prog) w .sub 31 .f32 _ _ _ hrun
            rw [show unitF true = 1065353216 from rfl] at e1'
            clear hiff hqk hrun
            have HQK : Hid True := Lib.hid trivial
            go_wp2_with (first
              | (go_at_call 35; refine (HSTP.out _ HRDA.out).mono ?_; rintro e w9 ⟨rfl, hb9⟩; have F9 := Lib.hid (F.out.keep hb9); have B9 := Lib.hid (below_next B.out hb9); have O9 := Lib.hid (own_below HO.out hb9); have z9 := hb9.size; clear hb9)
              | (refine wpList_append_lies _ rfl _ _ _ rfl W1.heap.size 31 i0 _ 1 4 Try.underlying24 hi0 hz0 hz1 hz2 rfl (by omega) (.slice (some ⟨gU, 0, none⟩) k cU) k (fl (rowTo C q k)) (by rfl) (O9.out.alloc _) ⟨w9.heap.size, 0, none⟩ 1 1 [.float .f32 v] (by rfl) (by rfl) (World.news_of_block (cs := #[.float .f32 v]) (t := 31) (fr := (0, 0)) (heap_alloc_new w9 _)) (by simp [Value.oneCell']) (by omega) (by unfold maxLen; omega) (by omega) (by simp; omega) (w9.heap.size + 1) (by simp) ?_; intro g8 cap8 w8 hown8 hgrow8 hat8 hlt8; have F8 := Lib.hid (F9.out.add HLEN.out hgrow8 hown8 hat8); have B8 := Lib.hid (F9.out.add_below B9.out (Nat.le_refl _) hgrow8); clear hown8 hgrow8 hat8))
            go_roundw
            case rel => exact ⟨k + 1, g8, cap8, by omega, by go_num, rfl, by rw [HROW.out]; exact F8.out, B8.out⟩
            case measure => simp [intOf]; omega
          · have hs2 : ¬ sq = sk := fun h => hqk (hiff.1 h)
            rw [decide_eq_false hqk] at hrun
            have e1' := fun w => run_float_arith (P := Try.prog) w .sub 31 .f32 _ _ _ hrun
            rw [show unitF false = 0 from rfl] at e1'
            have hs3 : ((sq : Int) == (sk : Int)) = false := by rw [Bool.eq_false_iff, ne_eq, beq_iff_eq]; omega
            clear hiff hqk hrun hs2
            go_wp2_with (first
              | (go_at_call 35; refine (HSTP.out _ HRDA.out).mono ?_; rintro e w9 ⟨rfl, hb9⟩; have F9 := Lib.hid (F.out.keep hb9); have B9 := Lib.hid (below_next B.out hb9); have O9 := Lib.hid (own_below HO.out hb9); have z9 := hb9.size; clear hb9)
              | (refine wpList_append_lies _ rfl _ _ _ rfl W1.heap.size 31 i0 _ 1 4 Try.underlying24 hi0 hz0 hz1 hz2 rfl (by omega) (.slice (some ⟨gU, 0, none⟩) k cU) k (fl (rowTo C q k)) (by rfl) (O9.out.alloc _) ⟨w9.heap.size, 0, none⟩ 1 1 [.float .f32 v] (by rfl) (by rfl) (World.news_of_block (cs := #[.float .f32 v]) (t := 31) (fr := (0, 0)) (heap_alloc_new w9 _)) (by simp [Value.oneCell']) (by omega) (by unfold maxLen; omega) (by omega) (by simp; omega) (w9.heap.size + 1) (by simp) ?_; intro g8 cap8 w8 hown8 hgrow8 hat8 hlt8; have F8 := Lib.hid (F9.out.add HLEN.out hgrow8 hown8 hat8); have B8 := Lib.hid (F9.out.add_below B9.out (Nat.le_refl _) hgrow8); clear hown8 hgrow8 hat8))
            go_roundw
            case rel => exact ⟨k + 1, g8, cap8, by omega, by go_num, rfl, by rw [HROW.out]; exact F8.out, B8.out⟩
            case measure => simp [intOf]; omega
        · obtain rfl : m = k := by omega
          have HGQ := Lib.hid fun W hW => HG.out W hW sq HQN.out
          have HROW := Lib.hid (HROWS.out m q)
          rw [HRT.out] at HROW
          have HO := Lib.hid F.out.o
          have hlen : (fl (rowTo C q m)).length = m := by rw [fl_len, rowTo_len]
          rw [hlen] at HO
          have HLEN := Lib.hid hlen
          have HBW := Lib.hid (below_next HB1.out B.out)
          clear hlen
          generalize right sq = v at *
          go_wp2_with (first
            | (go_at_call 68; refine (HGQ.out _ HBW.out).mono ?_; rintro e w9 ⟨rfl, hb9⟩; have F9 := Lib.hid (F.out.keep hb9); have B9 := Lib.hid (below_next B.out hb9); have O9 := Lib.hid (own_below HO.out hb9); have z9 := hb9.size; clear hb9)
            | (refine wpList_append_lies _ rfl _ _ _ rfl W1.heap.size 31 i0 _ 1 4 Try.underlying24 hi0 hz0 hz1 hz2 rfl (by omega) (.slice (some ⟨gU, 0, none⟩) m cU) m (fl (rowTo C q m)) (by rfl) (O9.out.alloc _) ⟨w9.heap.size, 0, none⟩ 1 1 [.float .f32 v] (by rfl) (by rfl) (World.news_of_block (cs := #[.float .f32 v]) (t := 31) (fr := (0, 0)) (heap_alloc_new w9 _)) (by simp [Value.oneCell']) (by omega) (by unfold maxLen; omega) (by omega) (by simp; omega) (w9.heap.size + 1) (by simp) ?_; intro g8 cap8 w8 hown8 hgrow8 hat8 hlt8; have F8 := F9.out.add HLEN.out hgrow8 hown8 hat8; have B8 := Lib.hid (F9.out.add_below B9.out (Nat.le_refl _) hgrow8); rw [← HROW.out] at F8; have F8 := Lib.hid F8; have M8 := Lib.hid F8.out.m; rw [HRL.out] at M8; have z8 := B8.out.size; clear hown8 hgrow8 hat8)
            | (refine wpList_append_lies _ rfl _ _ _ rfl W1.heap.size 24 j0 _ 1 24 Try.underlying91 hj0 hy0 hy1 hy2 rfl (by omega) (.slice (some ⟨R, 0, none⟩) q cR) q (rs.map (·.2)) (by rfl) (M8.out.alloc _) ⟨w8.heap.size, 0, none⟩ 1 1 [.slice (some ⟨g8, 0, none⟩) (m + 1) cap8] (by rfl) (by rfl) (World.news_of_block (cs := #[.slice (some ⟨g8, 0, none⟩) (m + 1) cap8]) (t := 24) (fr := (0, 0)) (heap_alloc_new w8 _)) (by simp [Value.oneCell']) (by omega) (by unfold maxLen; omega) (by omega) (by simp; omega) (w8.heap.size + 1) (by simp) ?_; intro g7 cap7 w7 hown7 hgrow7 hat7 hlt7; have F7 := Lib.hid (F8.out.push HRL.out hgrow7 hown7 hat7); have B7 := Lib.hid (F8.out.push_below B8.out (Nat.le_refl _) hgrow7); clear hown7 hgrow7 hat7))
          refine ⟨⟨q + 1, g7, cap7, rs ++ [(rowTo C q (m + 1), .slice (some ⟨g8, 0, none⟩) (m + 1) cap8)], by omega, by go_num, rfl, by rw [List.length_append, HRL.out]; rfl, ?_, F7.out, B7.out⟩, by simp [intOf]; omega⟩
          rw [List.map_append, HRC.out, List.range_succ, List.map_append]
          rfl
    · obtain rfl : m = q := by omega
      obtain ⟨bl, cp, hM⟩ := F.out.toM HRL.out HRC.out
      have hcap := own_cap (by have := F.out.m; rw [HRL.out] at this; exact this)
      have HSV := Lib.hid (HSOL.out R cR W1.heap.size bl cp C wr hcap hM (fun r c _ _ => sameN.refl _) HWS.out)
      have HBW := Lib.hid (below_next HB1.out B.out)
      clear hM hcap HSTEP HSOL HRUN HRIGHT HINJ HA HG HROWS HBX F HRL HRC hi0 hz0 hz1 hz2 hj0 hy0 hy1 hy2
      go_wp2_with fail
      refine HSV.out.mono ?_
      rintro e w5 ⟨A5, c5, ys, rfl, hys, hblk, hrd, hb5⟩
      have B5 := Lib.hid (HBW.out.trans (hb5.mono HB1.out.size))
      have RD := Lib.hid hrd
      have BLK := Lib.hid hblk
      clear hb5 hrd hblk HSV
      cases hsol : solM C m with
      | none =>
        have HN := Lib.hid hsol
        rw [show (none : Option (List Nat)).isSome = false from rfl]
        clear hsol hys
        go_wp2_with fail
        refine bodyPost_ret (v := .tuple #[.slice none 0 0, .bool false]) (by simp [results, Try.results65, go_sem]) rfl ?_
        exact .inl ⟨HN.out, rfl, B5.out⟩
      | some zs =>
        obtain rfl := hys _ hsol
        have HSO := Lib.hid hsol
        have HYL : Hid (ys.length = m) := Lib.hid (sol_len hsol)
        rw [HYL.out, show (some ys).isSome = true from rfl]
        have HG0 : Hid (w5.rowIs G 31 n (fun i => .float .f32 (putM ls (fun k => ys.getD k 0) x0 0 i))) := Lib.hid (HGR.out.of_block (B5.out.block _ HGR.out.lt))
        have HGL : Hid (G < w.heap.size) := Lib.hid HGR.out.lt
        have HSC5 : Hid (∀ k W, k < m → w5.grownBy W (some G) → W.cell? ⟨sg, k, none⟩ = some (.int .i64 ((ls.getD k 0 : Nat) : Int))) := Lib.hid fun k W hk hW => by
          have h1 := HSC.out w5 k B5.out hk
          rw [hW.cell_far _ (lt_of_cell h1) (fun e => HSG.out (by omega) (by injection e))]
          exact h1
        have HYC : Hid (0 < m → ∃ b off, A5 = some ⟨b, off, none⟩ ∧ ∀ k W, k < m → w5.grownBy W (some G) → W.cell? ⟨b, off + k, none⟩ = some (.float .f32 (ys.getD k 0))) := Lib.hid fun h0 => by
          obtain ⟨b, off, e, hb, hc⟩ := RD.out (by rw [fl_len, HYL.out]; exact h0)
          refine ⟨b, off, e, fun k W hk hW => ?_⟩
          have h1 := hc k (by rw [fl_len, HYL.out]; exact hk)
          have h2 := BLK.out _ e
          have h3 := HGL.out
          have h4 := HB1.out.size
          have h2 : W1.heap.size ≤ b := h2
          rw [hW.cell_far _ (lt_of_cell h1) (fun e => by have e : b = G := by injection e
                                                         omega), h1]
          rw [List.getD_eq_getElem?_getD, List.getElem?_eq_getElem (by rw [HYL.out]; exact hk)]
          simp [fl]
        have HPS : Hid (∀ (k : Nat) (W : World), W.rowIs G 31 n (fun i => .float .f32 (putM ls (fun k => ys.getD k 0) x0 k i)) → (W.setCell ⟨G, ls.getD k 0, none⟩ (.float .f32 (ys.getD k 0))).rowIs G 31 n (fun i => .float .f32 (putM ls (fun k => ys.getD k 0) x0 (k + 1) i))) := Lib.hid fun k W hW => (hW.set _ _).congr fun i _ => by
          show (if i = ls.getD k 0 then Value.float .f32 (ys.getD k 0) else Value.float .f32 (putM ls (fun k => ys.getD k 0) x0 k i)) = Value.float .f32 (if i = ls.getD k 0 then ys.getD k 0 else putM ls (fun k => ys.getD k 0) x0 k i)
          split <;> rfl
        clear hsol hys HSC HGR BLK RD HYL
        generalize hpm : putM ls (fun k => ys.getD k 0) x0 = pm at *
        have HPM := Lib.hid hpm
        clear hpm
        go_wp2_with fail
        go_loopw [67] (fun iv wq => ∃ k : Nat, k ≤ m ∧ iv = .int .i64 k ∧ w5.grownBy wq (some G) ∧ wq.rowIs G 31 n (fun i => .float .f32 (pm k i))) (fun iv _ => m - (intOf iv).toNat)
        case atStart => exact ⟨0, Nat.zero_le _, rfl, grown_refl _ _, HG0.out⟩
        case round =>
          clear HG0
          obtain ⟨k, hk, rfl, hgr, hrow⟩ := hrel
          rename World => wq
          have GR := Lib.hid hgr
          have RW := Lib.hid hrow
          clear hgr hrow
          by_cases hkm : k < m
          · have y0 := HSC5.out k wq hkm GR.out
            obtain ⟨b5, o5, rfl, hy⟩ := HYC.out (by omega)
            have y1 := hy k wq hkm GR.out
            have hln := HLT.out k hkm
            have y2 := RW.out.cell hln
            have f2 := RW.out.frozen (ls.getD k 0)
            have HPK := Lib.hid (HPS.out k _ RW.out)
            have HGS := Lib.hid (grown_set GR.out (ls.getD k 0) (.float .f32 (ys.getD k 0)))
            have hln2 : ((ls.getD k 0 : Nat) : Int) < (n : Int) := by omega
            clear hy HYC HSC5 HPS
            generalize ls.getD k 0 = lk at *
            generalize ys.getD k 0 = yk at *
            generalize pm k lk = ok at *
            go_wp2_with fail
            exact ⟨⟨k + 1, by omega, by go_num, HGS.out, HPK.out⟩, by simp [intOf]; omega⟩
          · obtain rfl : m = k := by omega
            go_wp2_with fail
            refine bodyPost_ret (v := .tuple #[.slice (some ⟨G, 0, none⟩) n n, .bool true]) (by simp [results, Try.results65, go_sem]) rfl ?_
            refine .inr ⟨ys, HSO.out, rfl, ?_, below_grown_to B5.out GR.out⟩
            rw [HM.out, HPM.out]
            exact RW.out

end Go.Proofs.Ytlhepgdheopgaaa

