/-
  laws.FnTables answers yes, for every two inputs, and leaves its arguments as they were (printed by lawparts15.py). No condition.
-/
import Derived.Test.YtbpigeipjeegiaaLt1
import Derived.Test.YtbpigeipjeegiaaOpen
import Derived.Test.YtbpigeipjeegiaaOut
import Derived.Deep.RegionHeld3
import Derived.Deep.DeepCutAuto
namespace Go.Proofs.Ytbpigeipjeegiaa.lawTables
open Go.ChangeShapes Go.WideShapes Go.ChangeAt Go.RowKit

set_option maxRecDepth 100000 in
set_option maxHeartbeats 3200000 in
theorem walk (A B : Option Addr) (n m ca cb : Nat) (W : World) (hA : BR W A n) (hB : BR W B m) :
    Calls Try.prog 3 #[.slice A n ca, .slice B m cb] W fun e w' => e = .returned (.bool true) ∧ Below W.heap.size W w' := by
  have HL := Lib.hid (r8Long_any A B n m ca cb W)
  have HA := Lib.hid hA
  have HB := Lib.hid hB
  clear hA hB
  by_cases hlg : 48 < n ∨ 48 < m
  · have hb : (decide (48 < n) || decide (48 < m)) = true := by simpa using hlg
    rw [hb] at HL
    clear hlg hb
    go_enter Try.func3, Try.ntmps3
    go_wp2_with (go_at_call 4; (with_reducible refine HL.out.mono ?_); rintro e w1 ⟨rfl, rfl⟩)
    go_ret
    exact ⟨rfl, Below.refl _ _⟩
  · have hb : (decide (48 < n) || decide (48 < m)) = false := by simp; omega
    rw [hb] at HL
    have HT1 : Hid (∀ W', Below W.heap.size W W' → Calls Try.prog 5 #[.slice A n ca, .int .i64 2, .int .i64 2, .int .i64 4] W' (fun e w' => ∃ (x0 : Nat) (xs : List Nat) (g3 c3 : Nat), xs.length + 1 = 4 ∧ x0 ≤ 4 ∧ (∀ x, x ∈ xs → x ≤ 4) ∧ e = .returned (.agg #[.int .i64 2, .int .i64 2, .slice (some ⟨g3, 0, none⟩) 4 c3]) ∧ w'.ownsRow W'.heap.size 2 1 (.slice (some ⟨g3, 0, none⟩) 4 c3) 4 (nlv ((x0 + 1) :: xs)) ∧ Below W'.heap.size W' w')) := Lib.hid fun W' hW => R8Table_any 2 2 4 4 n ca A W' (by omega) (by decide) (by omega) (by omega) (HA.out.keep hW)
    have HM48 : Hid (m ≤ 48) := Lib.hid (by omega)
    clear hlg hb
    go_enter Try.func3, Try.ntmps3
    generalize hcc : Code.seq (Code.seq (Code.region 20 _ _) _) _ = cc
    have HCC := Lib.hid hcc
    clear hcc
    go_upto_region 3 with (go_at_call 4; (with_reducible refine HL.out.mono ?_); rintro e w1 ⟨rfl, rfl⟩)
    clear HL
    go_upto_region 4 with (go_at_call 5; (with_reducible refine (HT1.out _ (Below.refl _ _)).mono ?_); rintro e w1 ⟨x0, xs, g3, c3, hl, hx0, hxs, rfl, hown, hb1⟩; have O1 := Lib.hid hown; have B1 := Lib.hid hb1; have X1 := Lib.hid (four (x0 := 0) hl hxs); clear hown hb1 hl hxs)
    obtain ⟨b, c, d, rfl, hb, hc, hd⟩ := X1.out
    have F2 : Hid (∀ w2, w2 = w1.alloc (.cells #[.int .i64 2, .int .i64 2, .slice (some ⟨g3, 0, none⟩) 4 c3] 26) → Below W.heap.size W w2 ∧ Two (x0 + 1) b c d g3 c3 w2 ∧ (w2.cell? ⟨w1.heap.size, 0, none⟩ = some (.int .i64 2) ∧ w2.cell? ⟨w1.heap.size, 1, none⟩ = some (.int .i64 2) ∧ w2.cell? ⟨w1.heap.size, 2, none⟩ = some (.slice (some ⟨g3, 0, none⟩) 4 c3)) ∧ w2.ownsRow W.heap.size 2 1 (.slice (some ⟨g3, 0, none⟩) 4 c3) 4 (nlv [x0 + 1, b, c, d])) := Lib.hid fun w2 h => by
      subst h
      refine ⟨below_al B1.out _, two_of (by omega) (own_cap O1.out) ((Rd.of_own O1.out).at_ (below_al (Below.refl _ _) _)), ⟨at_new _ _ _ _ _ _ rfl rfl, at_new _ _ _ _ _ _ rfl rfl, at_new _ _ _ _ _ _ rfl rfl⟩, O1.out.alloc _⟩
    have hF := F2.out _ rfl
    obtain ⟨t0, t1, t2⟩ := hF.2.2.1
    have B2 := Lib.hid hF.1
    have T2 := Lib.hid hF.2.1
    have O2 := Lib.hid hF.2.2.2
    clear F2 hF O1 B1 X1 HT1
    generalize World.alloc w1 _ = w2 at *
    generalize w1.heap.size = bt at *
    have ha : 1 ≤ x0 + 1 ∧ x0 + 1 ≤ 5 := by omega
    clear hx0
    generalize x0 + 1 = a at *
    have HSM : Hid (1 ≤ a + b + c + d ∧ a + b + c + d ≤ 17) := Lib.hid (by omega)
    have K2 := Lib.hid (Below.refl w2.heap.size w2)
    go_upto_region 5 with (go_at_call 6; (with_reducible refine (T2.out.rs _ K2.out).mono ?_); rintro e w3 ⟨gR, cR, rfl, ho, hb3⟩; have s0 := keepC hb3 t0; have s1 := keepC hb3 t1; have s2 := keepC hb3 t2; have K3 := Lib.hid (below_next K2.out hb3); have OR := Lib.hid ho; clear ho; have L3 := Lib.hid hb3; clear hb3; clear t0 t1 t2)
    have t0 := s0
    have t1 := s1
    have t2 := s2
    clear s0 s1 s2
    go_upto_region 6 with (go_at_call 7; (with_reducible refine (T2.out.cs _ K3.out).mono ?_); rintro e w4 ⟨gC, cC, rfl, ho, hb4⟩; have s0 := keepC hb4 t0; have s1 := keepC hb4 t1; have s2 := keepC hb4 t2; have K4 := Lib.hid (below_next K3.out hb4); have OC := Lib.hid ho; clear ho; have L4 := Lib.hid hb4; clear hb4; clear t0 t1 t2)
    have t0 := s0
    have t1 := s1
    have t2 := s2
    clear s0 s1 s2
    go_upto_region 7 with (go_at_call 8; (with_reducible refine (T2.out.ls _ K4.out).mono ?_); rintro e w5 ⟨rfl, hb5⟩; have s0 := keepC hb5 t0; have s1 := keepC hb5 t1; have s2 := keepC hb5 t2; have K5 := Lib.hid (below_next K4.out hb5);  have L5 := Lib.hid hb5; clear hb5; clear t0 t1 t2)
    have t0 := s0
    have t1 := s1
    have t2 := s2
    clear s0 s1 s2
    go_upto_region 8 with (go_at_call 9; (with_reducible refine (T2.out.bt _ K5.out).mono ?_); rintro e w6 ⟨rfl, hb6⟩; have s0 := keepC hb6 t0; have s1 := keepC hb6 t1; have s2 := keepC hb6 t2; have K6 := Lib.hid (below_next K5.out hb6);  have L6 := Lib.hid hb6; clear hb6; clear t0 t1 t2)
    have t0 := s0
    have t1 := s1
    have t2 := s2
    clear s0 s1 s2
    go_upto_region 9 with (go_at_call 10; (with_reducible refine (T2.out.ex _ K6.out).mono ?_); rintro e w7 ⟨rfl, hb7⟩; have s0 := keepC hb7 t0; have s1 := keepC hb7 t1; have s2 := keepC hb7 t2; have K7 := Lib.hid (below_next K6.out hb7);  have L7 := Lib.hid hb7; clear hb7; clear t0 t1 t2)
    have t0 := s0
    have t1 := s1
    have t2 := s2
    clear s0 s1 s2
    have HP : Hid (ownN a b c d ≤ lessN a b c d ∧ lessN a b c d ≤ pas (a + b + c + d) (a + b) ∧ ownN a b c d ≤ bothN a b c d ∧ 1 ≤ ownN a b c d ∧ lessN a b c d + lessN c d a b = pas (a + b + c + d) (a + b) + ownN a b c d ∧ pas (a + b + c + d) (a + b) ≤ 1152921504606846976) := Lib.hid ⟨less_own a b c d, less_le a b c d, both_own a b c d, own_pos a b c d, less_turn a b c d, pas_small (by have := HSM.out; omega) _⟩
    have HSU : Hid (∃ lp op : Nat → Nat, lp 0 = 0 ∧ op 0 = 0 ∧ (∀ i, lp (i + 1) = lp i + (if i ≤ a - lowT a b d then pas (a + c) (lowT a b d + i) * pas (b + d) (a + b - (lowT a b d + i)) else 0)) ∧ (∀ i, op (i + 1) = if i = a - lowT a b d then pas (a + c) (lowT a b d + i) * pas (b + d) (a + b - (lowT a b d + i)) else op i) ∧ lp (manyT a b c d) = lessN a b c d ∧ op (manyT a b c d) = ownN a b c d ∧ ∀ i, i ≤ manyT a b c d → lp i ≤ lessN a b c d) := Lib.hid (sums_two_all a b c d)
    have BW7 : Hid (Below W.heap.size W w7) := Lib.hid (below_next B2.out K7.out)
    have KR : Hid (∀ W', Below w7.heap.size w7 W' → (W'.cell? ⟨gR, 0, none⟩ = some (.int .i64 ((a + b : Nat) : Int)) ∧ W'.cell? ⟨gR, 1, none⟩ = some (.int .i64 ((c + d : Nat) : Int)) ∧ W'.cell? ⟨gC, 0, none⟩ = some (.int .i64 ((a + c : Nat) : Int)) ∧ W'.cell? ⟨gC, 1, none⟩ = some (.int .i64 ((b + d : Nat) : Int))) ∧
        (W'.cell? ⟨bt, 0, none⟩ = some (.int .i64 2) ∧ W'.cell? ⟨bt, 1, none⟩ = some (.int .i64 2) ∧ W'.cell? ⟨bt, 2, none⟩ = some (.slice (some ⟨g3, 0, none⟩) 4 c3)) ∧
        (W'.cell? ⟨g3, 0, none⟩ = some (.int .i64 (a : Nat)) ∧ W'.cell? ⟨g3, 1, none⟩ = some (.int .i64 (b : Nat)) ∧ W'.cell? ⟨g3, 2, none⟩ = some (.int .i64 (c : Nat)) ∧ W'.cell? ⟨g3, 3, none⟩ = some (.int .i64 (d : Nat))) ∧
        Rd W' W'.heap.size (some ⟨gR, 0, none⟩) (nlv [a + b, c + d]) ∧ Rd W' W'.heap.size (some ⟨gC, 0, none⟩) (nlv [a + c, b + d])) := Lib.hid fun W' hW => by
      have r7 := below_next (below_next (below_next (below_next L4.out L5.out) L6.out) L7.out) hW
      have c7 := below_next (below_next (below_next L5.out L6.out) L7.out) hW
      have k7 := below_next K7.out hW
      exact ⟨⟨keepC r7 (own_cellAt OR.out rfl), keepC r7 (own_cellAt OR.out rfl), keepC c7 (own_cellAt OC.out rfl), keepC c7 (own_cellAt OC.out rfl)⟩, ⟨keepC hW t0, keepC hW t1, keepC hW t2⟩, ⟨keepC k7 (own_cellAt O2.out rfl), keepC k7 (own_cellAt O2.out rfl), keepC k7 (own_cellAt O2.out rfl), keepC k7 (own_cellAt O2.out rfl)⟩, (Rd.of_own OR.out).at_ r7, (Rd.of_own OC.out).at_ c7⟩
    clear T2 B2 K2 K3 K4 K5 K6 K7 L3 L4 L5 L6 L7 OR OC O2 t0 t1 t2
    obtain ⟨⟨y0, y1, y2, y3⟩, -, -, hRA, hRB⟩ := KR.out w7 (Below.refl _ _)
    have RA := Lib.hid hRA
    have RB := Lib.hid hRB
    clear hRA hRB
    have hwn : IntKind.i64.wrap (((a + b : Nat) : Int) + ((c + d : Nat) : Int)) = ((a + b + c + d : Nat) : Int) := by
      rw [show ((a + b : Nat) : Int) + ((c + d : Nat) : Int) = ((a + b + c + d : Nat) : Int) by omega]
      exact IntWalk.i64_in _ (by omega)
    have HCH : Hid (∀ W', Calls Try.prog 11 #[.int .i64 ((a + b + c + d : Nat) : Int), .int .i64 ((a + b : Nat) : Int)] W' (fun e w' => e = .returned (.tuple #[.int .i64 (pas (a + b + c + d) (a + b) : Nat), .bool true]) ∧ Below W'.heap.size W' w')) := Lib.hid fun W' => Choices_ok _ _ (by omega) (by omega) W'
    have HTW : Hid (∀ W', Rd W' W'.heap.size (some ⟨gR, 0, none⟩) (nlv [a + b, c + d]) → Rd W' W'.heap.size (some ⟨gC, 0, none⟩) (nlv [a + c, b + d]) → Calls Try.prog 12 #[.slice (some ⟨gR, 0, none⟩) 2 cR, .slice (some ⟨gC, 0, none⟩) 2 cC] W' (fun e w' => e = .returned (.tuple #[.int .i64 ((manyT a b c d : Nat) : Int), .bool true]) ∧ Below W'.heap.size W' w')) := Lib.hid fun W' h1 h2 => by
      have := TablesWith_any (a + b) (c + d) (a + c) (b + d) (some ⟨gR, 0, none⟩) (some ⟨gC, 0, none⟩) cR cC W' (by omega) (by omega) h1 h2
      rw [show fS (a + c) (b + d) (a + b) (c + d) 2 0 0 = manyT a b c d from next_two a b c d, IntWalk.i64_in _ (by unfold manyT lowT; omega)] at this
      exact this
    have HLM : Hid (lowT a b d = a + b - (b + d) ∧ lowT a b d ≤ a + b ∧ lowT a b d + manyT a b c d = min (a + b) (a + c) + 1 ∧ lowT a b d ≤ a ∧ a + b - lowT a b d ≤ b + d ∧ manyT a b c d ≤ 10) := Lib.hid (by unfold manyT lowT; omega)
    generalize hN : a + b + c + d = N at *
    generalize hr0 : a + b = r0 at *
    generalize hr1 : c + d = r1 at *
    generalize hc0 : a + c = c0 at *
    generalize hc1 : b + d = c1 at *
    have HE := Lib.hid (And.intro hN (And.intro hr0 (And.intro hr1 (And.intro hc0 hc1))))
    have HBD := Lib.hid (And.intro ha (And.intro hb (And.intro hc hd)))
    have hbd : r0 ≤ 9 ∧ r1 ≤ 8 ∧ c0 ≤ 9 ∧ c1 ≤ 8 ∧ N ≤ 17 := by omega
    clear hN hr0 hr1 hc0 hc1 ha hb hc hd
    generalize lowT a b d = lo at *
    generalize manyT a b c d = mt at *
    obtain ⟨hi, hhi⟩ : ∃ hi, hi = min r0 c0 := ⟨_, rfl⟩
    have hmax : max (0 : Int) ((r0 : Int) - (c1 : Int)) = (lo : Int) := by
      have := HLM.out
      omega
    have hmin : min (r0 : Int) (c0 : Int) = (hi : Int) := by omega
    have HHI := Lib.hid hhi
    clear hhi
    go_upto_region 11 with fail
    go_quiet (fail)
    have K8 : Hid (Below w7.heap.size w7 (w7.drewN nq)) := Lib.hid (below_drewN (Below.refl _ _) nq)
    clear y0 y1 y2 y3 hwn RA RB
    generalize w7.drewN nq = w8 at *
    obtain ⟨⟨y0, y1, y2, y3⟩, -, -, -, -⟩ := KR.out w8 K8.out
    go_upto_region 13 with (go_at_call 11; (with_reducible refine (HCH.out _).mono ?_); rintro e w9 ⟨rfl, hb9⟩; have K9 := Lib.hid (below_next K8.out hb9); clear hb9)
    have hR9 := KR.out w9 K9.out
    have RA := Lib.hid hR9.2.2.2.1
    have RB := Lib.hid hR9.2.2.2.2
    clear y0 y1 y2 y3 hR9
    go_upto_region 14 with (go_at_call 12; (with_reducible refine (HTW.out _ RA.out RB.out).mono ?_); rintro e w10 ⟨rfl, hb10⟩; have K10 := Lib.hid (below_next K9.out hb10); clear hb10)
    clear RA RB HCH HTW
    obtain ⟨⟨y0, y1, y2, y3⟩, -, -, -, -⟩ := KR.out w10 K10.out
    have hws : IntKind.i64.wrap ((r0 : Int) - (c1 : Int)) = (r0 : Int) - (c1 : Int) := IntWalk.i64_in _ (by omega)
    go_region
    have K11 : Hid (Below w7.heap.size w7 w10.drew) := Lib.hid (below_drewN K10.out 1)
    clear y0 y1 y2 y3 hws
    generalize w10.drew = w11 at *
    obtain ⟨⟨y0, y1, y2, y3⟩, -, -, -, -⟩ := KR.out w11 K11.out
    go_upto_region 15 with fail
    go_region
    have K12 : Hid (Below w7.heap.size w7 w11.drew) := Lib.hid (below_drewN K11.out 1)
    clear y0 y1 y2 y3 hmax hmin
    generalize w11.drew = w12 at *
    obtain ⟨⟨y0, y1, y2, y3⟩, -, -, -, -⟩ := KR.out w12 K12.out
    have HLF : Hid (∀ i, (if i ≤ a - lo then 0 else 0) = 0) := Lib.hid fun i => by split <;> rfl
    clear HLF
    generalize hLL : lessN a b c d = L at *
    generalize bothN a b c d = Bo at *
    generalize hTT : pas N r0 = T at *
    have HLL := Lib.hid hLL
    clear hLL hTT
    have hL1 : ¬ (L : Int) < 1 := by have := HP.out; omega
    have hLT : ¬ (T : Int) < (L : Int) := by have := HP.out; omega
    have hB1 : ¬ (Bo : Int) < 1 := by have := HP.out; omega
    obtain ⟨dl, hdl⟩ : ∃ dl, hi = lo + dl ∧ mt = dl + 1 := ⟨hi - lo, by have h1 := HLM.out; have h2 := HHI.out; have h3 := HE.out; omega⟩
    have hw1 : IntKind.i64.wrap ((hi : Int) - (lo : Int)) = (dl : Int) := by
      rw [show (hi : Int) - (lo : Int) = (dl : Int) by omega]
      have := HLM.out
      exact IntWalk.i64_in _ (by omega)
    have hw2 : IntKind.i64.wrap ((dl : Int) + 1) = (mt : Int) := by
      rw [show (dl : Int) + 1 = (mt : Int) by omega]
      have := HLM.out
      exact IntWalk.i64_in _ (by omega)
    have hw3 : IntKind.i64.wrap ((c0 : Int) + (c1 : Int)) = (N : Int) := by
      rw [show (c0 : Int) + (c1 : Int) = (N : Int) by have := HE.out; omega]
      exact IntWalk.i64_in _ (by omega)
    have HDL := Lib.hid hdl
    clear hdl
    go_upto_region 16 with fail
    go_quiet (fail)
    go_upto_region 18 with fail
    have K13 : Hid (Below w7.heap.size w7 (w12.drewN nq)) := Lib.hid (below_drewN K12.out nq)
    clear y0 y1 y2 y3 hw1 hw2 hw3 hL1 hLT hB1
    generalize w12.drewN nq = w13 at *
    generalize ownN a b c d = ow at *
    have HLO : Hid (LoopH W w7 m B cb bt g3 c3 gR gC a b c d r0 c0 c1 L T Bo ow lo hi mt) := Lib.hid (by
      have h1 := HLM.out
      have h2 := HE.out
      have h3 := HP.out
      exact ⟨BW7.out, HB.out, HM48.out, HBD.out, ⟨h2.2.1.symm, h2.2.2.2.1.symm, h2.2.2.2.2.symm⟩, ⟨h1.2.1, h1.2.2.1, h1.2.2.2.1, h1.2.2.2.2.1, h1.2.2.2.2.2⟩, HHI.out, ⟨h3.1, h3.2.1, h3.2.2.1, h3.2.2.2.2.2, h3.2.2.2.2.1⟩, HSU.out, fun W' hW => by
        obtain ⟨⟨k0, -, k2, k3⟩, ⟨-, -, k4⟩, k5, -, -⟩ := KR.out W' hW
        exact ⟨⟨k0, k2, k3⟩, k4, k5⟩⟩)
    clear HP HSU HLM HE HHI HDL HBD HSM HLL HM48 KR K12
    go_wp2_with fail
    rw [← HCC.out]
    exact tables_loop B W w7 w13 m cb bt g3 c3 gR cR gC cC a b c d r0 c0 c1 L T Bo ow lo hi mt HLO.out K13.out
set_option maxRecDepth 100000 in
set_option maxHeartbeats 3200000 in
theorem lifted (os : Os) (started : os.Started) (H : Type) (enc : TypeId × Value → H) :
    ReturnsInHanded {} Try.checked os 3 .any (Rows.fnTablesSpec.pre6 enc Try.prog Try.f3 Rows.fnTablesRow.domain false) (Rows.fnTablesSpec.post enc Try.prog Try.f3 false true false false) := by
  refine returnsInHanded_of_change (C := Try.checked) own started (by kernel_rfl) Try.func3
    (ChangeSpec.witness6 (enc := enc) (C := Try.checked) false ⟨#[], #[.slice none 0 0, .slice none 0 0], []⟩ 8 (by kernel_rfl) (by kernel_rfl) (by kernel_rfl) (by kernel_rfl)) ?_
  intro W base args ds gs before hval0 hW hcnd _
  have hval : ∀ (j : Nat) t v, Try.f3.params[j]? = some t → args[j]? = some v → Value.okWide Try.prog W .any base t v := hval0
  have hW' := hW
  have hlt : ∀ p ∈ before, p.block < W.heap.size := fun p hp => hW.lt p hp
  obtain ⟨p, q, hA0, hV, rfl, hfz, hnd⟩ := hW
  have hA : DataW.TrodAll enc Try.prog W 0 (fun _ => true) true Try.f3.params.toList args.toList ds p := hA0
  rw [Try.params3] at hA hval
  have hA1 := hA
  obtain ⟨v0, vs0, d0, ds0, p0, q0, hargs, rfl, rfl, h0, r0⟩ := trodAll_cons hA
  obtain ⟨v1, vs1, d1, ds1, p1, q1, rfl, rfl, rfl, h1, r1⟩ := trodAll_cons r0
  obtain ⟨rfl, rfl, rfl⟩ := trodAll_nil r1
  obtain rfl : args = #[v0, v1] := by cases args; simp_all
  obtain ⟨rfl, rfl⟩ := trodVars_none hV
  obtain ⟨A0, n0, c0, rfl, -, hr0⟩ := open_bytes h0 (okWide_slice Try.underlying22 (hval 0 _ _ rfl rfl))
  obtain ⟨A1, n1, c1, rfl, -, hr1⟩ := open_bytes h1 (okWide_slice Try.underlying22 (hval 1 _ _ rfl rfl))
  clear hA0 hval0
  refine (walk A0 A1 n0 n1 c0 c1 W hr0 hr1).mono fun e W' ⟨he, hb⟩ => ?_
  subst he
  rw [List.append_nil] at hW' hlt
  exact ⟨_, rfl, post_of_below (pa := _) (pv := []) hW' (fun _ _ _ => (trodAll_cons_mk (shut_bool Try.underlying4 _) trodAll_mk0))
    (fun sp hsp => trodAll_below cl_laid hb _ _ _ _ (by kernel_rfl) hA1 hlt hsp) (fun _ _ => rfl) (List.append_nil _).symm hb (ok_one (by kernel_rfl) rfl (okWide_bool_mk Try.underlying4 _))⟩

theorem g0 : Try.prog.funcNamed Rows.fnTablesRow.func = some 3 := by kernel_rfl
theorem g1 : Rows.fnTablesRow.inPlace = Try.prog.inPlace 3 := by kernel_rfl
theorem g2 : Rows.fnTablesRow.unfollowed = Try.prog.unfollowed 3 := by kernel_rfl
theorem g3 : Rows.fnTablesRow.recurses = Try.prog.recurses 3 := by kernel_rfl
theorem g4 : Rows.fnTablesRow.named = Try.prog.varsNamed 3 := by kernel_rfl
theorem g5 : Rows.fnTablesRow.wf (OpenSpec.ofChange Rows.fnTablesSpec) = true := by kernel_rfl
theorem g6 : (Try.f3.params.all (Try.prog.readableRec ·)) = true := by kernel_rfl
theorem g7 : Rows.fnTablesRow.veiledFits Try.prog Try.f3.params.toList (Try.f3.params.toList ++ Try.f3.resultTypes.toList) = true := by kernel_rfl
theorem g8 : joinedFacts Try.prog 3 Try.f3 Rows.fnTablesSpec Rows.fnTablesRow = true :=
  gen_facts _ _ _ _ rfl rfl cl_laid cl_maps cl_stops cl_knobs cl_heard cl_enter cl_lifts cl_make g5 g6 rfl rfl rfl g1 g2 g3 g4
    (by as_aux_lemma => kernel_rfl) (by as_aux_lemma => kernel_rfl) (by as_aux_lemma => kernel_rfl) (by as_aux_lemma => kernel_rfl) (by as_aux_lemma => kernel_rfl) (by as_aux_lemma => kernel_rfl) (by as_aux_lemma => kernel_rfl) (by as_aux_lemma => kernel_rfl)
    cl_keys.symm rfl rfl rfl rfl rfl (by as_aux_lemma => kernel_rfl) (by as_aux_lemma => kernel_rfl) g7
theorem g9 : Try.f3.isInstance Try.prog Rows.fnTablesRow.origin Rows.fnTablesRow.targs := of_decide_eq_true (by kernel_rfl)
theorem g10 : Try.f3.isWrapper Try.prog Rows.fnTablesRow.wrapper Rows.fnTablesRow.mainSum := by
  unfold Func.isWrapper; first | (rw [if_pos (by decide +kernel)]; kernel_rfl) | (rw [if_neg (by decide +kernel)]; exact ⟨rfl, rfl⟩)
theorem over : Rows.fnTablesRow.holds Try.pinned (OpenSpec.ofChange Rows.fnTablesSpec) :=
  OpenClaim.holds_of_wide 3 Try.f3 rfl rfl rfl rfl rfl rfl rfl ⟨rfl, rfl, rfl, rfl, rfl⟩ rfl rfl rfl rfl rfl g0 Try.func3 g8 g9 g10 (fun os started H enc _ => lifted os started H enc)
theorem proved : Rows.FnTablesSaid := over
end Go.Proofs.Ytbpigeipjeegiaa.lawTables
