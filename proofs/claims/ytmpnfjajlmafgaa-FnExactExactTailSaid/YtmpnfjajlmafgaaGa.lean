/-
  spec.l06Pair.
-/
import Derived.Test.YtmpnfjajlmafgaaFz
namespace Go.Proofs.Ytmpnfjajlmafgaa
open Go Go.RowKit

/-- the weights of the first counts, as a list -/
def wl (f : Nat → Nat) (k : Nat) : List Value := (List.range k).map fun i => .int .i64 (f i : Nat)
theorem wl_succ (f : Nat → Nat) (k : Nat) : wl f (k + 1) = wl f k ++ [.int .i64 (f k : Nat)] := by
  unfold wl
  rw [List.range_succ, List.map_append]
  rfl
theorem wl_len (f : Nat → Nat) (k : Nat) : (wl f k).length = k := by simp [wl]
theorem wl_at {f : Nat → Nat} {k q : Nat} (h : q < k) : (wl f k)[q]? = some (.int .i64 (f q : Nat)) := by
  unfold wl
  rw [List.getElem?_map, List.getElem?_range h]
  rfl
def wN (a b c d i : Nat) : Nat := wt2 (a + c) (b + d) (a + b) (lowT a b d + i)
def pairOut (a b c d : Nat) (w : World) : Ending → World → Prop := fun e w' => ∃ g9 c9 : Nat, e = .returned (.tuple #[.slice (some ⟨g9, 0, none⟩) (manyT a b c d) c9, .int .i64 ((a - lowT a b d : Nat) : Int)]) ∧ w'.ownsRow w.heap.size 2 1 (.slice (some ⟨g9, 0, none⟩) (manyT a b c d) c9) (manyT a b c d) (wl (wN a b c d) (manyT a b c d)) ∧ Below w.heap.size w w'
set_option maxRecDepth 100000 in
set_option maxHeartbeats 1600000 in
theorem l06Pair_any (p g o a b c d ct : Nat) (w : World) (hs : a + b + c + d ≤ 60) (hp : TbAt w p 2 2 (some ⟨g, o, none⟩) 4 ct) (hc : ∀ i, i < 4 → w.cell? ⟨g, o + i, none⟩ = some (.int .i64 (([a, b, c, d] : List Nat)[i]! : Nat))) :
    Calls Try.prog 32 #[.pointer (some ⟨p, 0, none⟩)] w (pairOut a b c d w) := by
  have HSU := Lib.hid (l06Sums_any p g o 2 2 ct [a, b, c, d] w (by omega) (by omega) (fun i hi => by
    have : i = 0 ∨ i = 1 ∨ i = 2 ∨ i = 3 ∨ i = 4 := by omega
    rcases this with rfl | rfl | rfl | rfl | rfl
    all_goals
      simp [preSum]
      try omega) hp hc)
  unfold sumsOut at HSU
  have er : rwTo [a, b, c, d] 2 (2 * 2) 0 = a + b := by simp [rwTo]
  have e0 : colsTo [a, b, c, d] 2 (2 * 2) 0 = a + c := by simp [colsTo]
  have e1 : colsTo [a, b, c, d] 2 (2 * 2) 1 = b + d := by simp [colsTo]
  have HR0 : Hid (∀ (W : World) (b1 b2 : Nat), W.rowIs b1 2 2 (fun q => .int .i64 (rwTo [a, b, c, d] 2 (2 * 2) q : Nat)) → W.rowIs b2 2 2 (fun q => .int .i64 (colsTo [a, b, c, d] 2 (2 * 2) q : Nat)) → W.cell? ⟨b1, 0, none⟩ = some (.int .i64 ((a + b : Nat) : Int)) ∧ W.cell? ⟨b2, 0, none⟩ = some (.int .i64 ((a + c : Nat) : Int)) ∧ W.cell? ⟨b2, 1, none⟩ = some (.int .i64 ((b + d : Nat) : Int))) := Lib.hid fun W b1 b2 h1 h2 => by
    rw [← er, ← e0, ← e1]
    exact ⟨h1.cell (by omega), h2.cell (by omega), h2.cell (by omega)⟩
  have hm : lowT a b d + manyT a b c d = min (a + b) (a + c) + 1 ∧ lowT a b d ≤ a := by
    unfold manyT lowT
    omega
  have hmx : (if (a + b : Nat) - (b + d : Nat) < (0 : Int) then (0 : Int) else (a + b : Nat) - (b + d : Nat)) = (lowT a b d : Nat) := by
    unfold lowT
    split <;> omega
  have hmn : (if ((a + b : Nat) : Int) < (a + c : Nat) then ((a + b : Nat) : Int) else (a + c : Nat)) = ((lowT a b d + manyT a b c d - 1 : Nat) : Int) := by
    rw [hm.1]
    split <;> omega
  have HMX : Hid (∀ W, Calls Try.prog 63 #[.int .i64 0, .int .i64 ((a + b : Nat) - (b + d : Nat))] W (SameOut (.int .i64 (lowT a b d : Nat)) W)) := Lib.hid fun W => by
    rw [← hmx]
    exact l00Max_any _ _ W
  have HMN : Hid (∀ W, Calls Try.prog 64 #[.int .i64 (a + b : Nat), .int .i64 (a + c : Nat)] W (SameOut (.int .i64 ((lowT a b d + manyT a b c d - 1 : Nat) : Int)) W)) := Lib.hid fun W => by
    rw [← hmn]
    exact l00Min_any _ _ W
  have HCA : Hid (∀ i W, i < manyT a b c d → Calls Try.prog 47 #[.int .i64 (a + c : Nat), .int .i64 ((lowT a b d + i : Nat) : Int)] W (fun e w' => e = .returned (.int .i64 (pas (a + c) (lowT a b d + i) : Nat)) ∧ Below W.heap.size W w')) := Lib.hid fun i W hi => l06Choose_any _ _ (by omega) (by omega) W
  have HCB : Hid (∀ i W, i < manyT a b c d → Calls Try.prog 47 #[.int .i64 (b + d : Nat), .int .i64 ((a + b - (lowT a b d + i) : Nat) : Int)] W (fun e w' => e = .returned (.int .i64 (pas (b + d) (a + b - (lowT a b d + i)) : Nat)) ∧ Below W.heap.size W w')) := Lib.hid fun i W hi => l06Choose_any _ _ (by omega) (by unfold manyT lowT at *; omega) W
  have HWN : Hid (∀ i, wN a b c d i = pas (a + c) (lowT a b d + i) * pas (b + d) (a + b - (lowT a b d + i)) ∧ wN a b c d i ≤ 1152921504606846976) := Lib.hid fun i => ⟨rfl, wt2_small (by omega)⟩
  obtain ⟨i0, hi0, hz0, hz1, hz2⟩ := info_parts info_i64
  have P := Lib.hid hp
  have HC0 : Hid (∀ W, Below w.heap.size w W → W.cell? ⟨g, o, none⟩ = some (.int .i64 (a : Nat))) := Lib.hid fun W hW => keepC hW (hc 0 (by omega))
  have hdiff : IntKind.i64.wrap (((a + b : Nat) : Int) - ((b + d : Nat) : Int)) = ((a + b : Nat) : Int) - ((b + d : Nat) : Int) := IntWalk.i64_in _ (by omega)
  have hat : IntKind.i64.wrap ((a : Int) - ((lowT a b d : Nat) : Int)) = ((a - lowT a b d : Nat) : Int) := by
    rw [show (a : Int) - ((lowT a b d : Nat) : Int) = ((a - lowT a b d : Nat) : Int) by omega]
    exact IntWalk.i64_in _ (by omega)
  have hxb : ∀ i, i < manyT a b c d → lowT a b d + i ≤ a + b ∧ a + b ≤ 60 := fun i hi => by omega
  have hma : 1 ≤ manyT a b c d ∧ lowT a b d + manyT a b c d ≤ 61 := by omega
  unfold pairOut
  unfold SameOut at HMX HMN
  clear hs hp hc er e0 e1 hm hmx hmn
  generalize wN a b c d = f at *
  generalize manyT a b c d = many at *
  generalize a - lowT a b d = at9 at *
  generalize lowT a b d = L at *
  generalize b + d = c1 at *
  generalize a + c = c0 at *
  generalize a + b = r0 at *
  go_enter Try.func32, Try.ntmps32
  go_wp2_with (go_at_call 39; refine HSU.out.mono ?_; rintro e w1 ⟨b1, b2, rfl, hr1, hr2, hb1⟩; have K1 := HR0.out w1 b1 b2 hr1 hr2; have B1 := Lib.hid hb1; clear hr1 hr2 hb1)
  obtain ⟨k1, k2, k3⟩ := K1
  go_quiet ((with_reducible exact (HMX.out _).mono fun _ _ h => ⟨h.1, _, h.2.symm⟩))
  have B2 := Lib.hid (below_drewN B1.out nq)
  have K2 : Hid ((w1.drewN nq).cell? ⟨b1, 0, none⟩ = some (.int .i64 (r0 : Nat)) ∧ (w1.drewN nq).cell? ⟨b2, 0, none⟩ = some (.int .i64 (c0 : Nat)) ∧ (w1.drewN nq).cell? ⟨b2, 1, none⟩ = some (.int .i64 (c1 : Nat))) := Lib.hid ⟨k1, k2, k3⟩
  generalize w1.drewN nq = w2 at *
  clear k1 k2 k3
  obtain ⟨k1, k2, k3⟩ := K2.out
  go_wp2_with fail
  go_quiet ((with_reducible exact (HMN.out _).mono fun _ _ h => ⟨h.1, _, h.2.symm⟩))
  have B3 := Lib.hid (below_drewN B2.out nq)
  have K3 : Hid ((w2.drewN nq).cell? ⟨b1, 0, none⟩ = some (.int .i64 (r0 : Nat)) ∧ (w2.drewN nq).cell? ⟨b2, 0, none⟩ = some (.int .i64 (c0 : Nat)) ∧ (w2.drewN nq).cell? ⟨b2, 1, none⟩ = some (.int .i64 (c1 : Nat))) := Lib.hid ⟨k1, k2, k3⟩
  generalize w2.drewN nq = w3 at *
  clear k1 k2 k3 B1 B2 K2
  have START : Hid ((w3.alloc (.cells #[] 2)).ownsRow w3.heap.size 2 1 (.slice (some ⟨w3.heap.size, 0, none⟩) 0 0) 0 (wl f 0) ∧ Below w3.heap.size w3 (w3.alloc (.cells #[] 2))) := Lib.hid ⟨World.ownsRow_made w3 #[] 0 (Nat.le_refl _) (by unfold maxLen; omega) rfl, below_al (Below.refl _ _) _⟩
  go_upto_region 5 with fail
  generalize World.alloc w3 _ = w4 at *
  go_wp2_with fail
  go_loopw [8, 9] (fun rv iv wr => ∃ (k g9 c9 : Nat), k ≤ many ∧ iv = .int .i64 ((L + k : Nat) : Int) ∧ rv = .slice (some ⟨g9, 0, none⟩) k c9 ∧ wr.ownsRow w3.heap.size 2 1 (.slice (some ⟨g9, 0, none⟩) k c9) k (wl f k) ∧ Below w3.heap.size w3 wr) (fun _ iv _ => L + many - (intOf iv).toNat)
  case atStart => exact ⟨0, w3.heap.size, 0, Nat.zero_le _, by rw [Nat.add_zero], rfl, START.out.1, START.out.2⟩
  case round =>
    clear START
    obtain ⟨k, g9, c9, hk, rfl, rfl, ho, hb⟩ := hrel
    rename World => wk
    have O := Lib.hid ho
    have B := Lib.hid hb
    have hbs := hb.size
    clear ho hb
    by_cases hkm : k < many
    · have hx1 := hxb k hkm
      have hcond : ((L + k : Nat) : Int) ≤ ((L + many - 1 : Nat) : Int) := by omega
      have hsub : IntKind.i64.wrap (((r0 : Nat) : Int) - ((L + k : Nat) : Int)) = ((r0 - (L + k) : Nat) : Int) := by
        rw [show ((r0 : Nat) : Int) - ((L + k : Nat) : Int) = ((r0 - (L + k) : Nat) : Int) by omega]
        exact IntWalk.i64_in _ (by omega)
      have hmul : IntKind.i64.wrap (((pas c0 (L + k) : Nat) : Int) * ((pas c1 (r0 - (L + k)) : Nat) : Int)) = ((f k : Nat) : Int) := by
        have h9 := HWN.out k
        rw [← Int.natCast_mul, ← h9.1]
        exact IntWalk.i64_in _ (by omega)
      have HA := Lib.hid fun W => HCA.out k W hkm
      have HB := Lib.hid fun W => HCB.out k W hkm
      have HM : Hid (∀ W, Below wk.heap.size wk W → W.cell? ⟨b1, 0, none⟩ = some (.int .i64 (r0 : Nat)) ∧ W.cell? ⟨b2, 0, none⟩ = some (.int .i64 (c0 : Nat)) ∧ W.cell? ⟨b2, 1, none⟩ = some (.int .i64 (c1 : Nat))) := Lib.hid fun W hW => ⟨keepC hW (keepC B.out K3.out.1), keepC hW (keepC B.out K3.out.2.1), keepC hW (keepC B.out K3.out.2.2)⟩
      have HKP : Hid (∀ (W0 W : World) (o : Obj), Below wk.heap.size wk W0 → (W0.alloc o).grownBy W (some g9) → W.cell? ⟨b1, 0, none⟩ = some (.int .i64 (r0 : Nat)) ∧ W.cell? ⟨b2, 0, none⟩ = some (.int .i64 (c0 : Nat)) ∧ W.cell? ⟨b2, 1, none⟩ = some (.int .i64 (c1 : Nat))) := Lib.hid fun W0 W o h0 hW => by
        have hg := (O.out.lt g9 rfl).1
        have l1 := lt_of_cell K3.out.1
        have l2 := lt_of_cell K3.out.2.1
        have hz0 := h0.size
        have h1 := HM.out _ (below_al h0 o)
        have n1 : b1 ≠ g9 := by
          simp at l1
          omega
        have n2 : b2 ≠ g9 := by
          simp at l2
          omega
        exact ⟨by rw [hW.cell_far _ (lt_of_cell h1.1) (fun e => n1 (by injection e))]; exact h1.1, by rw [hW.cell_far _ (lt_of_cell h1.2.1) (fun e => n2 (by injection e))]; exact h1.2.1, by rw [hW.cell_far _ (lt_of_cell h1.2.2) (fun e => n2 (by injection e))]; exact h1.2.2⟩
      have hS := HM.out wk (Below.refl _ _)
      have HSU9 : Hid (wl f k ++ [.int .i64 (f k : Nat)] = wl f (k + 1)) := Lib.hid (wl_succ f k).symm
      have HLK : Hid (L + k + 1 = L + (k + 1)) := Lib.hid rfl
      have hxs : L + k ≤ 60 := by omega
      have HXM : Hid (L + k < L + many) := Lib.hid (by omega)
      have HWL : Hid ((wl f k).length = k) := Lib.hid (wl_len f k)
      clear HCA HCB HWN hxb hx1
      generalize pas c0 (L + k) = u at *
      generalize pas c1 (r0 - (L + k)) = v at *
      generalize r0 - (L + k) = y at *
      generalize f k = fk at *
      generalize hLk : L + k = x at *
      have HX := Lib.hid hLk
      clear hLk
      go_wp2_with fail
      go_region_held3 (fun W => W.cell? ⟨b1, 0, none⟩ = some (.int .i64 (r0 : Nat)) ∧ W.cell? ⟨b2, 0, none⟩ = some (.int .i64 (c0 : Nat)) ∧ W.cell? ⟨b2, 1, none⟩ = some (.int .i64 (c1 : Nat)))
        (first | exact hS | exact HM.out _ (Below.refl _ _) | exact HM.out _ (below_dr (Below.refl _ _)) | exact HM.out _ bkB | exact HM.out _ bkA | exact HM.out _ (below_al bkB _) | exact HM.out _ (below_al bkA _) | exact KP3)
        (first
          | (go_at_call 47; (with_reducible refine (HA.out _).mono ?_); rintro e wA ⟨rfl, hbA⟩; have bkA : Below wk.heap.size wk wA := (by first | exact below_next (below_dr (Below.refl _ _)) hbA | exact below_next bkB hbA); clear hbA)
          | (go_at_call 47; (with_reducible refine (HB.out _).mono ?_); rintro e wB ⟨rfl, hbB⟩; have bkB : Below wk.heap.size wk wB := (by first | exact below_next (below_dr (Below.refl _ _)) hbB | exact below_next bkA hbB); clear hbB)
          | (refine step_append_lies _ (by rfl) _ _ _ (by rfl) w3.heap.size 2 i0 _ 1 8 Try.underlying22 hi0 hz0 hz1 hz2 rfl (by omega) (.slice (some ⟨g9, 0, none⟩) k c9) k (wl f k) (by rfl) ((by first | exact own_below O.out bkB | exact own_below O.out bkA : World.ownsRow _ w3.heap.size 2 1 (.slice (some ⟨g9, 0, none⟩) k c9) k (wl f k)).alloc _) ⟨_, 0, none⟩ 1 1 [.int .i64 (fk : Nat)] (by rfl) (by rfl) (World.news_of_block (cs := #[.int .i64 (fk : Nat)]) (t := 2) (fr := (0, 0)) (heap_alloc_new _ _)) (by simp [Value.oneCell']) (by omega) (by unfold maxLen; omega) (by omega) (by first | (have := bkB.size; simp; omega) | (have := bkA.size; simp; omega)) _ rfl ?_; intro g8 cap8 w8 hown8 hgrow8 hat8 hlt8; rw [HSU9.out] at hown8; have O8 := Lib.hid hown8; have G8 := Lib.hid hgrow8; have A8 := Lib.hid hat8; have KP3 := (by first | exact HKP.out _ _ _ bkB hgrow8 | exact HKP.out _ _ _ bkA hgrow8); clear hgrow8 hat8 hown8))
      all_goals
        have B8 : Hid (Below w3.heap.size w3 w8) := by
          first
            | exact Lib.hid ((below_al (below_next B.out bkB) _).grown G8.out (below_al (below_next B.out bkB) _).size fun j hj => by have e : g9 = j := Option.some.inj hj; have := (O.out.lt g9 rfl).1; omega)
            | exact Lib.hid ((below_al (below_next B.out bkA) _).grown G8.out (below_al (below_next B.out bkA) _).size fun j hj => by have e : g9 = j := Option.some.inj hj; have := (O.out.lt g9 rfl).1; omega)
        go_wp2_with fail
        go_roundw
        case rel => exact ⟨k + 1, g8, cap8, by omega, by rw [← HLK.out]; go_num, rfl, O8.out, B8.out⟩
        case measure =>
          have := HXM.out
          simp [intOf]
          omega
    · obtain rfl : k = many := by omega
      have hcond : ¬ (((L + k : Nat) : Int) ≤ ((L + k - 1 : Nat) : Int)) := by omega
      have y0 := HC0.out wk (below_next B3.out B.out)
      obtain ⟨p0, p1, p2⟩ := P.out.keep (below_next B3.out B.out)
      have O9 := Lib.hid (own_base O.out (show w.heap.size ≤ w3.heap.size from B3.out.size))
      have B9 := Lib.hid (below_next B3.out B.out)
      clear HCA HCB HWN hxb
      generalize L + k = x at *
      generalize x - 1 = x1 at *
      go_wp2_with fail
      go_quiet (fail)
      go_wp2_with fail
      go_ret2
      exact ⟨g9, c9, rfl, own_below O9.out (below_drewN (Below.refl _ _) _), below_drewN B9.out _⟩
end Go.Proofs.Ytmpnfjajlmafgaa
