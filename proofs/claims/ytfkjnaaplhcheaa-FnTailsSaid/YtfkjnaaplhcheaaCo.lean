/-
  In how many ways so many of some can be taken: impl.choices and spec.l06Choose.
-/
import Derived.Test.YtfkjnaaplhcheaaOut
import Derived.Test.YtfkjnaaplhcheaaFa
import Derived.BigRegion
import Derived.Deep.RegionLaw
import Derived.Deep.RegionHeld3
import Derived.Deep.DeepCutAuto
namespace Go.Proofs.Ytfkjnaaplhcheaa
open Go Go.RowKit

theorem info_i64 : (Try.prog.info? 2).map (fun i => (i.zero, i.size, i.bytes)) = some (some (.int .i64 0), 1, 8) := by kernel_rfl
theorem own_one {w : World} {base : Nat} {e : TypeId} {x : Value} (hb : base ≤ w.heap.size) : (w.alloc (.cells #[x] e)).ownsRow base e 1 (.slice (some ⟨w.heap.size, 0, none⟩) 1 1) 1 [x] :=
  ⟨by simp, .inr ⟨w.heap.size, 1, #[x], rfl, hb, heap_alloc_new w _, Nat.le_refl _, by unfold maxLen; omega, rfl, by simp⟩⟩
/-- k of n -/
def pas : Nat → Nat → Nat
  | _, 0 => 1
  | 0, _ + 1 => 0
  | n + 1, k + 1 => pas n k + pas n (k + 1)
theorem pas_zero (n : Nat) : pas n 0 = 1 := by cases n <;> rfl
theorem pas_succ (n k : Nat) : pas (n + 1) (k + 1) = pas n k + pas n (k + 1) := rfl
theorem pas_over : ∀ (n k : Nat), n < k → pas n k = 0
  | _, 0, h => by omega
  | 0, k + 1, _ => rfl
  | n + 1, k + 1, h => by rw [pas_succ, pas_over n k (by omega), pas_over n (k + 1) (by omega)]
theorem pas_self : ∀ n, pas n n = 1
  | 0 => rfl
  | n + 1 => by rw [pas_succ, pas_self n, pas_over n (n + 1) (by omega)]
theorem pas_le : ∀ (n k : Nat), pas n k ≤ 2 ^ n
  | n, 0 => by rw [pas_zero]; exact Nat.one_le_two_pow
  | 0, k + 1 => by show 0 ≤ _; omega
  | n + 1, k + 1 => by
    rw [pas_succ, Nat.pow_succ]
    have h1 := pas_le n k
    have h2 := pas_le n (k + 1)
    omega
theorem pas_small {n : Nat} (hn : n ≤ 60) (k : Nat) : pas n k ≤ 1152921504606846976 := Nat.le_trans (pas_le n k) (Nat.le_trans (Nat.pow_le_pow_right (by omega) hn) (by decide))
/-- the first so many of a row -/
def pasTo (i j : Nat) : List Value := (List.range j).map fun q => .int .i64 (pas i q : Nat)
theorem pasTo_succ (i j : Nat) : pasTo i (j + 1) = pasTo i j ++ [.int .i64 (pas i j : Nat)] := by
  unfold pasTo
  rw [List.range_succ, List.map_append]
  rfl
theorem pasTo_len (i j : Nat) : (pasTo i j).length = j := by simp [pasTo]
theorem own_cellAt {W : World} {base g k c j : Nat} {e : TypeId} {xs : List Value} {x : Value} (ho : W.ownsRow base e 1 (.slice (some ⟨g, 0, none⟩) k c) k xs) (hj : xs[j]? = some x) : W.cell? ⟨g, j, none⟩ = some x := by
  have h1 := ho.cells (g := g) rfl j x hj
  have hadd : (⟨g, 0, none⟩ : Addr).add j = ⟨g, j, none⟩ := by unfold Addr.add; split <;> simp_all
  rw [hadd] at h1
  exact h1
theorem pasTo_at {i j q : Nat} (h : q < j) : (pasTo i j)[q]? = some (.int .i64 (pas i q : Nat)) := by
  unfold pasTo
  rw [List.getElem?_map, List.getElem?_range h]
  rfl

/-- a row that is whole, and one that grows, apart -/
structure PR (W : World) (base i j : Nat) (v u : Value) : Prop where
  a : W.ownsRow base 2 1 v (i + 1) (pasTo i (i + 1))
  b : W.ownsRow base 2 1 u j (pasTo (i + 1) j)
  ab : ∀ k, v.ownBlock = some k → u.ownBlock ≠ some k
variable {W W' W0 W3 : World} {base i j : Nat} {v u : Value}
theorem PR.keep (h : PR W base i j v u) (hb : Below W.heap.size W W') : PR W' base i j v u := ⟨own_below h.a hb, own_below h.b hb, h.ab⟩
theorem own_neP {a b : Option Nat} (h : ∀ j, a = some j → b ≠ some j) : a = none ∨ a ≠ b := by
  cases a with
  | none => exact .inl rfl
  | some j => exact .inr fun e => h j rfl e.symm
theorem PR.add {g cap : Nat} {o : Obj} (h : PR W0 base i j v u) (hgr : (W0.alloc o).grownBy W3 u.ownBlock) (ho : W3.ownsRow base 2 1 (.slice (some ⟨g, 0, none⟩) (j + 1) cap) (j + 1) (pasTo (i + 1) j ++ [.int .i64 (pas (i + 1) j : Nat)])) (hat : u.ownBlock = some g ∨ g = W0.heap.size + 1) :
    PR W3 base i (j + 1) v (.slice (some ⟨g, 0, none⟩) (j + 1) cap) := by
  have h2 := h.keep (below_al (Below.refl _ _) o)
  refine ⟨h2.a.kept hgr (own_neP fun k ha hb => h.ab k ha hb), by rw [pasTo_succ]; exact ho, fun k hk e => ?_⟩
  have e : g = k := Option.some.inj e
  subst e
  have := (h.a.lt g hk).2
  rcases hat with hat | hat
  · exact h.ab _ hk hat
  · omega
theorem PR.below {w : World} {o : Obj} (h : PR W0 base i j v u) (hw : Below w.heap.size w W0) (hb : w.heap.size ≤ base) (hgr : (W0.alloc o).grownBy W3 u.ownBlock) : Below w.heap.size w W3 :=
  (below_al hw o).grown hgr (below_al hw o).size fun j hj => by have := (h.b.lt j hj).1; omega

set_option maxRecDepth 100000 in
set_option maxHeartbeats 1600000 in
theorem choices_any (n k : Nat) (hn : n ≤ 60) (hk : k ≤ n) (w : World) : Calls Try.prog 54 #[.int .i64 n, .int .i64 k] w (fun e w' => e = .returned (.int .i64 (pas n k : Nat)) ∧ Below w.heap.size w w') := by
  obtain ⟨i0, hi0, hz0, hz1, hz2⟩ := info_parts info_i64
  have START : Hid ((w.alloc (.cells #[.int .i64 1] 2)).ownsRow w.heap.size 2 1 (.slice (some ⟨w.heap.size, 0, none⟩) 1 1) 1 (pasTo 0 1)) := Lib.hid (by
    exact own_one (Nat.le_refl _))
  have HB0 := Lib.hid (below_al (Below.refl w.heap.size w) (.cells #[.int .i64 1] 2))
  have HPS : Hid (∀ i q, i ≤ 60 → pas i q ≤ 1152921504606846976) := Lib.hid fun i q h => pas_small h q
  have HSU : Hid (∀ i q, pas (i + 1) (q + 1) = pas i q + pas i (q + 1)) := Lib.hid pas_succ
  have HSE : Hid (∀ i, pas i i = 1) := Lib.hid pas_self
  go_enter Try.func54, Try.ntmps54
  go_upto_region 2 with fail
  generalize World.alloc w _ = W1 at *
  go_wp2_with fail
  go_loopw [5, 10] (fun rv iv wr => ∃ (i g c : Nat), i ≤ n ∧ iv = .int .i64 i ∧ rv = .slice (some ⟨g, 0, none⟩) (i + 1) c ∧ wr.ownsRow w.heap.size 2 1 (.slice (some ⟨g, 0, none⟩) (i + 1) c) (i + 1) (pasTo i (i + 1)) ∧ Below w.heap.size w wr) (fun _ iv _ => n - (intOf iv).toNat)
  case atStart => exact ⟨0, w.heap.size, 1, Nat.zero_le _, rfl, rfl, START.out, HB0.out⟩
  case round =>
    clear START HB0
    obtain ⟨i, g, c, hi, rfl, rfl, ho, hb⟩ := hrel
    rename World => wr
    have O := Lib.hid ho
    have B := Lib.hid hb
    have hbs := hb.size
    clear ho hb
    by_cases hin : i < n
    · have P0 : Hid (PR (wr.alloc (.cells #[.int .i64 1] 2)) w.heap.size i 1 (.slice (some ⟨g, 0, none⟩) (i + 1) c) (.slice (some ⟨wr.heap.size, 0, none⟩) 1 1)) := Lib.hid ⟨own_below O.out (below_al (Below.refl _ _) _), by
          rw [show pasTo (i + 1) 1 = [.int .i64 1] by unfold pasTo; simp [pas_zero]]
          exact own_one hbs, fun q hq e => by
          have hq : g = q := Option.some.inj hq
          have e : wr.heap.size = q := Option.some.inj e
          have := (O.out.lt g rfl).2
          omega⟩
      have B0 := Lib.hid (below_al B.out (.cells #[.int .i64 1] 2))
      go_upto_region 5 with fail
      generalize wr.heap.size = g1 at *
      generalize World.alloc wr _ = W2 at *
      go_wp2_with fail
      go_loopw [6, 7] (fun uv jv wk => ∃ (j g2 c2 : Nat), 1 ≤ j ∧ j ≤ i + 1 ∧ jv = .int .i64 j ∧ uv = .slice (some ⟨g2, 0, none⟩) j c2 ∧ PR wk w.heap.size i j (.slice (some ⟨g, 0, none⟩) (i + 1) c) (.slice (some ⟨g2, 0, none⟩) j c2) ∧ Below w.heap.size w wk) (fun _ jv _ => n + 1 - (intOf jv).toNat)
      case atStart => exact ⟨1, g1, 1, Nat.le_refl _, by omega, rfl, rfl, P0.out, B0.out⟩
      case round =>
        clear P0 B0
        obtain ⟨j, g2, c2, hj1, hj2, rfl, rfl, hp, hb⟩ := hrel
        rename World => wk
        have P := Lib.hid hp
        have BK := Lib.hid hb
        have hbz := hb.size
        clear hp hb
        by_cases hjn : j < i + 1
        · obtain ⟨q, hq⟩ : ∃ q, j = q + 1 := ⟨j - 1, by omega⟩
          have y0 := own_cellAt P.out.a (pasTo_at (show q < i + 1 by omega))
          have y1 := own_cellAt P.out.a (pasTo_at hjn)
          have hs1 := HPS.out i q (by omega)
          have hs2 := HPS.out i j (by omega)
          have hv := HSU.out i q
          rw [← hq] at hv
          have hjq : (j : Int) - 1 = (q : Nat) := by omega
          have hqi : (q : Int) < ((i + 1 : Nat) : Int) := by omega
          have hqn : q < i + 1 := by omega
          have hqi2 : (q : Int) < (i : Int) + 1 := by omega
          have hji2 : (j : Int) < (i : Int) + 1 := by omega
          have hji : (j : Int) < ((i + 1 : Nat) : Int) := by omega
          have HOB := Lib.hid P.out.b
          have hwv : IntKind.i64.wrap ((pas i q : Int) + (pas i j : Int)) = ((pas (i + 1) j : Nat) : Int) := by
            rw [IntWalk.i64_in _ (by omega), hv]
            push_cast
            rfl
          generalize pas i q = a at *
          generalize pas i j = b at *
          have hwj : IntKind.i64.wrap ((j : Int) - 1) = (q : Int) := by rw [hjq]; exact IntWalk.i64_in _ (by omega)
          have hwq : IntKind.i64.wrap (q : Int) = (q : Int) := IntWalk.i64_in _ (by omega)
          have hq0 : (0 : Int) ≤ (q : Int) := by omega
          have HKP : Hid (∀ (W : World) (o : Obj), ((wk.drew).alloc o).grownBy W (some g2) → W.cell? ⟨g, q, none⟩ = some (.int .i64 (a : Nat)) ∧ W.cell? ⟨g, j, none⟩ = some (.int .i64 (b : Nat))) := Lib.hid fun W o hW => by
            have hne : g ≠ g2 := fun e => P.out.ab g rfl (by rw [e]; rfl)
            have h0 := keepC (below_al (below_dr (Below.refl wk.heap.size wk)) o) y0
            have h1 := keepC (below_al (below_dr (Below.refl wk.heap.size wk)) o) y1
            exact ⟨by rw [hW.cell_far _ (lt_of_cell h0) (fun e => hne (by injection e))]; exact h0, by rw [hW.cell_far _ (lt_of_cell h1) (fun e => hne (by injection e))]; exact h1⟩
          generalize hpv : pas (i + 1) j = v at *
          have HPV := Lib.hid hpv
          clear hq hv hpv hjq
          go_wp2_with fail
          go_region_held3 (fun W => W.cell? ⟨g, q, none⟩ = some (.int .i64 (a : Nat)) ∧ W.cell? ⟨g, j, none⟩ = some (.int .i64 (b : Nat)))
            (first | exact ⟨y0, y1⟩ | exact ⟨keepC (below_dr (Below.refl _ _)) y0, keepC (below_dr (Below.refl _ _)) y1⟩ | exact ⟨keepC (below_al (below_dr (Below.refl _ _)) _) y0, keepC (below_al (below_dr (Below.refl _ _)) _) y1⟩ | exact KP3)
            (first
              | (refine step_append_lies _ (by rfl) _ _ _ (by rfl) w.heap.size 2 i0 _ 1 8 Try.underlying25 hi0 hz0 hz1 hz2 rfl (by omega) (.slice (some ⟨g2, 0, none⟩) j c2) j (pasTo (i + 1) j) (by rfl) ((own_below HOB.out (below_dr (Below.refl _ _))).alloc _) ⟨wk.heap.size, 0, none⟩ 1 1 [.int .i64 (v : Nat)] (by rfl) (by rfl) (World.news_of_block (cs := #[.int .i64 (v : Nat)]) (t := 2) (fr := (0, 0)) (heap_alloc_new wk.drew _)) (by simp [Value.oneCell']) (by omega) (by unfold maxLen; omega) (by omega) (by simp; omega) (wk.heap.size + 1) (by simp) ?_; intro g9 cap9 w9 hown9 hgrow9 hat9 hlt9; rw [← HPV.out] at hown9; have P9 := Lib.hid ((P.out.keep (below_dr (Below.refl _ _))).add hgrow9 hown9 hat9); have B9 := Lib.hid ((P.out.keep (below_dr (Below.refl _ _))).below (below_dr BK.out) (Nat.le_refl _) hgrow9); have KP3 := HKP.out _ _ hgrow9; clear hgrow9 hat9 hown9))
          go_wp2_with fail
          go_roundw
          case rel => exact ⟨j + 1, g9, cap9, by omega, by omega, by go_num, rfl, P9.out, B9.out⟩
          case measure => simp [intOf]; omega
        · obtain rfl : j = i + 1 := by omega
          have HOB := Lib.hid P.out.b
          have HSEi := HSE.out (i + 1)
          have hnl : ¬ (((i + 1 : Nat) : Int) < ((i + 1 : Nat) : Int)) := by omega
          have HSUP : Hid (pasTo (i + 1) (i + 1 + 1) = pasTo (i + 1) (i + 1) ++ [.int .i64 1]) := Lib.hid (by rw [pasTo_succ, HSEi]; rfl)
          clear HSEi
          go_wp2_with (refine wpList_append_lies _ rfl _ _ _ rfl w.heap.size 2 i0 _ 1 8 Try.underlying25 hi0 hz0 hz1 hz2 rfl (by omega) (.slice (some ⟨g2, 0, none⟩) (i + 1) c2) (i + 1) (pasTo (i + 1) (i + 1)) (by rfl) (HOB.out.alloc _) ⟨wk.heap.size, 0, none⟩ 1 1 [.int .i64 1] (by rfl) (by rfl) (World.news_of_block (cs := #[.int .i64 1]) (t := 2) (fr := (0, 0)) (heap_alloc_new wk _)) (by simp [Value.oneCell']) (by omega) (by unfold maxLen; omega) (by omega) (by simp; omega) (wk.heap.size + 1) (by simp) ?_; intro g9 cap9 w9 hown9 hgrow9 hat9 hlt9; rw [← HSUP.out] at hown9; have O9 := Lib.hid hown9; have B9 := Lib.hid (P.out.below BK.out (Nat.le_refl _) hgrow9); clear hgrow9 hat9 hown9)
          go_roundw
          case rel => exact ⟨i + 1, g9, cap9, by omega, by go_num, rfl, O9.out, B9.out⟩
          case measure => simp [intOf]; omega
    · obtain rfl : n = i := by omega
      have y0 := own_cellAt O.out (pasTo_at (show k < n + 1 by omega))
      have hkn : (k : Int) < (n : Int) + 1 := by omega
      have hkn2 : k < n + 1 := by omega
      generalize hv : pas n k = v at *
      have HV := Lib.hid hv
      clear hv
      go_wp2_with fail
      go_ret
      exact ⟨by rw [HV.out]; rfl, B.out⟩

/-- spec's row behind so many rounds, where the round has come down to a place -/
def rowC (i j q : Nat) : Nat := if q < j then pas i q else pas (i + 1) q
theorem rowC_start (i : Nat) : ∀ q, rowC i (i + 2) q = pas i q := by
  intro q
  unfold rowC
  by_cases h : q < i + 2
  · rw [if_pos h]
  · rw [if_neg h, pas_over (i + 1) q (by omega), pas_over i q (by omega)]
theorem rowC_end (i : Nat) : ∀ q, rowC i 1 q = pas (i + 1) q := by
  intro q
  unfold rowC
  by_cases h : q < 1
  · obtain rfl : q = 0 := by omega
    rw [if_pos h, pas_zero, pas_zero]
  · rw [if_neg h]
theorem rowC_step (i j q : Nat) : (if q = j + 1 then rowC i (j + 2) (j + 1) + rowC i (j + 2) j else rowC i (j + 2) q) = rowC i (j + 1) q := by
  unfold rowC
  by_cases hq : q = j + 1
  · subst hq
    rw [if_pos rfl, if_pos (by omega), if_pos (by omega), if_neg (by omega), pas_succ]
    omega
  · rw [if_neg hq]
    by_cases h1 : q < j + 1
    · rw [if_pos (by omega), if_pos h1]
    · rw [if_neg (by omega), if_neg h1]
end Go.Proofs.Ytfkjnaaplhcheaa

