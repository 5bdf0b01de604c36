/-
  How a program's head word tells its make: over any program.
  impl.areShares and spec.l06Shares.
  impl.atMostOne and spec.l06One.
  impl.PlainMany of shares: each times their number, at most 1.
  In how many ways so many of some can be taken: impl.choices and spec.l06Choose.
  Contracts of the laws' helpers on slices of 64 bit integers: copy, compare, write marks, read marks.
  slices.Clone of integers.
  impl.logarithm at two numbers (printed by log18.py).
  A region that draws its order and only reads, in a round of a range over a function: one walk in the text's order.
-/
import GoSem.ClaimJoined
import Derived.KernelRfl
import Derived.JoinedOf
import Derived.Test.YtfkjnaaplhcheaaMono
import Derived.Test.YtfkjnaaplhcheaaFa
import Derived.RegionTactic
import Derived.BigRegion
import Derived.Deep.DeepCutAuto
import Derived.Deep.RegionLaw
import Derived.Deep.RegionHeld3
import Derived.Test.YtfkjnaaplhcheaaCm
import Derived.BigQuiet
import Derived.Deep.AppendLies
import Derived.Test.YtfkjnaaplhcheaaFl
import Derived.Deep.LoopGhost
import Derived.Sort.QuietIn
namespace Go.Proofs.Ytfkjnaaplhcheaa
open Go

def sp : Char := Char.ofNat 32
theorem words_append (l r : List Char) : wordsSigns (l ++ sp :: r) = wordsSigns l ++ wordsSigns r := by
  have hsp : ∀ x : List Char, wordsSigns (sp :: x) = [] :: wordsSigns x := fun x => rfl
  have hne : ∀ l : List Char, ∃ w ws, wordsSigns l = w :: ws := by
    intro l
    induction l with
    | nil => exact ⟨[], [], rfl⟩
    | cons c l ih =>
      obtain ⟨w, ws, h⟩ := ih
      by_cases hc : c = sp
      · subst hc
        exact ⟨[], _, hsp l⟩
      · refine ⟨c :: w, ws, ?_⟩
        rw [wordsSigns.eq_3 c l (fun h' => hc h'), h]
  induction l with
  | nil => exact hsp r
  | cons c l ih =>
    by_cases hc : c = sp
    · subst hc
      rw [List.cons_append, hsp, hsp, ih]
      rfl
    · obtain ⟨w, ws, h⟩ := hne l
      rw [List.cons_append, wordsSigns.eq_3 c _ (fun h' => hc h'), wordsSigns.eq_3 c l (fun h' => hc h'), ih, h]
      rfl

section
variable {P : Program} {W : List (List Char)} {C : List Char}
theorem gen_make (hW : behindMainWord (wordsSigns P.initOrder.toList) = C :: W) (h1 : (C == "gc".toList) = false) (h2 : (C == "spec".toList) = false) (h3 : (C == "cut".toList) = true) : P.make = some .cut := by
  unfold Program.make
  rw [hW]
  simp only [h1, h2, h3, Bool.false_or, Bool.true_or, if_true, Bool.false_eq_true, if_false]
theorem gen_headLifts (hW : behindMainWord (wordsSigns P.initOrder.toList) = C :: W) (hs : stripLifts liftWords (C :: W) = ([], C :: W)) : P.headLifts = [] := by
  unfold Program.headLifts
  rw [hW, hs]
  simp only
  split <;> rfl
theorem gen_lifts (hW : behindMainWord (wordsSigns P.initOrder.toList) = C :: W) (hs : stripLifts liftWords (C :: W) = ([], C :: W)) (h1 : (some C == some "carried".toList) = false) : P.liftsFinal = false := by
  unfold Program.liftsFinal
  rw [hW, gen_headLifts hW hs]
  simp only [List.head?_cons, h1, Bool.false_and, Bool.false_or]
  rfl
theorem gen_enter (hW : behindMainWord (wordsSigns P.initOrder.toList) = C :: W) (hs : stripLifts liftWords (C :: W) = ([], C :: W)) (h1 : (some C == some "cut".toList) = true)
    (l1 : P.laysLater = false) (l2 : P.bearsReflect = false) (l3 : P.doorFits [] = true) : P.mayEnter = true := by
  unfold Program.mayEnter
  rw [hW]
  simp only [hs, List.head?_cons, h1, l1, l2, l3, Bool.not_false, Bool.or_true, Bool.true_and, Bool.and_true, Bool.or_eq_true]
  exact .inr (.inr rfl)
theorem gen_facts (f : FuncId) (fn : Func) (s : ChangeSpec) (c : OpenClaim) (hv : s.plain.varTypes P = []) (hvs : s.vars = [])
    (p1 : laidOutB P = true) (p2 : mapsRowed P = true) (p3 : P.stops = []) (p4 : P.stopKnobs = []) (p5 : P.stopsHeard = true) (p6 : P.mayEnter = true) (p7 : P.liftsFinal = false) (p8 : P.make = some .cut)
    (a1 : c.wf (OpenSpec.ofChange s) = true) (a2 : fn.params.all (P.readableRec ·) = true) (a3 : namedTie P c.named [] = true) (a4 : c.stops = []) (a5 : c.knobs = [])
    (b1 : c.inPlace = P.inPlace f) (b2 : c.unfollowed = P.unfollowed f) (b3 : c.recurses = P.recurses f) (b4 : c.named = P.varsNamed f)
    (m1 : (c.maps == fn.params.toList.any (P.mapsRec ·)) = true) (m2 : (c.ifaces == fn.params.toList.any (P.ifacesRec ·)) = true) (m3 : (c.mapsOut == P.mapsAmong fn.resultTypes.toList) = true)
    (m4 : (c.loops == fn.params.toList.any (P.loopsFrom ·)) = true) (m5 : (c.wideKeys == (fn.params.toList ++ fn.resultTypes.toList).any (P.wideKeysFrom ·)) = true)
    (m6 : (fn.resultTypes.all (fun t => P.readableRec t && decide (t < P.types.size))) = true) (m7 : (c.ifacesOut == fn.resultTypes.toList.any (P.ifacesRec ·)) = true) (m8 : (c.loopsOut == fn.resultTypes.toList.any (P.loopsFrom ·)) = true)
    (n1 : c.plainKeys = P.plainKeys) (n2 : c.shortTexts.isNone = true) (n3 : c.lifted = false) (n4 : c.make = .cut) (n5 : c.domain.isEmpty = true) (n6 : c.kinds = []) (n7 : (c.pinned == c.pinnedBy) = true)
    (n8 : (c.veiled == (fn.params.toList ++ fn.resultTypes.toList).any (P.veiledRec ·)) = true) (n9 : c.veiledFits P fn.params.toList (fn.params.toList ++ fn.resultTypes.toList) = true) :
    joinedFacts P f fn s c = true := by
  unfold joinedFacts
  rw [hv, hvs, List.append_nil, a1, p1, p2, a2, a3, a4, p3, a5, p4, ← b1, ← b2, ← b3, ← b4, m1, m2, m3, m4, m5, m6, m7, m8, ← n1, n2, p5, p6, n3, p7, p8, n4, n5, n6, n7, n8, n9]
  simp
end
end Go.Proofs.Ytfkjnaaplhcheaa
namespace Go.Proofs.Ytfkjnaaplhcheaa
open Go Go.RowKit Ieee

/-- 1 to 64 numbers from 0 to 1 -/
def sharesB (xs : List Nat) : Bool := (decide (1 ≤ xs.length) && decide (xs.length ≤ 64)) && xs.all partB
set_option maxHeartbeats 800000 in
theorem areShares_any (A : Option Addr) (xs : List Nat) (c : Nat) (w : World) (hx : xs.length ≤ 9223372036854775807) (h : Rd w w.heap.size A (fl xs)) : Calls Try.prog 64 #[.slice A xs.length c] w (Quiet (.bool (sharesB xs)) w) := by
  have HC := Lib.hid fun w h => areParts_any A xs c w hx h
  have hr : sharesB xs = ((decide (1 ≤ xs.length) && decide (xs.length ≤ 64)) && xs.all partB) := rfl
  by_cases h1 : 1 ≤ xs.length
  · by_cases h2 : xs.length ≤ 64
    · rw [decide_eq_true h1, decide_eq_true h2] at hr
      have HR := Lib.hid hr
      clear hr
      go_enter Try.func64, Try.ntmps64
      go_wp2_with (go_at_call 79; refine (HC.out _ h).mono ?_; rintro e w' ⟨rfl, n, rfl⟩)
      go_ret
      exact ⟨retB (by rw [HR.out]; simp), n, rfl⟩
    · rw [decide_eq_false h2] at hr
      have HR := Lib.hid hr
      clear hr
      go_enter Try.func64, Try.ntmps64
      go_wp2
      go_ret
      exact ⟨retB (by rw [HR.out]; simp), 0, rfl⟩
  · rw [decide_eq_false h1] at hr
    have HR := Lib.hid hr
    clear hr
    go_enter Try.func64, Try.ntmps64
    go_wp2
    go_ret
    exact ⟨retB (by rw [HR.out]; simp), 0, rfl⟩
end Go.Proofs.Ytfkjnaaplhcheaa
namespace Go.Proofs.Ytfkjnaaplhcheaa
open Go Go.RowKit Ieee

/-- a number, but 1 if it is greater than 1 -/
def capF (x : Nat) : Nat := if FloatKind.f32.format.order x 1065353216 = some .gt then 1065353216 else x
theorem atMostOne_any (x : Nat) (w : World) : Calls Try.prog 65 #[.float .f32 x] w (Quiet (.float .f32 (capF x)) w) := by
  have HR : Hid (capF x = if FloatKind.f32.format.order x 1065353216 = some .gt then 1065353216 else x) := Lib.hid rfl
  rcases ho : FloatKind.f32.format.order x 1065353216 with _ | o
  · rw [ho] at HR
    go_enter Try.func65, Try.ntmps65
    go_wp2
    go_ret
    rw [HR.out]
    exact ⟨rfl, 0, rfl⟩
  · cases o
    all_goals
      rw [ho] at HR
      go_enter Try.func65, Try.ntmps65
      go_wp2
      go_ret
      rw [HR.out]
      exact ⟨rfl, 0, rfl⟩
end Go.Proofs.Ytfkjnaaplhcheaa
namespace Go.Proofs.Ytfkjnaaplhcheaa
open Go Go.RowKit Ieee

theorem info_f32p : (Try.prog.info? 50).map (fun i => (i.zero, i.size, i.bytes)) = some (some (.float .f32 0), 1, 4) := by kernel_rfl
theorem fin_65 : ∀ j : Nat, j < 65 → isFin single (floatOfInt .f32 (j : Int)) = true := by decide +kernel
/-- shares times their number, at most 1 -/
def plainL (xs : List Nat) : List Nat := xs.map fun x => capF (fmul x (floatOfInt .f32 (xs.length : Int)))
def pmOut (xs : List Nat) (w : World) : Ending → World → Prop := fun e w' =>
  ∃ A c, e = .returned (.tuple #[.slice A xs.length c, .bool true]) ∧ w'.ownsRow w.heap.size 50 1 (.slice A xs.length c) xs.length (fl xs) ∧ Below w.heap.size w w'
set_option maxRecDepth 100000 in
set_option maxHeartbeats 1600000 in
theorem PlainMany_ok (A : Option Addr) (xs : List Nat) (c : Nat) (w : World) (h : Rd w w.heap.size A (fl xs)) (hb : sharesB xs = true) : Calls Try.prog 24 #[.slice A xs.length c] w (pmOut (plainL xs) w) := by
  have hs := hb
  unfold sharesB at hs
  simp only [Bool.and_eq_true, decide_eq_true_eq] at hs
  obtain ⟨⟨h1, h64⟩, hp⟩ := hs
  have HA : Hid (Calls Try.prog 64 #[.slice A xs.length c] w (Quiet (.bool true) w)) := Lib.hid (by
    have := areShares_any A xs c w (by omega) h
    rw [hb] at this
    exact this)
  have HL : Hid (∀ i, i < xs.length → fl ((plainL xs).take (i + 1)) = fl ((plainL xs).take i) ++ [.float .f32 (capF (fmul (xs.getD i 0) (floatOfInt .f32 (xs.length : Int))))]) := Lib.hid fun i hi => by
    have hl : i < (plainL xs).length := by simpa [plainL] using hi
    rw [List.take_succ_eq_append_getElem hl, List.getD_eq_getElem?_getD, List.getElem?_eq_getElem hi]
    simp only [fl, plainL, List.map_append, List.map_cons, List.map_nil, List.getElem_map, Option.getD_some]
  have HM : Hid (∀ i, i < xs.length → floatBits .mul .f32 (xs.getD i 0) (floatOfInt .f32 (xs.length : Int)) = some (fmul (xs.getD i 0) (floatOfInt .f32 (xs.length : Int)))) := Lib.hid fun i hi => by
    have hx : partB (xs.getD i 0) = true := by
      rw [List.getD_eq_getElem?_getD, List.getElem?_eq_getElem hi]
      exact List.all_eq_true.1 hp _ (List.getElem_mem hi)
    exact (fmul_run (part_key hx).2.2.2 (fin_65 _ (by omega))).1
  have HC : Hid (∀ W, Below w.heap.size w W → ∀ i, i < xs.length → ∃ b off, A = some ⟨b, off, none⟩ ∧ b < W.heap.size ∧ W.cell? ⟨b, off + i, none⟩ = some (.float .f32 (xs.getD i 0))) := Lib.hid fun W hW i hi => by
    obtain ⟨b, off, e, hb2, hc⟩ := (h.at_ hW).flAt hi
    refine ⟨b, off, e, hb2, ?_⟩
    rw [hc, List.getD_eq_getElem?_getD, List.getElem?_eq_getElem hi]
    rfl
  have HE : Hid ((plainL xs).take xs.length = plainL xs ∧ (plainL xs).length = xs.length ∧ fl ((plainL xs).take 0) = []) := Lib.hid ⟨List.take_of_length_le (by simp [plainL]), by simp [plainL], rfl⟩
  unfold pmOut
  rw [HE.out.2.1]
  obtain ⟨i0, hi0, hz0, hz1, hz2⟩ := info_parts info_f32p
  clear h hb hp
  generalize plainL xs = PL at *
  generalize hx : (fun i => xs.getD i 0) = xv at *
  have hx' : ∀ i, xs.getD i 0 = xv i := fun i => by rw [← hx]
  simp only [hx'] at HL HM HC
  clear hx hx'
  generalize xs.length = n at *
  go_enter Try.func24, Try.ntmps24
  go_upto_region 3 with (go_at_call 64; refine HA.out.mono ?_; rintro e w1 ⟨rfl, m0, rfl⟩)
  have B1 := Lib.hid (below_dn (Below.refl w.heap.size w) m0)
  clear HA
  generalize w.drewN m0 = w1 at *
  have START := Lib.hid (Grow.empty w1 50)
  go_wp2_with fail
  generalize World.alloc w1 _ = W2 at *
  go_loopw [4, 13] (fun ov iv wr => ∃ i : Nat, i ≤ n ∧ iv = .int .i64 (i : Nat) ∧ Grow w1 50 i (fl (PL.take i)) ov wr) (fun _ iv _ => n - (intOf iv).toNat)
  case atStart => exact ⟨0, by omega, rfl, by rw [HE.out.2.2]; exact START.out⟩
  case round =>
    clear START
    obtain ⟨i, hi, rfl, hbw, A4, c4, rfl, ho4⟩ := hrel
    rename World => wr
    have HB := Lib.hid hbw
    have HO := Lib.hid ho4
    have hz := HB.out.size
    clear hbw ho4
    by_cases hlt : i < n
    · obtain ⟨b, off, rfl, hb, hc⟩ := HC.out wr (below_next B1.out HB.out) i hlt
      have HLi := Lib.hid (HL.out i hlt)
      have hm := fun w => run_float_arith (P := Try.prog) w .mul 50 .f32 _ _ _ (HM.out i hlt)
      generalize xv i = x at *
      generalize fmul x (floatOfInt .f32 (n : Int)) = y at *
      generalize hcy : capF y = cy at *
      have HAO : Hid (∀ W, Calls Try.prog 65 #[.float .f32 y] W (Quiet (.float .f32 cy) W)) := Lib.hid fun W => by
        have := atMostOne_any y W
        rw [hcy] at this
        exact this
      clear hcy
      go_wp2_with (first
        | (go_at_call 65; refine (HAO.out _).mono ?_; rintro e w3 ⟨rfl, q, rfl⟩; have HB3 := Lib.hid (below_drewN HB.out q); have HO3 := Lib.hid (own_below HO.out (below_dn (Below.refl wr.heap.size wr) q)); have hz3 := HB3.out.size; generalize wr.drewN q = w3 at *)
        | (refine wpList_append_lies _ rfl _ _ _ rfl w1.heap.size 50 i0 _ 1 4 Try.underlying46 hi0 hz0 hz1 hz2 rfl (by omega) (.slice A4 i c4) i (fl (PL.take i)) (by rfl) (HO3.out.alloc _) ⟨w3.heap.size, 0, none⟩ 1 1 [.float .f32 cy] (by rfl) (by rfl) (World.news_of_block (cs := #[.float .f32 cy]) (t := 50) (fr := (0, 0)) (heap_alloc_new w3 _)) (by simp [Value.oneCell']) (by omega) (by unfold maxLen; omega) (by omega) (by simp; omega) (w3.heap.size + 1) (by simp) ?_; intro g9 cap9 w9 hown9 hgrow hat hlt9; have G9 := Lib.hid (Grow.step HB3.out HO3.out (Below.refl _ _) hgrow hown9); clear hown9 hgrow hat))
      go_roundw
      case rel => exact ⟨i + 1, by omega, by go_num, by rw [HLi.out]; exact G9.out⟩
      case measure => simp [intOf]; omega
    · obtain rfl : i = n := by omega
      go_wp2_with fail
      go_ret2
      have ho := HO.out
      rw [HE.out.1] at ho
      exact ⟨_, _, rfl, own_base ho B1.out.size, below_next B1.out HB.out⟩
end Go.Proofs.Ytfkjnaaplhcheaa
namespace Go.Proofs.Ytfkjnaaplhcheaa
open Go Go.RowKit

theorem info_i64 : (Try.prog.info? 2).map (fun i => (i.zero, i.size, i.bytes)) = some (some (.int .i64 0), 1, 8) := by kernel_rfl
theorem own_one {w : World} {base : Nat} {e : TypeId} {x : Value} (hb : base ≤ w.heap.size) : (w.alloc (.cells #[x] e)).ownsRow base e 1 (.slice (some ⟨w.heap.size, 0, none⟩) 1 1) 1 [x] :=
  ⟨by simp, .inr ⟨w.heap.size, 1, #[x], rfl, hb, heap_alloc_new w _, Nat.le_refl _, by unfold maxLen; omega, rfl, by simp⟩⟩
/-- k of n -/
def pas : Nat → Nat → Nat
  | _, 0 => 1
  | 0, _ + 1 => 0
  | n + 1, k + 1 => pas n k + pas n (k + 1)
theorem pas_zero (n : Nat) : pas n 0 = 1 := by cases n <;> rfl
theorem pas_succ (n k : Nat) : pas (n + 1) (k + 1) = pas n k + pas n (k + 1) := rfl
theorem pas_over : ∀ (n k : Nat), n < k → pas n k = 0
  | _, 0, h => by omega
  | 0, k + 1, _ => rfl
  | n + 1, k + 1, h => by rw [pas_succ, pas_over n k (by omega), pas_over n (k + 1) (by omega)]
theorem pas_self : ∀ n, pas n n = 1
  | 0 => rfl
  | n + 1 => by rw [pas_succ, pas_self n, pas_over n (n + 1) (by omega)]
theorem pas_le : ∀ (n k : Nat), pas n k ≤ 2 ^ n
  | n, 0 => by rw [pas_zero]; exact Nat.one_le_two_pow
  | 0, k + 1 => by show 0 ≤ _; omega
  | n + 1, k + 1 => by
    rw [pas_succ, Nat.pow_succ]
    have h1 := pas_le n k
    have h2 := pas_le n (k + 1)
    omega
theorem pas_small {n : Nat} (hn : n ≤ 60) (k : Nat) : pas n k ≤ 1152921504606846976 := Nat.le_trans (pas_le n k) (Nat.le_trans (Nat.pow_le_pow_right (by omega) hn) (by decide))
/-- the first so many of a row -/
def pasTo (i j : Nat) : List Value := (List.range j).map fun q => .int .i64 (pas i q : Nat)
theorem pasTo_succ (i j : Nat) : pasTo i (j + 1) = pasTo i j ++ [.int .i64 (pas i j : Nat)] := by
  unfold pasTo
  rw [List.range_succ, List.map_append]
  rfl
theorem pasTo_len (i j : Nat) : (pasTo i j).length = j := by simp [pasTo]
theorem own_cellAt {W : World} {base g k c j : Nat} {e : TypeId} {xs : List Value} {x : Value} (ho : W.ownsRow base e 1 (.slice (some ⟨g, 0, none⟩) k c) k xs) (hj : xs[j]? = some x) : W.cell? ⟨g, j, none⟩ = some x := by
  have h1 := ho.cells (g := g) rfl j x hj
  have hadd : (⟨g, 0, none⟩ : Addr).add j = ⟨g, j, none⟩ := by unfold Addr.add; split <;> simp_all
  rw [hadd] at h1
  exact h1
theorem pasTo_at {i j q : Nat} (h : q < j) : (pasTo i j)[q]? = some (.int .i64 (pas i q : Nat)) := by
  unfold pasTo
  rw [List.getElem?_map, List.getElem?_range h]
  rfl

/-- a row that is whole, and one that grows, apart -/
structure PR (W : World) (base i j : Nat) (v u : Value) : Prop where
  a : W.ownsRow base 2 1 v (i + 1) (pasTo i (i + 1))
  b : W.ownsRow base 2 1 u j (pasTo (i + 1) j)
  ab : ∀ k, v.ownBlock = some k → u.ownBlock ≠ some k
variable {W W' W0 W3 : World} {base i j : Nat} {v u : Value}
theorem PR.keep (h : PR W base i j v u) (hb : Below W.heap.size W W') : PR W' base i j v u := ⟨own_below h.a hb, own_below h.b hb, h.ab⟩
theorem own_neP {a b : Option Nat} (h : ∀ j, a = some j → b ≠ some j) : a = none ∨ a ≠ b := by
  cases a with
  | none => exact .inl rfl
  | some j => exact .inr fun e => h j rfl e.symm
theorem PR.add {g cap : Nat} {o : Obj} (h : PR W0 base i j v u) (hgr : (W0.alloc o).grownBy W3 u.ownBlock) (ho : W3.ownsRow base 2 1 (.slice (some ⟨g, 0, none⟩) (j + 1) cap) (j + 1) (pasTo (i + 1) j ++ [.int .i64 (pas (i + 1) j : Nat)])) (hat : u.ownBlock = some g ∨ g = W0.heap.size + 1) :
    PR W3 base i (j + 1) v (.slice (some ⟨g, 0, none⟩) (j + 1) cap) := by
  have h2 := h.keep (below_al (Below.refl _ _) o)
  refine ⟨h2.a.kept hgr (own_neP fun k ha hb => h.ab k ha hb), by rw [pasTo_succ]; exact ho, fun k hk e => ?_⟩
  have e : g = k := Option.some.inj e
  subst e
  have := (h.a.lt g hk).2
  rcases hat with hat | hat
  · exact h.ab _ hk hat
  · omega
theorem PR.below {w : World} {o : Obj} (h : PR W0 base i j v u) (hw : Below w.heap.size w W0) (hb : w.heap.size ≤ base) (hgr : (W0.alloc o).grownBy W3 u.ownBlock) : Below w.heap.size w W3 :=
  (below_al hw o).grown hgr (below_al hw o).size fun j hj => by have := (h.b.lt j hj).1; omega

set_option maxRecDepth 100000 in
set_option maxHeartbeats 1600000 in
theorem choices_any (n k : Nat) (hn : n ≤ 60) (hk : k ≤ n) (w : World) : Calls Try.prog 54 #[.int .i64 n, .int .i64 k] w (fun e w' => e = .returned (.int .i64 (pas n k : Nat)) ∧ Below w.heap.size w w') := by
  obtain ⟨i0, hi0, hz0, hz1, hz2⟩ := info_parts info_i64
  have START : Hid ((w.alloc (.cells #[.int .i64 1] 2)).ownsRow w.heap.size 2 1 (.slice (some ⟨w.heap.size, 0, none⟩) 1 1) 1 (pasTo 0 1)) := Lib.hid (by
    exact own_one (Nat.le_refl _))
  have HB0 := Lib.hid (below_al (Below.refl w.heap.size w) (.cells #[.int .i64 1] 2))
  have HPS : Hid (∀ i q, i ≤ 60 → pas i q ≤ 1152921504606846976) := Lib.hid fun i q h => pas_small h q
  have HSU : Hid (∀ i q, pas (i + 1) (q + 1) = pas i q + pas i (q + 1)) := Lib.hid pas_succ
  have HSE : Hid (∀ i, pas i i = 1) := Lib.hid pas_self
  go_enter Try.func54, Try.ntmps54
  go_upto_region 2 with fail
  generalize World.alloc w _ = W1 at *
  go_wp2_with fail
  go_loopw [5, 10] (fun rv iv wr => ∃ (i g c : Nat), i ≤ n ∧ iv = .int .i64 i ∧ rv = .slice (some ⟨g, 0, none⟩) (i + 1) c ∧ wr.ownsRow w.heap.size 2 1 (.slice (some ⟨g, 0, none⟩) (i + 1) c) (i + 1) (pasTo i (i + 1)) ∧ Below w.heap.size w wr) (fun _ iv _ => n - (intOf iv).toNat)
  case atStart => exact ⟨0, w.heap.size, 1, Nat.zero_le _, rfl, rfl, START.out, HB0.out⟩
  case round =>
    clear START HB0
    obtain ⟨i, g, c, hi, rfl, rfl, ho, hb⟩ := hrel
    rename World => wr
    have O := Lib.hid ho
    have B := Lib.hid hb
    have hbs := hb.size
    clear ho hb
    by_cases hin : i < n
    · have P0 : Hid (PR (wr.alloc (.cells #[.int .i64 1] 2)) w.heap.size i 1 (.slice (some ⟨g, 0, none⟩) (i + 1) c) (.slice (some ⟨wr.heap.size, 0, none⟩) 1 1)) := Lib.hid ⟨own_below O.out (below_al (Below.refl _ _) _), by
          rw [show pasTo (i + 1) 1 = [.int .i64 1] by unfold pasTo; simp [pas_zero]]
          exact own_one hbs, fun q hq e => by
          have hq : g = q := Option.some.inj hq
          have e : wr.heap.size = q := Option.some.inj e
          have := (O.out.lt g rfl).2
          omega⟩
      have B0 := Lib.hid (below_al B.out (.cells #[.int .i64 1] 2))
      go_upto_region 5 with fail
      generalize wr.heap.size = g1 at *
      generalize World.alloc wr _ = W2 at *
      go_wp2_with fail
      go_loopw [6, 7] (fun uv jv wk => ∃ (j g2 c2 : Nat), 1 ≤ j ∧ j ≤ i + 1 ∧ jv = .int .i64 j ∧ uv = .slice (some ⟨g2, 0, none⟩) j c2 ∧ PR wk w.heap.size i j (.slice (some ⟨g, 0, none⟩) (i + 1) c) (.slice (some ⟨g2, 0, none⟩) j c2) ∧ Below w.heap.size w wk) (fun _ jv _ => n + 1 - (intOf jv).toNat)
      case atStart => exact ⟨1, g1, 1, Nat.le_refl _, by omega, rfl, rfl, P0.out, B0.out⟩
      case round =>
        clear P0 B0
        obtain ⟨j, g2, c2, hj1, hj2, rfl, rfl, hp, hb⟩ := hrel
        rename World => wk
        have P := Lib.hid hp
        have BK := Lib.hid hb
        have hbz := hb.size
        clear hp hb
        by_cases hjn : j < i + 1
        · obtain ⟨q, hq⟩ : ∃ q, j = q + 1 := ⟨j - 1, by omega⟩
          have y0 := own_cellAt P.out.a (pasTo_at (show q < i + 1 by omega))
          have y1 := own_cellAt P.out.a (pasTo_at hjn)
          have hs1 := HPS.out i q (by omega)
          have hs2 := HPS.out i j (by omega)
          have hv := HSU.out i q
          rw [← hq] at hv
          have hjq : (j : Int) - 1 = (q : Nat) := by omega
          have hqi : (q : Int) < ((i + 1 : Nat) : Int) := by omega
          have hqn : q < i + 1 := by omega
          have hqi2 : (q : Int) < (i : Int) + 1 := by omega
          have hji2 : (j : Int) < (i : Int) + 1 := by omega
          have hji : (j : Int) < ((i + 1 : Nat) : Int) := by omega
          have HOB := Lib.hid P.out.b
          have hwv : IntKind.i64.wrap ((pas i q : Int) + (pas i j : Int)) = ((pas (i + 1) j : Nat) : Int) := by
            rw [IntWalk.i64_in _ (by omega), hv]
            push_cast
            rfl
          generalize pas i q = a at *
          generalize pas i j = b at *
          have hwj : IntKind.i64.wrap ((j : Int) - 1) = (q : Int) := by rw [hjq]; exact IntWalk.i64_in _ (by omega)
          have hwq : IntKind.i64.wrap (q : Int) = (q : Int) := IntWalk.i64_in _ (by omega)
          have hq0 : (0 : Int) ≤ (q : Int) := by omega
          have HKP : Hid (∀ (W : World) (o : Obj), ((wk.drew).alloc o).grownBy W (some g2) → W.cell? ⟨g, q, none⟩ = some (.int .i64 (a : Nat)) ∧ W.cell? ⟨g, j, none⟩ = some (.int .i64 (b : Nat))) := Lib.hid fun W o hW => by
            have hne : g ≠ g2 := fun e => P.out.ab g rfl (by rw [e]; rfl)
            have h0 := keepC (below_al (below_dr (Below.refl wk.heap.size wk)) o) y0
            have h1 := keepC (below_al (below_dr (Below.refl wk.heap.size wk)) o) y1
            exact ⟨by rw [hW.cell_far _ (lt_of_cell h0) (fun e => hne (by injection e))]; exact h0, by rw [hW.cell_far _ (lt_of_cell h1) (fun e => hne (by injection e))]; exact h1⟩
          generalize hpv : pas (i + 1) j = v at *
          have HPV := Lib.hid hpv
          clear hq hv hpv hjq
          go_wp2_with fail
          go_region_held3 (fun W => W.cell? ⟨g, q, none⟩ = some (.int .i64 (a : Nat)) ∧ W.cell? ⟨g, j, none⟩ = some (.int .i64 (b : Nat)))
            (first | exact ⟨y0, y1⟩ | exact ⟨keepC (below_dr (Below.refl _ _)) y0, keepC (below_dr (Below.refl _ _)) y1⟩ | exact ⟨keepC (below_al (below_dr (Below.refl _ _)) _) y0, keepC (below_al (below_dr (Below.refl _ _)) _) y1⟩ | exact KP3)
            (first
              | (refine step_append_lies _ (by rfl) _ _ _ (by rfl) w.heap.size 2 i0 _ 1 8 Try.underlying25 hi0 hz0 hz1 hz2 rfl (by omega) (.slice (some ⟨g2, 0, none⟩) j c2) j (pasTo (i + 1) j) (by rfl) ((own_below HOB.out (below_dr (Below.refl _ _))).alloc _) ⟨wk.heap.size, 0, none⟩ 1 1 [.int .i64 (v : Nat)] (by rfl) (by rfl) (World.news_of_block (cs := #[.int .i64 (v : Nat)]) (t := 2) (fr := (0, 0)) (heap_alloc_new wk.drew _)) (by simp [Value.oneCell']) (by omega) (by unfold maxLen; omega) (by omega) (by simp; omega) (wk.heap.size + 1) (by simp) ?_; intro g9 cap9 w9 hown9 hgrow9 hat9 hlt9; rw [← HPV.out] at hown9; have P9 := Lib.hid ((P.out.keep (below_dr (Below.refl _ _))).add hgrow9 hown9 hat9); have B9 := Lib.hid ((P.out.keep (below_dr (Below.refl _ _))).below (below_dr BK.out) (Nat.le_refl _) hgrow9); have KP3 := HKP.out _ _ hgrow9; clear hgrow9 hat9 hown9))
          go_wp2_with fail
          go_roundw
          case rel => exact ⟨j + 1, g9, cap9, by omega, by omega, by go_num, rfl, P9.out, B9.out⟩
          case measure => simp [intOf]; omega
        · obtain rfl : j = i + 1 := by omega
          have HOB := Lib.hid P.out.b
          have HSEi := HSE.out (i + 1)
          have hnl : ¬ (((i + 1 : Nat) : Int) < ((i + 1 : Nat) : Int)) := by omega
          have HSUP : Hid (pasTo (i + 1) (i + 1 + 1) = pasTo (i + 1) (i + 1) ++ [.int .i64 1]) := Lib.hid (by rw [pasTo_succ, HSEi]; rfl)
          clear HSEi
          go_wp2_with (refine wpList_append_lies _ rfl _ _ _ rfl w.heap.size 2 i0 _ 1 8 Try.underlying25 hi0 hz0 hz1 hz2 rfl (by omega) (.slice (some ⟨g2, 0, none⟩) (i + 1) c2) (i + 1) (pasTo (i + 1) (i + 1)) (by rfl) (HOB.out.alloc _) ⟨wk.heap.size, 0, none⟩ 1 1 [.int .i64 1] (by rfl) (by rfl) (World.news_of_block (cs := #[.int .i64 1]) (t := 2) (fr := (0, 0)) (heap_alloc_new wk _)) (by simp [Value.oneCell']) (by omega) (by unfold maxLen; omega) (by omega) (by simp; omega) (wk.heap.size + 1) (by simp) ?_; intro g9 cap9 w9 hown9 hgrow9 hat9 hlt9; rw [← HSUP.out] at hown9; have O9 := Lib.hid hown9; have B9 := Lib.hid (P.out.below BK.out (Nat.le_refl _) hgrow9); clear hgrow9 hat9 hown9)
          go_roundw
          case rel => exact ⟨i + 1, g9, cap9, by omega, by go_num, rfl, O9.out, B9.out⟩
          case measure => simp [intOf]; omega
    · obtain rfl : n = i := by omega
      have y0 := own_cellAt O.out (pasTo_at (show k < n + 1 by omega))
      have hkn : (k : Int) < (n : Int) + 1 := by omega
      have hkn2 : k < n + 1 := by omega
      generalize hv : pas n k = v at *
      have HV := Lib.hid hv
      clear hv
      go_wp2_with fail
      go_ret
      exact ⟨by rw [HV.out]; rfl, B.out⟩

/-- spec's row behind so many rounds, where the round has come down to a place -/
def rowC (i j q : Nat) : Nat := if q < j then pas i q else pas (i + 1) q
theorem rowC_start (i : Nat) : ∀ q, rowC i (i + 2) q = pas i q := by
  intro q
  unfold rowC
  by_cases h : q < i + 2
  · rw [if_pos h]
  · rw [if_neg h, pas_over (i + 1) q (by omega), pas_over i q (by omega)]
theorem rowC_end (i : Nat) : ∀ q, rowC i 1 q = pas (i + 1) q := by
  intro q
  unfold rowC
  by_cases h : q < 1
  · obtain rfl : q = 0 := by omega
    rw [if_pos h, pas_zero, pas_zero]
  · rw [if_neg h]
theorem rowC_step (i j q : Nat) : (if q = j + 1 then rowC i (j + 2) (j + 1) + rowC i (j + 2) j else rowC i (j + 2) q) = rowC i (j + 1) q := by
  unfold rowC
  by_cases hq : q = j + 1
  · subst hq
    rw [if_pos rfl, if_pos (by omega), if_pos (by omega), if_neg (by omega), pas_succ]
    omega
  · rw [if_neg hq]
    by_cases h1 : q < j + 1
    · rw [if_pos (by omega), if_pos h1]
    · rw [if_neg (by omega), if_neg h1]
end Go.Proofs.Ytfkjnaaplhcheaa
namespace Go.Proofs.Ytfkjnaaplhcheaa
open Go Go.RowKit


/-- a number that is no NaN as a double -/
theorem wide_run (x : Nat) (h : isNan Ieee.single x = false) : ∃ r, (∀ W : World, (convert 50 51 (.float .f32 x)).run Try.prog W = .ok (.float .f64 r) W) ∧ isNan Ieee.double r = false := by
  have hs : (Try.prog.underlying 50).isSome = true := by rw [Try.underlying50]; rfl
  obtain ⟨r, hr, hr2⟩ := wide x h
  exact ⟨r, fun W => run_convert_float_float W _ _ .f32 .f64 x r hs Try.underlying51 hr, hr2⟩

theorem il_take_succ {xs : List Int} {k : Nat} (h : k < xs.length) (rest : List Value) (hr : 0 < rest.length) :
    (il (xs.take k) ++ rest).set k (.int .i64 xs[k]) = il (xs.take (k + 1)) ++ rest.tail := by
  have hl : (il (xs.take k)).length = k := by rw [il_len, List.length_take]; omega
  rw [List.set_append_right _ _ (by omega), hl, Nat.sub_self]
  cases rest with
  | nil => simp at hr
  | cons r rs =>
    simp only [List.set_cons_zero, List.tail_cons]
    rw [List.take_succ_eq_append_getElem h]
    unfold il
    rw [List.map_append, List.append_assoc]
    rfl

set_option maxHeartbeats 800000 in
theorem toInt64S_any (A : Option Addr) (xs : List Int) (c : Nat) (w : World) (hx : xs.length ≤ 1048576) (h : Rd w w.heap.size A (il xs)) :
    Calls Try.prog 36 #[.slice A xs.length c] w (fun e w' => ∃ A', e = .returned (.slice A' xs.length xs.length) ∧
      w'.ownsRow w.heap.size 2 1 (.slice A' xs.length xs.length) xs.length (il xs) ∧ Below w.heap.size w w') := by
  obtain ⟨i0, hi, hz0, hz1, hz2⟩ := info_parts info_i64
  go_enter Try.func36, Try.ntmps36
  go_wp2_with (refine wpList_make_full _ rfl (.tmp 6) (.tmp 6) 25 rfl w.heap.size 2 i0 (.int .i64 0) 1 Try.underlying25 hi hz0 hz1 .i64 .i64 xs.length xs.length xs.length rfl rfl rfl rfl (by rw [hz2]; omega) (by unfold maxLen; omega) (Nat.le_refl _) ?_; intro w1 hown1 hg1)
  have hb1 : Below w.heap.size w w1 := (Below.refl _ _).grown hg1 (Nat.le_refl _) (by simp)
  have hl1 : (il (xs.take 0) ++ List.replicate xs.length (Value.int .i64 0)) = (madeCells (Value.int .i64 0).cells (xs.length * 1)).toList := by
    rw [Nat.mul_one]
    exact (toList_madeCells_one _ _).symm
  rw [← hl1] at hown1
  have HO := Lib.hid hown1
  have HB := Lib.hid hb1
  clear hown1 hb1 hg1 hl1
  go_loopw [4] (fun i wr => ∃ k : Nat, k ≤ xs.length ∧ i = .int .i64 k ∧ Below w.heap.size w wr ∧
      wr.ownsRow w.heap.size 2 1 (.slice (some ⟨w.heap.size, 0, none⟩) xs.length xs.length) xs.length (il (xs.take k) ++ List.replicate (xs.length - k) (.int .i64 0)))
    (fun i _ => xs.length - (intOf i).toNat)
  case atStart => exact ⟨0, Nat.zero_le _, rfl, HB.out, HO.out⟩
  case round =>
    obtain ⟨k, hk, rfl, hb, hown⟩ := hrel
    by_cases hlt : k < xs.length
    · obtain ⟨b, off, rfl, hbb, hc⟩ := (h.below hb).ilAt hlt
      have hst := hown.stored k (.int .i64 xs[k])
      have hfz := hown.frozenAt k
      have hcl := hown.cellAt k (by omega)
      have hlen : k < (il (xs.take k) ++ List.replicate (xs.length - k) (Value.int .i64 0)).length := by rw [hown.1]; omega
      rw [List.getElem?_eq_getElem hlen] at hcl
      generalize (il (xs.take k) ++ List.replicate (xs.length - k) (Value.int .i64 0))[k] = u at hcl
      rw [il_take_succ hlt _ (by simp; omega)] at hst
      have hrep : (List.replicate (xs.length - k) (Value.int .i64 0)).tail = List.replicate (xs.length - (k + 1)) (Value.int .i64 0) := by
        rw [List.tail_replicate]
        congr 1
      rw [hrep] at hst
      have HST := Lib.hid hst
      have HBB := Lib.hid hb
      clear hst hown hb h hrep hlen HO HB
      go_wp2
      go_roundw
      case rel => exact ⟨k + 1, by omega, by go_num, HBB.out.grown HST.out.2 HBB.out.size (by simp), HST.out.1⟩
      case measure => simp [intOf]; omega
    · have hke : k = xs.length := by omega
      subst hke
      rw [List.take_length, Nat.sub_self, List.replicate_zero, List.append_nil] at hown
      have HOW := Lib.hid hown
      clear hown
      go_wp2
      go_ret
      exact ⟨_, rfl, HOW.out, hb⟩

set_option maxHeartbeats 800000 in
theorem eqInt64S_yes (A B : Option Addr) (xs : List Int) (c d : Nat) (w : World) (hx : xs.length ≤ 9223372036854775807) (hA : Rd w w.heap.size A (il xs)) (hB : Rd w w.heap.size B (il xs)) :
    Calls Try.prog 38 #[.slice A xs.length c, .slice B xs.length d] w (Quiet (.bool true) w) := by
  go_enter Try.func38, Try.ntmps38
  go_wp2
  go_loopw [5] (fun i wr => ∃ k m : Nat, k ≤ xs.length ∧ i = .int .i64 k ∧ wr = w.drewN m) (fun i _ => xs.length - (intOf i).toNat)
  case atStart => exact ⟨0, 0, Nat.zero_le _, rfl, rfl⟩
  case round =>
    obtain ⟨k, m, hk, rfl, rfl⟩ := hrel
    by_cases hlt : k < xs.length
    · obtain ⟨b, off, rfl, hb, hc⟩ := hA.ilAt hlt
      obtain ⟨b', off', rfl, hb', hc'⟩ := hB.ilAt hlt
      clear hA hB
      generalize xs[k] = x at *
      go_wp2
      go_quiet (fail)
      go_wp2
      go_roundw
      case rel => exact ⟨k + 1, _, by omega, by go_num, rfl⟩
      case measure => simp [intOf]; omega
    · go_wp2
      go_ret
      exact ⟨rfl, m, rfl⟩

/-- the marks that a slice of integers gets -/
def marksI (k : Int) : Nat → List Int
  | 0 => []
  | n + 1 => marksI k n ++ [k + n]
theorem marksI_len (k : Int) (n : Nat) : (marksI k n).length = n := by
  induction n with
  | zero => rfl
  | succ n ih => simp [marksI, ih]
theorem marksI_get (k : Int) (n j : Nat) (h : j < n) (hj : j < (marksI k n).length) : (marksI k n)[j] = k + j := by
  induction n with
  | zero => omega
  | succ n ih =>
    simp only [marksI]
    rcases Nat.lt_or_ge j n with h1 | h1
    · rw [List.getElem_append_left (by rw [marksI_len]; exact h1)]
      exact ih h1 _
    · have : j = n := by omega
      subst this
      rw [List.getElem_append_right (by rw [marksI_len]; omega)]
      simp [marksI_len]
theorem marksI_set (k : Int) (j : Nat) (ys : List Value) (h : j < ys.length) : (il (marksI k j) ++ ys.drop j).set j (.int .i64 (k + j)) = il (marksI k (j + 1)) ++ ys.drop (j + 1) := by
  have hl : (il (marksI k j)).length = j := by rw [il_len, marksI_len]
  rw [List.set_append_right _ _ (by omega), hl, Nat.sub_self, List.drop_eq_getElem_cons h]
  simp only [List.set_cons_zero, marksI]
  unfold il
  rw [List.map_append, List.append_assoc]
  rfl

end Go.Proofs.Ytfkjnaaplhcheaa
namespace Go.Proofs.Ytfkjnaaplhcheaa
open Go Go.RowKit Ieee

set_option maxRecDepth 100000 in
set_option maxHeartbeats 1600000 in
theorem cloneI_any (A : Option Addr) (xs : List Int) (c : Nat) (w : World) (hx : xs.length ≤ 1048576) (h1 : 1 ≤ xs.length) (h : Rd w w.heap.size A (il xs)) :
    Calls Try.prog 60 #[.slice A xs.length c] w (fun e w' => ∃ A' c', e = .returned (.slice A' xs.length c') ∧ w'.ownsRow w.heap.size 2 1 (.slice A' xs.length c') xs.length (il xs) ∧ Below w.heap.size w w') := by
  obtain ⟨b, o, rfl, hb, hc⟩ := h (by rw [il_len]; omega)
  obtain ⟨i0, hi0, hz0, hz1, hz2⟩ := info_parts info_i64
  have HC : Hid (∀ j u, (il xs)[j]? = some u → (w.alloc (.cells #[] 2)).cell? ((⟨b, o, none⟩ : Addr).add j) = some u) := Lib.hid fun j u hj => by
    obtain ⟨hlt, rfl⟩ := List.getElem?_eq_some_iff.1 hj
    rw [show ((⟨b, o, none⟩ : Addr).add j) = ⟨b, o + j, none⟩ by unfold Addr.add; split <;> simp_all]
    exact (World.cell?_alloc_lt w _ ⟨b, o + j, none⟩ hb).trans (hc j hlt)
  have HL : Hid ((il xs).length = xs.length * 1) := Lib.hid (by rw [il_len, Nat.mul_one])
  have H1 : Hid (∀ u ∈ il xs, u.oneCell' = true) := Lib.hid fun u hu => by
    unfold il at hu
    rw [List.mem_map] at hu
    obtain ⟨x, -, rfl⟩ := hu
    rfl
  have HG : Hid (Grow w 2 0 [] (.slice (some ⟨w.heap.size, 0, none⟩) 0 0) (w.alloc (.cells #[] 2))) := Lib.hid (Grow.empty _ _)
  have HO : Hid ((w.alloc (.cells #[] 2)).ownsRow w.heap.size 2 1 (.slice (some ⟨w.heap.size, 0, none⟩) 0 0) 0 []) := Lib.hid (by
    obtain ⟨-, A', c', he, ho⟩ := HG.out
    injection he with e1 e2 e3
    subst e1 e3
    exact ho)
  have HNI := fun w => Lib.run_eql_slice_nil (P := Try.prog) w 25 2 (some ⟨b, o, none⟩) xs.length c 0 0 Try.underlying25
  clear h hc
  go_enter Try.func60, Try.ntmps60
  go_wp2_with (refine wpList_append_lies _ rfl _ _ _ rfl w.heap.size 2 i0 _ 1 8 Try.underlying25 hi0 hz0 hz1 hz2 rfl (by omega) (.slice (some ⟨w.heap.size, 0, none⟩) 0 0) 0 [] (by rfl) HO.out ⟨b, o, none⟩ xs.length c (il xs) (by rfl) HL.out HC.out H1.out (by omega) (by unfold maxLen; omega) (by omega) (by simp) (w.heap.size + 1) (by simp) ?_; intro g cap w3 hown3 hgrow hat hlt3; have HX : Hid (Below w.heap.size w w3) := Lib.hid ((below_al (Below.refl _ _) _).grown hgrow (by simp) (fun j hj => by (have hj' : some w.heap.size = some j := hj); injection hj' with hj'; omega)); clear hgrow hat hlt3)
  go_ret
  rw [Nat.zero_add, List.nil_append] at hown3
  exact ⟨_, _, rfl, hown3, HX.out⟩
end Go.Proofs.Ytfkjnaaplhcheaa
namespace Go.Proofs.Ytfkjnaaplhcheaa
open Go Go.RowKit Ieee

def kT_two : List Nat := [4627730092099895296, 4627167142146473984, 4626604192193052672, 4626041242239631360, 4625478292286210048, 4624633867356078080, 4623507967449235456, 4622382067542392832, 4621256167635550208, 4619567317775286272, 4617315517961601024, 4613937818241073152, 4607182418800017408, 13830554455654793216]
def qT_two : List Nat := [0, 4585925428558828667, 4586426698778222948, 4587023449039406616, 4587745830934523688, 4588638185040256542, 4589468260265693457, 4590207312512236308, 4591215111030249286, 4592670820000712476, 4594314991293244562, 4596373779694328218, 4599676419421066581, 4607182418800017408]
def rT_two : List Nat := [4585925428558828667, 4586426698778222948, 4587023449039406616, 4587745830934523688, 4588638185040256542, 4589468260265693457, 4590207312512236308, 4591215111030249286, 4592670820000712476, 4594314991293244562, 4596373779694328218, 4599676419421066581, 4607182418800017408]
def mT_two : List Nat := [0, 0, 0, 0, 0, 0, 0, 0, 0, 0, 0, 0, 0]
theorem tab_two : ∀ i : Nat, i < 13 → floatBits .quo .f64 4607182418800017408 (kT_two.getD i 0) = some (rT_two.getD i 0) ∧ floatBits .mul .f64 0 (qT_two.getD i 0) = some (mT_two.getD i 0) ∧ floatBits .add .f64 (rT_two.getD i 0) (mT_two.getD i 0) = some (qT_two.getD (i + 1) 0) ∧ floatBits .sub .f64 (kT_two.getD i 0) 4611686018427387904 = some (kT_two.getD (i + 1) 0) ∧ FloatKind.f64.format.order (kT_two.getD i 0) 4607182418800017408 = some (if i = 12 then .eq else .gt) := by decide +kernel
theorem end_two : FloatKind.f64.format.order (kT_two.getD 13 0) 4607182418800017408 = some .lt ∧ kT_two.getD 0 0 = 4627730092099895296 ∧ qT_two.getD 0 0 = 0 ∧ qT_two.getD 13 0 = 4607182418800017408 := by decide +kernel
theorem eq_two_0 : floatBits .quo .f64 4611686018427387904 4611686018427387904 = some 4607182418800017408 := by decide +kernel
theorem eq_two_1 : floatBits .add .f64 0 4607182418800017408 = some 4607182418800017408 := by decide +kernel
theorem eq_two_2 : floatBits .sub .f64 4607182418800017408 4607182418800017408 = some 0 := by decide +kernel
theorem eq_two_3 : floatBits .add .f64 4607182418800017408 4607182418800017408 = some 4611686018427387904 := by decide +kernel
theorem eq_two_4 : floatBits .quo .f64 0 4611686018427387904 = some 0 := by decide +kernel
theorem eq_two_5 : floatBits .mul .f64 0 0 = some 0 := by decide +kernel
theorem eq_two_6 : floatBits .mul .f64 0 4607182418800017408 = some 0 := by decide +kernel
theorem eq_two_7 : floatBits .mul .f64 4611686018427387904 0 = some 0 := by decide +kernel
theorem eq_two_8 : floatBits .mul .f64 4607182418800017408 4604418534313441775 = some 4604418534313441775 := by decide +kernel
theorem eq_two_9 : floatBits .add .f64 0 4604418534313441775 = some 4604418534313441775 := by decide +kernel
theorem ord_two_0 : FloatKind.f64.format.order 4611686018427387904 4604930618986332160 = some .gt := by decide +kernel
theorem ord_two_1 : FloatKind.f64.format.order 4607182418800017408 4604930618986332160 = some .gt := by decide +kernel
theorem ord_two_2 : FloatKind.f64.format.order 4611686018427387904 4609434218613702656 = some .gt := by decide +kernel
theorem ord_two_3 : FloatKind.f64.format.order 4607182418800017408 4609434218613702656 = some .lt := by decide +kernel
def log_two : Nat := 4604418534313441775
set_option maxRecDepth 100000 in
set_option maxHeartbeats 1600000 in
theorem logarithm_two (w : World) : Calls Try.prog 113 #[.float .f64 4611686018427387904] w (fun e w' => e = .returned (.float .f64 log_two) ∧ w = w') := by
  have r0 := fun w => run_float_arith (P := Try.prog) w .quo 51 .f64 _ _ _ eq_two_0
  have r1 := fun w => run_float_arith (P := Try.prog) w .add 51 .f64 _ _ _ eq_two_1
  have r2 := fun w => run_float_arith (P := Try.prog) w .sub 51 .f64 _ _ _ eq_two_2
  have r3 := fun w => run_float_arith (P := Try.prog) w .add 51 .f64 _ _ _ eq_two_3
  have r4 := fun w => run_float_arith (P := Try.prog) w .quo 51 .f64 _ _ _ eq_two_4
  have r5 := fun w => run_float_arith (P := Try.prog) w .mul 51 .f64 _ _ _ eq_two_5
  have r6 := fun w => run_float_arith (P := Try.prog) w .mul 51 .f64 _ _ _ eq_two_6
  have r7 := fun w => run_float_arith (P := Try.prog) w .mul 51 .f64 _ _ _ eq_two_7
  have r8 := fun w => run_float_arith (P := Try.prog) w .mul 51 .f64 _ _ _ eq_two_8
  have r9 := fun w => run_float_arith (P := Try.prog) w .add 51 .f64 _ _ _ eq_two_9
  have o0 := ord_two_0
  have o1 := ord_two_1
  have o2 := ord_two_2
  have o3 := ord_two_3
  unfold log_two
  go_enter Try.func113, Try.ntmps113
  go_wp2_with fail
  go_loopg [0, 3] 0 (fun k xv ev wr => (xv = .float .f64 4611686018427387904 ∧ ev = .float .f64 0) ∧ w = wr)
  case atStart => exact ⟨⟨rfl, rfl⟩, rfl⟩
  case round =>
    obtain ⟨⟨rfl, rfl⟩, rfl⟩ := hrel
    go_wp2_with fail
    go_loopg [0, 3] 1 (fun k xv ev wr => ((k = 1 ∧ xv = .float .f64 4611686018427387904 ∧ ev = .float .f64 0) ∨ (k = 0 ∧ xv = .float .f64 4607182418800017408 ∧ ev = .float .f64 4607182418800017408)) ∧ w = wr)
    case atStart => exact ⟨.inl ⟨rfl, rfl, rfl⟩, rfl⟩
    case round =>
      obtain ⟨⟨rfl, rfl, rfl⟩ | ⟨rfl, rfl, rfl⟩, rfl⟩ := hrel
      · go_wp2_with fail
        go_roundg 0
        case rel => exact ⟨.inr ⟨rfl, rfl, rfl⟩, rfl⟩
        case measure => exact Nat.zero_lt_one
      · go_wp2_with fail
        go_loopg [6, 7] 13 (fun k qv kv wr => ∃ i : Nat, i + k = 13 ∧ qv = .float .f64 (qT_two.getD i 0) ∧ kv = .float .f64 (kT_two.getD i 0) ∧ w = wr)
        case atStart => exact ⟨0, rfl, rfl, rfl, rfl⟩
        case round =>
          obtain ⟨i, hi, rfl, rfl, rfl⟩ := hrel
          by_cases hlt : i < 13
          · obtain ⟨t1, t2, t3, t4, t5⟩ := tab_two i hlt
            obtain ⟨k1, hk1⟩ : ∃ k1, gk = k1 + 1 := ⟨gk - 1, by omega⟩
            subst hk1
            have HI : Hid (i + 1 + k1 = 13) := Lib.hid (by omega)
            generalize hqb : qT_two.getD (i + 1) 0 = qb at *
            generalize hkb : kT_two.getD (i + 1) 0 = kb at *
            have HQB := Lib.hid hqb
            have HKB := Lib.hid hkb
            clear hqb hkb
            generalize qT_two.getD i 0 = qa at *
            generalize kT_two.getD i 0 = ka at *
            generalize rT_two.getD i 0 = ra at *
            generalize mT_two.getD i 0 = ma at *
            have s1 := fun w => run_float_arith (P := Try.prog) w .quo 51 .f64 _ _ _ t1
            have s2 := fun w => run_float_arith (P := Try.prog) w .mul 51 .f64 _ _ _ t2
            have s3 := fun w => run_float_arith (P := Try.prog) w .add 51 .f64 _ _ _ t3
            have s4 := fun w => run_float_arith (P := Try.prog) w .sub 51 .f64 _ _ _ t4
            have hge : (FloatKind.f64.format.order ka 4607182418800017408 == some .gt || FloatKind.f64.format.order ka 4607182418800017408 == some .eq) = true := by rw [t5]; split <;> rfl
            clear t1 t2 t3 t4 t5 hi hlt
            go_wp2_with fail
            go_roundg k1
            case rel => exact ⟨i + 1, HI.out, by rw [HQB.out], by rw [HKB.out], rfl⟩
            case measure => exact Nat.lt_succ_self _
          · obtain rfl : i = 13 := by omega
            obtain ⟨z1, z2, z3, z4⟩ := end_two
            rw [z4]
            generalize kT_two.getD 13 0 = kz at *
            clear z2 z3 z4 hi hlt
            go_wp2_with fail
            go_ret
            exact ⟨rfl, rfl⟩
def kT_down : List Nat := [4627730092099895296, 4627167142146473984, 4626604192193052672, 4626041242239631360, 4625478292286210048, 4624633867356078080, 4623507967449235456, 4622382067542392832, 4621256167635550208, 4619567317775286272, 4617315517961601024, 4613937818241073152, 4607182418800017408, 13830554455654793216]
def qT_down : List Nat := [0, 4585925428558828667, 4586544343853755243, 4587153725041906408, 4587888543290343553, 4588795893689925462, 4589556373269966763, 4590307148300124376, 4591330268760659499, 4592806857744788378, 4594398077402893562, 4596480515575576509, 4599751036735142232, 4607213436239097095]
def rT_down : List Nat := [4585925428558828667, 4586426698778222948, 4587023449039406616, 4587745830934523688, 4588638185040256542, 4589468260265693457, 4590207312512236308, 4591215111030249286, 4592670820000712476, 4594314991293244562, 4596373779694328218, 4599676419421066581, 4607182418800017408]
def mT_down : List Nat := [0, 4560668508105638326, 4561476887431558138, 4562209618285177622, 4562689499688347394, 4563282055172433557, 4564032313323778322, 4565012917645195581, 4566349238519799703, 4567463933543848468, 4568977518926203094, 4571425530254524587, 4574590486558082709]
theorem tab_down : ∀ i : Nat, i < 13 → floatBits .quo .f64 4607182418800017408 (kT_down.getD i 0) = some (rT_down.getD i 0) ∧ floatBits .mul .f64 4581539475185038678 (qT_down.getD i 0) = some (mT_down.getD i 0) ∧ floatBits .add .f64 (rT_down.getD i 0) (mT_down.getD i 0) = some (qT_down.getD (i + 1) 0) ∧ floatBits .sub .f64 (kT_down.getD i 0) 4611686018427387904 = some (kT_down.getD (i + 1) 0) ∧ FloatKind.f64.format.order (kT_down.getD i 0) 4607182418800017408 = some (if i = 12 then .eq else .gt) := by decide +kernel
theorem end_down : FloatKind.f64.format.order (kT_down.getD 13 0) 4607182418800017408 = some .lt ∧ kT_down.getD 0 0 = 4627730092099895296 ∧ qT_down.getD 0 0 = 0 ∧ qT_down.getD 13 0 = 4607213436239097095 := by decide +kernel
theorem eq_down_0 : floatBits .mul .f64 4604180019227394048 4611686018427387904 = some 4608683618854764544 := by decide +kernel
theorem eq_down_1 : floatBits .sub .f64 0 4607182418800017408 = some 13830554455654793216 := by decide +kernel
theorem eq_down_2 : floatBits .sub .f64 4608683618854764544 4607182418800017408 = some 4599676420136894464 := by decide +kernel
theorem eq_down_3 : floatBits .add .f64 4608683618854764544 4607182418800017408 = some 4612436618454761472 := by decide +kernel
theorem eq_down_4 : floatBits .quo .f64 4599676420136894464 4612436618454761472 = some 4594314991819158916 := by decide +kernel
theorem eq_down_5 : floatBits .mul .f64 4594314991819158916 4594314991819158916 = some 4581539475185038678 := by decide +kernel
theorem eq_down_6 : floatBits .mul .f64 4594314991819158916 4607213436239097095 = some 4594350440324586379 := by decide +kernel
theorem eq_down_7 : floatBits .mul .f64 4611686018427387904 4594350440324586379 = some 4598854039951956875 := by decide +kernel
theorem eq_down_8 : floatBits .mul .f64 13830554455654793216 4604418534313441775 = some 13827790571168217583 := by decide +kernel
theorem eq_down_9 : floatBits .add .f64 4598854039951956875 13827790571168217583 = some 13824347866274961491 := by decide +kernel
theorem ord_down_0 : FloatKind.f64.format.order 4604180019227394048 4604930618986332160 = some .lt := by decide +kernel
theorem ord_down_1 : FloatKind.f64.format.order 4608683618854764544 4604930618986332160 = some .gt := by decide +kernel
theorem ord_down_2 : FloatKind.f64.format.order 4604180019227394048 4609434218613702656 = some .lt := by decide +kernel
theorem ord_down_3 : FloatKind.f64.format.order 4608683618854764544 4609434218613702656 = some .lt := by decide +kernel
def log_down : Nat := 13824347866274961491
set_option maxRecDepth 100000 in
set_option maxHeartbeats 1600000 in
theorem logarithm_down (w : World) : Calls Try.prog 113 #[.float .f64 4604180019227394048] w (fun e w' => e = .returned (.float .f64 log_down) ∧ w = w') := by
  have r0 := fun w => run_float_arith (P := Try.prog) w .mul 51 .f64 _ _ _ eq_down_0
  have r1 := fun w => run_float_arith (P := Try.prog) w .sub 51 .f64 _ _ _ eq_down_1
  have r2 := fun w => run_float_arith (P := Try.prog) w .sub 51 .f64 _ _ _ eq_down_2
  have r3 := fun w => run_float_arith (P := Try.prog) w .add 51 .f64 _ _ _ eq_down_3
  have r4 := fun w => run_float_arith (P := Try.prog) w .quo 51 .f64 _ _ _ eq_down_4
  have r5 := fun w => run_float_arith (P := Try.prog) w .mul 51 .f64 _ _ _ eq_down_5
  have r6 := fun w => run_float_arith (P := Try.prog) w .mul 51 .f64 _ _ _ eq_down_6
  have r7 := fun w => run_float_arith (P := Try.prog) w .mul 51 .f64 _ _ _ eq_down_7
  have r8 := fun w => run_float_arith (P := Try.prog) w .mul 51 .f64 _ _ _ eq_down_8
  have r9 := fun w => run_float_arith (P := Try.prog) w .add 51 .f64 _ _ _ eq_down_9
  have o0 := ord_down_0
  have o1 := ord_down_1
  have o2 := ord_down_2
  have o3 := ord_down_3
  unfold log_down
  go_enter Try.func113, Try.ntmps113
  go_wp2_with fail
  go_loopg [0, 3] 1 (fun k xv ev wr => ((k = 1 ∧ xv = .float .f64 4604180019227394048 ∧ ev = .float .f64 0) ∨ (k = 0 ∧ xv = .float .f64 4608683618854764544 ∧ ev = .float .f64 13830554455654793216)) ∧ w = wr)
  case atStart => exact ⟨.inl ⟨rfl, rfl, rfl⟩, rfl⟩
  case round =>
    obtain ⟨⟨rfl, rfl, rfl⟩ | ⟨rfl, rfl, rfl⟩, rfl⟩ := hrel
    · go_wp2_with fail
      go_roundg 0
      case rel => exact ⟨.inr ⟨rfl, rfl, rfl⟩, rfl⟩
      case measure => exact Nat.zero_lt_one
    · go_wp2_with fail
      go_loopg [0, 3] 0 (fun k xv ev wr => (xv = .float .f64 4608683618854764544 ∧ ev = .float .f64 13830554455654793216) ∧ w = wr)
      case atStart => exact ⟨⟨rfl, rfl⟩, rfl⟩
      case round =>
        obtain ⟨⟨rfl, rfl⟩, rfl⟩ := hrel
        go_wp2_with fail
        go_loopg [6, 7] 13 (fun k qv kv wr => ∃ i : Nat, i + k = 13 ∧ qv = .float .f64 (qT_down.getD i 0) ∧ kv = .float .f64 (kT_down.getD i 0) ∧ w = wr)
        case atStart => exact ⟨0, rfl, rfl, rfl, rfl⟩
        case round =>
          obtain ⟨i, hi, rfl, rfl, rfl⟩ := hrel
          by_cases hlt : i < 13
          · obtain ⟨t1, t2, t3, t4, t5⟩ := tab_down i hlt
            obtain ⟨k1, hk1⟩ : ∃ k1, gk = k1 + 1 := ⟨gk - 1, by omega⟩
            subst hk1
            have HI : Hid (i + 1 + k1 = 13) := Lib.hid (by omega)
            generalize hqb : qT_down.getD (i + 1) 0 = qb at *
            generalize hkb : kT_down.getD (i + 1) 0 = kb at *
            have HQB := Lib.hid hqb
            have HKB := Lib.hid hkb
            clear hqb hkb
            generalize qT_down.getD i 0 = qa at *
            generalize kT_down.getD i 0 = ka at *
            generalize rT_down.getD i 0 = ra at *
            generalize mT_down.getD i 0 = ma at *
            have s1 := fun w => run_float_arith (P := Try.prog) w .quo 51 .f64 _ _ _ t1
            have s2 := fun w => run_float_arith (P := Try.prog) w .mul 51 .f64 _ _ _ t2
            have s3 := fun w => run_float_arith (P := Try.prog) w .add 51 .f64 _ _ _ t3
            have s4 := fun w => run_float_arith (P := Try.prog) w .sub 51 .f64 _ _ _ t4
            have hge : (FloatKind.f64.format.order ka 4607182418800017408 == some .gt || FloatKind.f64.format.order ka 4607182418800017408 == some .eq) = true := by rw [t5]; split <;> rfl
            clear t1 t2 t3 t4 t5 hi hlt
            go_wp2_with fail
            go_roundg k1
            case rel => exact ⟨i + 1, HI.out, by rw [HQB.out], by rw [HKB.out], rfl⟩
            case measure => exact Nat.lt_succ_self _
          · obtain rfl : i = 13 := by omega
            obtain ⟨z1, z2, z3, z4⟩ := end_down
            rw [z4]
            generalize kT_down.getD 13 0 = kz at *
            clear z2 z3 z4 hi hlt
            go_wp2_with fail
            go_ret
            exact ⟨rfl, rfl⟩
theorem ln_two : floatToFloatBits .f32 1073741824 .f64 = some 4611686018427387904 ∧ floatToFloatBits .f64 4604418534313441775 .f32 = some 1060205080 ∧ FloatKind.f32.format.order 1073741824 0 = some .gt ∧ FloatKind.f32.format.order 1073741824 1073741824 = some .eq ∧ isFin single 1073741824 = true := by decide +kernel
set_option maxRecDepth 100000 in
theorem LogNumber_two (w : World) : Calls Try.prog 78 #[.float .f32 1073741824] w (fun e w' => e = .returned (.float .f32 1060205080) ∧ Below w.heap.size w w') := by
  obtain ⟨h1, h2, h3, h4, h5⟩ := ln_two
  have HF : Hid (∀ w, Calls Try.prog 104 #[.float .f32 1073741824] w (Quiet (.bool true) w)) := Lib.hid fun w => by
    have := IsFinite_any 1073741824 w
    rw [h5] at this
    exact this
  have HL : Hid (∀ w, Calls Try.prog 113 #[.float .f64 4611686018427387904] w (fun e w' => e = .returned (.float .f64 4604418534313441775) ∧ w = w')) := Lib.hid fun w => logarithm_two w
  have hsx : (Try.prog.underlying 50).isSome = true := by kernel_rfl
  have hsy : (Try.prog.underlying 51).isSome = true := by kernel_rfl
  have c1 := fun w => run_convert_float_float (P := Try.prog) w 50 51 .f32 .f64 1073741824 _ hsx Try.underlying51 h1
  have c2 := fun w => run_convert_float_float (P := Try.prog) w 51 50 .f64 .f32 4604418534313441775 _ hsy Try.underlying50 h2
  clear h1 h2 h5
  go_enter Try.func78, Try.ntmps78
  go_wp2_with (first
    | (go_at_call 104; refine (HF.out _).mono ?_; rintro e w1 ⟨rfl, m0, rfl⟩)
    | (go_at_call 113; refine (HL.out _).mono ?_; rintro e w2 ⟨rfl, rfl⟩))
  go_ret
  exact ⟨rfl, below_dn (Below.refl w.heap.size w) _⟩
theorem ln_down : floatToFloatBits .f32 1059760811 .f64 = some 4604180019227394048 ∧ floatToFloatBits .f64 13824347866274961491 .f32 = some 3201276190 ∧ FloatKind.f32.format.order 1059760811 0 = some .gt ∧ FloatKind.f32.format.order 1059760811 1059760811 = some .eq ∧ isFin single 1059760811 = true := by decide +kernel
set_option maxRecDepth 100000 in
theorem LogNumber_down (w : World) : Calls Try.prog 78 #[.float .f32 1059760811] w (fun e w' => e = .returned (.float .f32 3201276190) ∧ Below w.heap.size w w') := by
  obtain ⟨h1, h2, h3, h4, h5⟩ := ln_down
  have HF : Hid (∀ w, Calls Try.prog 104 #[.float .f32 1059760811] w (Quiet (.bool true) w)) := Lib.hid fun w => by
    have := IsFinite_any 1059760811 w
    rw [h5] at this
    exact this
  have HL : Hid (∀ w, Calls Try.prog 113 #[.float .f64 4604180019227394048] w (fun e w' => e = .returned (.float .f64 13824347866274961491) ∧ w = w')) := Lib.hid fun w => logarithm_down w
  have hsx : (Try.prog.underlying 50).isSome = true := by kernel_rfl
  have hsy : (Try.prog.underlying 51).isSome = true := by kernel_rfl
  have c1 := fun w => run_convert_float_float (P := Try.prog) w 50 51 .f32 .f64 1059760811 _ hsx Try.underlying51 h1
  have c2 := fun w => run_convert_float_float (P := Try.prog) w 51 50 .f64 .f32 13824347866274961491 _ hsy Try.underlying50 h2
  clear h1 h2 h5
  go_enter Try.func78, Try.ntmps78
  go_wp2_with (first
    | (go_at_call 104; refine (HF.out _).mono ?_; rintro e w1 ⟨rfl, m0, rfl⟩)
    | (go_at_call 113; refine (HL.out _).mono ?_; rintro e w2 ⟨rfl, rfl⟩))
  go_ret
  exact ⟨rfl, below_dn (Below.refl w.heap.size w) _⟩
end Go.Proofs.Ytfkjnaaplhcheaa
namespace Go.Proofs.Ytfkjnaaplhcheaa
open Go

section
variable {F : Fence} {n : Nat} {P : Program} {ops : Array Oper} {md : Region.Mode} {C : World → Prop}
/-- no operation of a list defers a call -/
def noDefer (o : Oper) : Bool := match o.op with | .defer _ => false | _ => true
theorem noDefer_ne {o : Oper} (h : noDefer o = true) (c : Go.Call) : o.op ≠ .defer c := by
  intro e
  unfold noDefer at h
  rw [e] at h
  cases h
theorem wpIn_of_quiet_r {o : Oper} {a : Act} {K : Act → Prop} {K' : Act → World → Prop} {Q' : Exit → Act → World → Prop} {w : World} (hd : noDefer o = true) (hw : C w) (h : ∀ a w', C w' → K a → K' a w')
    (ha : o.askedIn F P a C) (hh : o.quietIn F n P a C K) : o.wpIn F n P a w K' Q' := by
  obtain ⟨v, h1, h2⟩ := hh
  have h3 := h1 w hw
  unfold Oper.quietAtIn at h3
  unfold Oper.wpIn
  refine ⟨ha w hw, ?_⟩
  rw [Oper.semAt_eq _ _ _ (noDefer_ne hd)]
  generalize (execOp a.eval o).run P w = r at *
  cases r with
  | ok x w' =>
    cases x <;> simp only [Oper.quietUponIn] at h3 <;> simp only [Oper.uponIn]
    case value u =>
      obtain ⟨e1, e2⟩ := h3
      rw [e1, e2]
      exact h _ _ hw h2
    case skip =>
      obtain ⟨e1, e2⟩ := h3
      rw [e1, ← e2]
      exact h _ _ hw h2
    case enter f args =>
      obtain ⟨e1, hd, hc⟩ := h3
      rw [e1]
      exact ⟨hd, hc.mono fun e w'' ⟨he, hw''⟩ => by subst he; exact h _ _ hw'' h2⟩
  | halt x w' => simp only [Oper.quietUponIn] at h3
theorem wpOpIn_of_q_r {i : Nat} {a : Act} {K : Act → Prop} {K' : Act → World → Prop} {Q' : Exit → Act → World → Prop} {w : World} (hd : ∀ (i : Nat) (o : Oper), ops[i]? = some o → noDefer o = true) (hC : C w) (h : ∀ a w', C w' → K a → K' a w')
    (hh : qOpIn F n P ops C i K a) : wpOpIn F n P ops Q' i K' a w := by
  unfold qOpIn at hh
  unfold wpOpIn
  split
  · rename_i ho; simp only [ho] at hh; exact h _ _ hC hh
  · rename_i o ho
    simp only [ho] at hh
    obtain ⟨ha, hh⟩ := hh
    split
    · rename_i hw; simp only [hw, if_true] at hh; exact wpIn_of_quiet_r (hd i o ho) hC h ha hh
    · rename_i hw; simp only [hw] at hh; exact ⟨ha w hC, h _ _ hC hh⟩
theorem wpAnyIn_of_q_r {Q : Act → Prop} {Q' : Exit → Act → World → Prop} (hd : ∀ (i : Nat) (o : Oper), ops[i]? = some o → noDefer o = true) (hQ : ∀ a w, C w → Q a → Q' .normal a w) : ∀ (fuel : Nat) (listed : Array Bool) (a : Act) (w : World), C w →
    wpAnyQIn F n P md ops C Q fuel listed a → wpAnyIn F n P md ops Q' fuel listed a w
  | 0, _, _, _, hw, h => ⟨h.1, hQ _ _ hw h.2⟩
  | fuel + 1, _, _, _, hw, h => ⟨fun h0 => hQ _ _ hw (h.1 h0), fun i hi => wpOpIn_of_q_r hd hw (fun a' w' hw' => wpAnyIn_of_q_r hd hQ fuel _ a' w' hw') (h.2 i hi)⟩
theorem region_quiet_r {id : Nat} {Q : Exit → Act → World → Prop} {a : Act} {w : World} {l : List Oper} (hd : l.all noDefer = true) (hm : P.follows .mixedOrders = true) (hB : Region.lexB .any l.toArray = true)
    (h : wpQuietIn F n P l.toArray (fun w' => ∃ n, w' = w.drewN n) (fun a' => ∀ w', (∃ n, w' = w.drewN n) → Q .normal a' w') l a) : (Code.region id l.toArray true).wpIn F n P Q a w := by
  simp only [Region.lexB, Bool.and_eq_true] at hB
  have hd' : ∀ (i : Nat) (o : Oper), l.toArray[i]? = some o → noDefer o = true := fun i o ho => by
    refine List.all_eq_true.1 hd o ?_
    have : l[i]? = some o := by simpa using ho
    exact List.mem_of_getElem? this
  refine wpIn_region_any hm (wpAnyIn_of_q_r (C := fun w' => ∃ n, w' = w.drewN n) (Q := fun a' => ∀ w', (∃ n, w' = w.drewN n) → Q .normal a' w') hd' (fun _ w' hw' h => h w' hw') _ _ _ _ ⟨1, rfl⟩ ?_)
  have := wpAnyQIn_lex (F := F) (n := n) (C := fun w' => ∃ n, w' = w.drewN n) (md := .any) hB.1 l 0 (Array.replicate l.toArray.size false) a (by simp) (by simpa using hB.2) h
  simpa using this
end
end Go.Proofs.Ytfkjnaaplhcheaa
