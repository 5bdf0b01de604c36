/-
  From a walk to the given statement: arguments opened, and read again behind the call because nothing that was there has changed.
  Arguments opened: lists of single numbers, of integers, chains, seeds.
  The source of choices (spec.l00Src): next, pick, l00From; seeds that are drawn from it are valid.
  What the law of the tails draws: numbers and samples out of bytes, seeds; impl.Choices.
  FnMany's draws: shares k/64 and bits out of an input.
  A row of integers that is written in place; an order that is drawn (plain); impl.drawnList.
  FnMany's draws: bits out of an input.
  impl.areBits of a list of 1 to 256 bits.
-/
import Derived.Test.YtfkjnaaplhcheaaRows
import Derived.Test.YtfkjnaaplhcheaaMem
import Derived.WalkKit
import Derived.ProofKit
import Derived.OpenShut
import Derived.Below
import Derived.Deep.Slices
import Derived.Lib.SmallJoins
import Derived.WalkLawsBesides
import Derived.Test.YtfkjnaaplhcheaaClosed
import Derived.Test.YtfkjnaaplhcheaaMono
import Derived.Test.YtfkjnaaplhcheaaFa
import Derived.Test.YtfkjnaaplhcheaaBt
import Derived.RegionTactic
import Derived.BigRegion
import Derived.Laws.Bits64
import Derived.Laws.Bits64b
import Derived.Deep.DeepCutAuto
import Derived.Test.YtfkjnaaplhcheaaQr
import Derived.Deep.OwnRows
namespace Go.Proofs.Ytfkjnaaplhcheaa
open Go.ChangeShapes Go.WideShapes Go.ChangeAt Go.RowKit Go.Joins

theorem own : ownKnob Try.prog.godebug = none := by kernel_rfl


section
variable {H : Type} {enc : TypeId × Value → H} {P : Program}
theorem post_of_below {f : Func} {s : ChangeSpec} {apart fresh handsOn again : Bool} {W W' : World} {args : Array Value} {v : Value} {ds gs : List (DataW H)} {before pa pv : List MemPlace}
    (hW : DataW.Whole enc P f.params.toList s.vars apart W args.toList ds gs before)
    (hres : ∀ (b : Nat) (sp : Nat → Bool) (hd : Bool), DataW.TrodAll enc P W' b sp hd f.resultTypes.toList (v.resultList f.resultTypes.size) (s.fn H (ds ++ gs)).results [])
    (hargs : ∀ sp : Nat → Bool, (∀ p ∈ before, sp p.block = true) → DataW.TrodAll enc P W' 0 sp true f.params.toList args.toList (s.fn H (ds ++ gs)).args pa)
    (hvars : ∀ sp : Nat → Bool, (∀ p ∈ before, sp p.block = true) → DataW.TrodVars enc P W' sp s.vars (s.fn H (ds ++ gs)).vars pv)
    (hps : before = pa ++ pv) (hb : Below W.heap.size W W')
    (hok : ∀ (j : Nat) (t : TypeId) (r : Value), f.resultTypes[j]? = some t → (v.resultList f.resultTypes.size)[j]? = some r → Value.okWide P W' .any 0 t r) :
    s.post enc P f apart fresh handsOn again W args v W' := by
  have hlt : ∀ p ∈ before, p.block < W.heap.size := fun p hp => hW.lt p hp
  have hold : ∀ p ∈ before, (fun b => decide (b < W.heap.size)) p.block = true := fun p hp => by simpa using hlt p hp
  refine ⟨ds, gs, before, [], pa, pv, hW, hres _ _ _, hargs _ hold, hvars _ hold, World.keptBut_mono (fun p hp => ⟨hp, ?_⟩) (hb.frame (· ∈ before)), fun _ => ?_⟩
  · rw [hps, List.mem_append] at hp
    exact Or.inr hp
  · obtain ⟨_, _, _, _, _, hz, hn⟩ := hW
    refine ⟨hok, _, _, ([] ++ pa) ++ pv, ⟨[] ++ pa, pv, trodAll_append (hargs _ (fun _ _ => rfl)) (hres _ _ _), hvars _ (fun _ _ => rfl), rfl, ?_, ?_⟩, ?_⟩
    · intro b off hp
      have hin : MemPlace.cell b off ∈ before := by rw [hps]; simpa using hp
      rw [hb.frozen (hlt _ hin)]
      exact hz b off hin
    · intro ha
      have := hn ha
      rw [hps] at this
      simpa using this
    · intro p hp _
      rw [hps]
      simpa using hp

/-- every argument reads as it did -/
theorem trodAll_below {W W' : World} (hl : laidOutB P = true) (hb : Below W.heap.size W W') {sp : Nat → Bool} :
    ∀ (ts : List TypeId) (vs : List Value) (ds : List (DataW H)) (ps : List MemPlace), (ts.all fun t => P.readableRec t && decide (t < P.types.size)) = true →
      DataW.TrodAll enc P W 0 (fun _ => true) true ts vs ds ps → (∀ p ∈ ps, p.block < W.heap.size) → (∀ p ∈ ps, sp p.block = true) → DataW.TrodAll enc P W' 0 sp true ts vs ds ps
  | [], vs, ds, ps, _, h, _, _ => by
    obtain ⟨rfl, rfl, rfl⟩ := trodAll_nil h
    exact trodAll_mk0
  | t :: ts, vs, ds, ps, hr, h, hlt, hsp => by
    obtain ⟨v, vs', d, ds', p, q, rfl, rfl, rfl, h0, h1⟩ := trodAll_cons h
    simp only [List.all_cons, Bool.and_eq_true, decide_eq_true_eq] at hr
    obtain ⟨ht, hr'⟩ := hr
    refine trodAll_cons_mk (WideElems.Trod_stays hl ht.1 ht.2 h0 (fun x hx => hb.same (hlt x (by simp [hx]))) (fun x hx => hsp x (by simp [hx]))) ?_
    exact trodAll_below hl hb ts vs' ds' q hr' h1 (fun x hx => hlt x (by simp [hx])) (fun x hx => hsp x (by simp [hx]))

/-- a slice whose elements are one cell each, read by 'g' -/
theorem open_row {W : World} {t e : TypeId} {fuel : Nat} {v : Value} {x : DataW H × List MemPlace} {α : Type} (mk : α → Value) (ok : α → Prop) (ht : P.underlying t = some (.slice e)) (hC : P.cellsOf e = 1)
    (hg : ∀ (n : Nat) (cs : List Value) (y : DataW H × List MemPlace), DataW.trod enc P W 0 (fun _ => true) true n e cs = some y → ∃ a, cs = [mk a] ∧ ok a)
    (h : DataW.trod enc P W 0 (fun _ => true) true fuel t [v] = some x) :
    ∃ (A : Option Addr) (xs : List α) (c : Nat), v = .slice A xs.length c ∧ xs.length ≤ c ∧ c ≤ maxLen ∧ Rd W W.heap.size A (xs.map mk) ∧ ∀ a ∈ xs, ok a := by
  rcases Deep.open_slice ht h with ⟨hc, _⟩ | ⟨a, len, cap, m, n, D, Pl, hcs, _, hl, hm, hmm, _, hi⟩
  · obtain rfl : v = .slice none 0 0 := by simpa using hc
    exact ⟨none, [], 0, rfl, Nat.le_refl _, Nat.zero_le _, Rd.nil, by simp⟩
  · obtain rfl : v = .slice (some a) len cap := by simpa using hcs
    rw [if_pos rfl] at hmm
    subst hmm
    have each : ∀ i, i < len → ∃ b, W.cell? (a.add i) = some (mk b) ∧ ok b := fun i hil => by
      obtain ⟨cs', hc', ht'⟩ := hi i (by omega)
      obtain ⟨b, rfl, hb⟩ := hg n cs' _ ht'
      obtain ⟨_, _, hat⟩ := World.cells?_some hc'
      have := hat 0 (by omega)
      rw [hC, Nat.mul_one, Deep.add_add, Nat.add_zero] at this
      exact ⟨b, this.trans rfl, hb⟩
    have pick : ∀ k, k ≤ len → ∃ xs : List α, xs.length = k ∧ ∀ i (hx : i < xs.length), W.cell? (a.add i) = some (mk xs[i]) ∧ ok xs[i] := by
      intro k
      induction k with
      | zero => exact fun _ => ⟨[], rfl, fun i hx => absurd hx (by simp)⟩
      | succ k ih =>
        intro hk
        obtain ⟨xs, hx1, hx2⟩ := ih (by omega)
        obtain ⟨b, hb1, hb2⟩ := each k (by omega)
        refine ⟨xs ++ [b], by simp [hx1], fun i hx => ?_⟩
        rcases Nat.lt_or_ge i xs.length with h1 | h1
        · rw [List.getElem_append_left h1]
          exact hx2 i h1
        · have hik : i = k := by simp at hx; omega
          subst hik
          rw [List.getElem_append_right h1]
          simpa using ⟨hb1, hb2⟩
    obtain ⟨xs, hx1, hx2⟩ := pick len (Nat.le_refl _)
    refine ⟨some a, xs, m, by rw [hx1], by omega, hm, fun h0 => ?_, fun b hb => ?_⟩
    · have h0' : 0 < xs.length := by simpa using h0
      have hc0 := (hx2 0 h0').1
      have hsp : (a.add 0).spot = none := World.cell?_spot hc0
      obtain ⟨blk, off, spot⟩ := a
      have hspot : spot = none := by simpa [Addr.add] using hsp
      subst hspot
      refine ⟨blk, off, rfl, ?_, fun k hk => ?_⟩
      · have := lt_of_cell hc0
        simpa [Addr.add] using this
      · have hk' : k < xs.length := by simpa using hk
        have := (hx2 k hk').1
        simp only [List.getElem_map]
        rw [← this]
        congr 1
        unfold Addr.add
        by_cases hk0 : k = 0
        · subst hk0; simp
        · simp [hk0]
    · obtain ⟨i, hi1, hi2⟩ := List.getElem_of_mem hb
      exact hi2 ▸ (hx2 i hi1).2

theorem trod_float {W : World} {t : TypeId} {k : FloatKind} {b0 : Nat} {sp : Nat → Bool} {hd : Bool} {fuel : Nat} {cs : List Value} {y : DataW H × List MemPlace} (ht : P.underlying t = some (.float k)) (h : DataW.trod enc P W b0 sp hd fuel t cs = some y) :
    ∃ b, cs = [.float k b] ∧ (Lit.float k b).wf = true := by
  cases fuel with
  | zero => simp [DataW.trod] at h
  | succ n =>
    unfold DataW.trod at h
    rw [ht] at h
    split at h <;> simp_all
end
end Go.Proofs.Ytfkjnaaplhcheaa
namespace Go.Proofs.Ytfkjnaaplhcheaa
open Go.ChangeShapes Go.WideShapes Go.ChangeAt Go.RowKit Go.Joins

theorem f32_bd {b : Nat} (h : (Lit.float .f32 b).wf = true) : b < 4294967296 := by
  simp [Lit.wf] at h
  exact h
theorem open_fl {H : Type} {enc : TypeId × Value → H} {W : World} {v : Value} {d : DataW H} {ps : List MemPlace} (h : DataW.Trod enc Try.prog W 0 (fun _ => true) true 46 v d ps)
    (hv : ∃ a len cap, v = .slice a len cap) : ∃ (A : Option Addr) (xs : List Nat) (c : Nat), v = .slice A xs.length c ∧ xs.length ≤ 9223372036854775807 ∧ Rd W W.heap.size A (fl xs) ∧ ∀ x ∈ xs, x < 4294967296 := by
  obtain ⟨fuel, hf⟩ := h
  obtain ⟨a, len, cap, rfl⟩ := hv
  obtain ⟨A, xs, c, he, hc, hm, hr, hok⟩ := open_row (v := .slice a len cap) (Value.float .f32) (fun b => (Lit.float .f32 b).wf = true) Try.underlying46 (show Try.prog.cellsOf 50 = 1 by kernel_rfl)
    (fun n cs y hy => trod_float Try.underlying50 hy) (by simpa [Value.cells] using hf)
  exact ⟨A, xs, c, he, by unfold maxLen at hm; omega, hr, fun x hx => f32_bd (hok x hx)⟩


theorem int_bd {n : Int} (h : (Lit.int .i64 n).wf = true) : -9223372036854775808 ≤ n ∧ n ≤ 9223372036854775807 := by
  simp [Lit.wf, IntKind.min, IntKind.max, IntKind.signed, IntKind.bits] at h
  omega
theorem u64_bd {n : Int} (h : (Lit.int .u64 n).wf = true) : 0 ≤ n ∧ n < 18446744073709551616 := by
  simp [Lit.wf, IntKind.min, IntKind.max, IntKind.signed, IntKind.bits] at h
  omega
theorem open_il {H : Type} {enc : TypeId × Value → H} {W : World} {v : Value} {d : DataW H} {ps : List MemPlace} (h : DataW.Trod enc Try.prog W 0 (fun _ => true) true 25 v d ps)
    (hv : ∃ a len cap, v = .slice a len cap) : ∃ (A : Option Addr) (xs : List Int) (c : Nat), v = .slice A xs.length c ∧ xs.length ≤ 9223372036854775807 ∧ Rd W W.heap.size A (il xs) ∧ ∀ x ∈ xs, -9223372036854775808 ≤ x ∧ x ≤ 9223372036854775807 := by
  obtain ⟨fuel, hf⟩ := h
  obtain ⟨a, len, cap, rfl⟩ := hv
  obtain ⟨A, xs, c, he, hc, hm, hr, hok⟩ := open_row (v := .slice a len cap) (Value.int .i64) (fun n => (Lit.int .i64 n).wf = true) Try.underlying25 (show Try.prog.cellsOf 2 = 1 by kernel_rfl)
    (fun n cs y hy => by obtain ⟨z, hz, _, hw⟩ := DataW.trod_int Try.underlying2 hy; exact ⟨z, hz, hw⟩) (by simpa [Value.cells] using hf)
  exact ⟨A, xs, c, he, by unfold maxLen at hm; omega, hr, fun x hx => int_bd (hok x hx)⟩
set_option maxRecDepth 100000 in
theorem open_seed {H : Type} {enc : TypeId × Value → H} {W : World} {r : Reach} {b0 : Nat} {v : Value} {d : DataW H} {ps : List MemPlace} (hv : Value.okWide Try.prog W r b0 61 v) (h : DataW.Trod enc Try.prog W 0 (fun _ => true) true 61 v d ps) :
    ∃ (k a b : Int), v = .agg #[.int .i64 k, .int .u64 a, .int .u64 b] ∧ (-9223372036854775808 ≤ k ∧ k ≤ 9223372036854775807) ∧ (0 ≤ a ∧ a < 18446744073709551616) ∧ (0 ≤ b ∧ b < 18446744073709551616) := by
  obtain ⟨c0, c1, c2, y0, y1, y2, m, rfl, rfl, rfl, hy0, hy1, hy2⟩ := open_agg3 Try.underlying61 (by kernel_rfl) (show Try.prog.cellsOf 61 = 3 by kernel_rfl) hv h
  obtain ⟨k, e0, _, hk⟩ := DataW.trod_int Try.underlying2 hy0
  obtain ⟨a, e1, _, ha⟩ := DataW.trod_int Try.underlying35 hy1
  obtain ⟨b, e2, _, hb⟩ := DataW.trod_int Try.underlying35 hy2
  obtain rfl : c0 = .int .i64 k := by simpa using e0
  obtain rfl : c1 = .int .u64 a := by simpa using e1
  obtain rfl : c2 = .int .u64 b := by simpa using e2
  exact ⟨k, a, b, rfl, int_bd hk, u64_bd ha, u64_bd hb⟩
end Go.Proofs.Ytfkjnaaplhcheaa
namespace Go.Proofs.Ytfkjnaaplhcheaa
open Go Go.RowKit

theorem w64_in {x : Int} (h : 0 ≤ x ∧ x ≤ 9223372036854775807) : wrap64 x = x := by
  unfold wrap64
  omega
theorem grown_trans {a b c : World} {row : Option Nat} (h : a.grownBy b row) (h' : b.grownBy c row) : a.grownBy c row :=
  ⟨h'.os.trans h.os, h'.tape.trans h.tape, h'.output.trans h.output, Nat.le_trans h.size h'.size, fun j hj hn => (h'.block j (Nat.lt_of_lt_of_le hj h.size) hn).trans (h.block j hj hn)⟩
/-- a source lies in block g; its bytes lie further down; asked a times -/
def ScE (W : World) (g : Nat) (A : Option Addr) (n c a : Nat) (s : Int) : Prop :=
  W.cell? ⟨g, 0, none⟩ = some (.slice A n c) ∧ W.cell? ⟨g, 1, none⟩ = some (.int .i64 a) ∧ W.cell? ⟨g, 2, none⟩ = some (.int .u64 s) ∧ (∀ o, W.frozen? ⟨g, o, none⟩ = false) ∧
  ∀ a, a < n → ∃ b off v, A = some ⟨b, off, none⟩ ∧ b < g ∧ (v : Nat) ≤ 255 ∧ W.cell? ⟨b, off + a, none⟩ = some (.int .u8 (v : Nat))
def Sc (W : World) (g : Nat) (A : Option Addr) (n c m : Nat) : Prop := ∃ (a : Nat) (s : Int), a ≤ m ∧ (0 ≤ s ∧ s < 18446744073709551616) ∧ ScE W g A n c a s
def ScTo (g : Nat) (A : Option Addr) (n c m : Nat) (w w' : World) : Prop := w.grownBy w' (some g) ∧ Sc w' g A n c m
theorem Sc.lt {W : World} {g : Nat} {A : Option Addr} {n c m : Nat} (h : Sc W g A n c m) : g < W.heap.size := by
  obtain ⟨a, s, _, _, h0, _⟩ := h
  exact lt_of_cell (a := ⟨g, 0, none⟩) h0
theorem ScE.set {W : World} {g : Nat} {A : Option Addr} {n c a0 a : Nat} {s0 : Int} (h : ScE W g A n c a0 s0) (s : Int) (v : Int) (hv : v = (a : Nat)) :
    ScE ((W.setCell ⟨g, 1, none⟩ (.int .i64 v)).setCell ⟨g, 2, none⟩ (.int .u64 s)) g A n c a s := by
  subst hv
  obtain ⟨h0, h1, h2, hf, hr⟩ := h
  refine ⟨?_, ?_, ?_, ?_, ?_⟩
  · exact (World.cell?_setCell_other _ _ _ _ (by simp)).trans ((World.cell?_setCell_other _ _ _ _ (by simp)).trans h0)
  · exact (World.cell?_setCell_other _ _ _ _ (by simp)).trans (World.cell?_setCell_same _ _ _ h1)
  · exact World.cell?_setCell_same _ _ _ ((World.cell?_setCell_other _ _ _ _ (by simp)).trans h2)
  · intro o
    rw [World.frozen?_setCell, World.frozen?_setCell]
    exact hf o
  · intro i hi
    obtain ⟨b, off, v, e, hb, hv, hc⟩ := hr i hi
    exact ⟨b, off, v, e, hb, hv, (World.cell?_setCell_other _ _ _ _ (by intro e; injection e with e; omega)).trans ((World.cell?_setCell_other _ _ _ _ (by intro e; injection e with e; omega)).trans hc)⟩
theorem Sc.le {W : World} {g : Nat} {A : Option Addr} {n c m m' : Nat} (h : Sc W g A n c m) (hm : m ≤ m') : Sc W g A n c m' := by
  obtain ⟨a, s, ha, r⟩ := h
  exact ⟨a, s, by omega, r⟩
theorem and_byte {x : Int} (h : 0 ≤ x ∧ x < 18446744073709551616) : ∃ v : Nat, v ≤ 255 ∧ bits .and .u64 x 255 = (v : Int) := by
  obtain ⟨n, rfl⟩ := Int.eq_ofNat_of_zero_le h.1
  refine ⟨n &&& 255, Nat.and_le_right, ?_⟩
  exact bits_and_u64_nat n 255 (by omega) (by decide)
set_option maxRecDepth 100000 in
set_option maxHeartbeats 3200000 in
theorem srcNext_any (g : Nat) (A : Option Addr) (n c m : Nat) (w : World) (hn : n ≤ 1048576) (hm : m ≤ 1048576) (h : Sc w g A n c m) :
    Calls Try.prog 91 #[.pointer (some ⟨g, 0, none⟩)] w (fun e w' => ∃ v : Nat, v ≤ 255 ∧ e = .returned (.int .i64 v) ∧ ScTo g A n c (m + 1) w w') := by
  obtain ⟨a, s, ha, hs, hE⟩ := h
  have H := Lib.hid hE
  obtain ⟨h0, h1, h2, hf, hr⟩ := hE
  have HG := fun v s => Lib.hid (grown_set (i := 2) (v := .int .u64 s) (grown_set (i := 1) (v := .int .i64 v) (grown_refl w (some g)) ) )
  by_cases hlt : a < n
  · obtain ⟨b, off, v, rfl, hb, hv, hc⟩ := hr a hlt
    clear hr
    have hlt' : (a : Int) < (n : Int) := by omega
    have hle' : (a : Int) + 1 ≤ (n : Int) := by omega
    go_enter Try.func91, Try.ntmps91
    go_wp2
    go_region
    go_wp2
    go_region
    go_wp2
    generalize hse : IntKind.u64.wrap (IntKind.u64.wrap (IntKind.u64.wrap (s * 6364136223846793005) + (v : Int)) + 1442695040888963407) = s' at *
    have hsr : 0 ≤ s' ∧ s' < 18446744073709551616 := by rw [← hse]; exact u64_range _
    have hS := H.out.set s' ((a : Int) + 1) (a := a + 1) (by omega)
    have hG : w.grownBy ((w.setCell ⟨g, 1, none⟩ (.int .i64 ((a : Int) + 1))).setCell ⟨g, 2, none⟩ (.int .u64 s')) (some g) := grown_set (grown_set (grown_refl w _) 1 _) 2 _
    clear hse HG
    generalize World.setCell (World.setCell _ _ _) _ _ = W2 at *
    have HS := Lib.hid hS
    clear h0 h1 h2 hf hc
    obtain ⟨h0, h1, h2, hf, hr⟩ := hS
    rw [show ((a + 1 : Nat) : Int) = (a : Int) + 1 by omega] at h1
    clear hr
    go_region
    go_wp2
    go_ret
    exact ⟨v, hv, rfl, grown_dr (grown_dr (grown_dr hG)), a + 1, s', by omega, hsr, HS.out⟩
  · have hlt' : ¬ (a : Int) < (n : Int) := by omega
    have hle' : ¬ (a : Int) + 1 ≤ (n : Int) := by omega
    go_enter Try.func91, Try.ntmps91
    go_wp2
    go_region
    go_wp2
    generalize hse : IntKind.u64.wrap (IntKind.u64.wrap (IntKind.u64.wrap (s * 6364136223846793005)) + 1442695040888963407) = s' at *
    have hsr : 0 ≤ s' ∧ s' < 18446744073709551616 := by rw [← hse]; exact u64_range _
    have hS := H.out.set s' ((a : Int) + 1) (a := a + 1) (by omega)
    have hG : w.grownBy ((w.setCell ⟨g, 1, none⟩ (.int .i64 ((a : Int) + 1))).setCell ⟨g, 2, none⟩ (.int .u64 s')) (some g) := grown_set (grown_set (grown_refl w _) 1 _) 2 _
    clear hse HG
    generalize World.setCell (World.setCell _ _ _) _ _ = W2 at *
    have HS := Lib.hid hS
    clear h0 h1 h2 hf hr
    obtain ⟨h0, h1, h2, hf, hr⟩ := hS
    rw [show ((a + 1 : Nat) : Int) = (a : Int) + 1 by omega] at h1
    clear hr
    go_region
    go_wp2
    obtain ⟨v, hv, hve⟩ := and_byte (x := s' / 1099511627776) (by omega)
    rw [hve, w64_in (x := (v : Int)) (by omega)]
    go_ret
    exact ⟨v, hv, rfl, grown_dr (grown_dr hG), a + 1, s', by omega, hsr, HS.out⟩
theorem ScTo.next {g : Nat} {A : Option Addr} {n c m m' : Nat} {w W W' : World} (h : ScTo g A n c m w W) (h' : ScTo g A n c m' W W') : ScTo g A n c m' w W' := ⟨grown_trans h.1 h'.1, h'.2⟩
theorem Sc.keep {w w' : World} {g : Nat} {A : Option Addr} {n c m : Nat} (h : Sc w g A n c m) (hb : Below w.heap.size w w') : Sc w' g A n c m := by
  have hl := h.lt
  obtain ⟨a, s, ha, hs, h0, h1, h2, hf, hr⟩ := h
  exact ⟨a, s, ha, hs, keepC hb h0, keepC hb h1, keepC hb h2, fun o => (hb.frozen (p := ⟨g, o, none⟩) hl).trans (hf o), fun i hi => by
    obtain ⟨b, off, v, e, hbg, hv, hc⟩ := hr i hi
    exact ⟨b, off, v, e, hbg, hv, keepC hb hc⟩⟩
theorem Sc.al {w : World} {g : Nat} {A : Option Addr} {n c m : Nat} (h : Sc w g A n c m) (o : Obj) : Sc (w.alloc o) g A n c m := h.keep (below_al (Below.refl _ _) _)
theorem Sc.far {w w' : World} {g k : Nat} {A : Option Addr} {n c m : Nat} (h : Sc w g A n c m) (hg : w.grownBy w' (some k)) (hk : g < k) : Sc w' g A n c m := by
  have hl := h.lt
  obtain ⟨a, s, ha, hs, h0, h1, h2, hf, hr⟩ := h
  have hn : ∀ b, b ≤ g → some b ≠ some k := fun b hb e => by injection e with e; omega
  exact ⟨a, s, ha, hs, (hg.cell_far ⟨g, 0, none⟩ hl (hn g (by omega))).trans h0, (hg.cell_far ⟨g, 1, none⟩ hl (hn g (by omega))).trans h1, (hg.cell_far ⟨g, 2, none⟩ hl (hn g (by omega))).trans h2, fun o => (hg.frozen_far ⟨g, o, none⟩ hl (hn g (by omega))).trans (hf o), fun i hi => by
    obtain ⟨b, off, v, e, hbg, hv, hc⟩ := hr i hi
    exact ⟨b, off, v, e, hbg, hv, (hg.cell_far ⟨b, off + i, none⟩ (by show b < _; omega) (hn b (by omega))).trans hc⟩⟩
def PickOut (g : Nat) (A : Option Addr) (n c m N : Nat) (w : World) (e : Ending) (w' : World) : Prop := ∃ v : Nat, v < N ∧ v ≤ 65535 ∧ e = .returned (.int .i64 v) ∧ ScTo g A n c (m + 2) w w'
set_option maxRecDepth 100000 in
set_option maxHeartbeats 3200000 in
theorem pick_any (g : Nat) (A : Option Addr) (n c m N : Nat) (w : World) (hn : n ≤ 1048576) (hm : m ≤ 1048570) (hN : 1 < N ∧ N ≤ 1000000) (h : Sc w g A n c m) :
    Calls Try.prog 45 #[.pointer (some ⟨g, 0, none⟩), .int .i64 N] w (PickOut g A n c m N w) := by
  have HX := Lib.hid fun m w hm h => srcNext_any g A n c m w hn hm h
  have H := Lib.hid h
  have hN1 : (1 : Int) < N := by omega
  unfold PickOut
  clear h
  by_cases hb : N ≤ 200
  · have hb' : (N : Int) ≤ 200 := by omega
    go_enter Try.func45, Try.ntmps45
    go_wp2_with fail
    refine (HX.out _ _ (by omega) H.out).mono ?_
    rintro e w1 ⟨v, hv, rfl, hs⟩
    have HS := Lib.hid hs
    clear hs
    go_wp2_with fail
    go_ret
    exact ⟨v % N, Nat.mod_lt _ (by omega), by have := Nat.mod_le v N; omega, rfl, HS.out.1, HS.out.2.le (by omega)⟩
  · have hb' : ¬ (N : Int) ≤ 200 := by omega
    go_enter Try.func45, Try.ntmps45
    go_wp2_with fail
    refine (HX.out _ _ (by omega) H.out).mono ?_
    rintro e w1 ⟨v, hv, rfl, hs⟩
    have HS := Lib.hid hs
    clear hs
    go_wp2_with fail
    refine (HX.out _ _ (by omega) HS.out.2).mono ?_
    rintro e w2 ⟨v2, hv2, rfl, hs⟩
    have HS2 := Lib.hid (HS.out.next hs)
    clear hs
    go_wp2_with fail
    go_ret
    refine ⟨(v * 256 + v2) % N, Nat.mod_lt _ (by omega), by have := Nat.mod_le (v * 256 + v2) N; omega, ?_, HS2.out.1, HS2.out.2.le (by omega)⟩
    rw [Int.natCast_emod, Int.natCast_add, Int.natCast_mul]
    rfl
theorem l00From_any (A : Option Addr) (n c : Nat) (w : World) (h : ∀ a, a < n → ∃ b off v, A = some ⟨b, off, none⟩ ∧ b < w.heap.size ∧ (v : Nat) ≤ 255 ∧ w.cell? ⟨b, off + a, none⟩ = some (.int .u8 (v : Nat))) :
    Calls Try.prog 44 #[.slice A n c] w (fun e w' => e = .returned (.pointer (some ⟨w.heap.size, 0, none⟩)) ∧ Below w.heap.size w w' ∧ w'.heap.size = w.heap.size + 1 ∧ Sc w' w.heap.size A n c 0) := by
  have H := Lib.hid h
  clear h
  go_enter Try.func44, Try.ntmps44
  go_wp2_with fail
  go_ret
  refine ⟨rfl, below_al (Below.refl _ _) _, by simp, 0, 0, Nat.le_refl _, by omega, by simp [go_sem], by simp [go_sem], by simp [go_sem], fun o => by simp [go_sem], fun i hi => ?_⟩
  obtain ⟨b, off, v, e, hb, hv, hc⟩ := H.out i hi
  exact ⟨b, off, v, e, hb, hv, keepC (below_al (Below.refl _ _) _) hc⟩


theorem xor_self_div {y k : Nat} (hy : 0 < y) (hk : 1 < k) : y ^^^ (y / k) ≠ 0 := by
  intro h
  have e : y = y / k := by
    have := congrArg (fun z => z ^^^ (y / k)) h
    simpa [Nat.xor_assoc] using this
  have := Nat.div_lt_self hy hk
  omega
theorem mul_odd_ne {z c d M : Nat} (hz : 0 < z ∧ z < M) (hcd : c * d % M = 1) : z * c % M ≠ 0 := by
  intro h
  have h1 : z * c * d % M = 0 := by rw [Nat.mul_mod, h, Nat.zero_mul, Nat.zero_mod]
  have h2 : z * c * d % M = z := by rw [Nat.mul_assoc, Nat.mul_mod, hcd, Nat.mul_one, Nat.mod_mod, Nat.mod_eq_of_lt hz.2]
  omega
theorem mixF_ne {x : Int} (h : 0 < x ∧ x < 18446744073709551616) : mixF x ≠ 0 := by
  obtain ⟨n, rfl⟩ := Int.eq_ofNat_of_zero_le (show 0 ≤ x by omega)
  have hn : 0 < n ∧ n < 18446744073709551616 := by omega
  have step : ∀ (m k c d : Nat), 0 < m ∧ m < 18446744073709551616 → 1 < k → c * d % 18446744073709551616 = 1 → ∃ r : Nat, (0 < r ∧ r < 18446744073709551616) ∧ IntKind.u64.wrap (bits .xor .u64 (m : Int) ((m : Int) / (k : Int)) * (c : Int)) = (r : Int) := fun m k c d hm hk hcd => by
    have hq := Nat.div_le_self m k
    have e : ((m : Int) / (k : Int)) = ((m / k : Nat) : Int) := by rw [Int.natCast_ediv]
    rw [e, bits_xor_u64_nat m (m / k) hm.2 (by omega), IntKind.wrap_u64]
    have hx : m ^^^ (m / k) < 18446744073709551616 := by
      have := Nat.xor_lt_two_pow (n := 64) (x := m) (y := m / k) (by omega) (by omega)
      exact this
    have h0 := mul_odd_ne (z := m ^^^ (m / k)) (c := c) (d := d) (M := 18446744073709551616) ⟨Nat.pos_of_ne_zero (xor_self_div hm.1 hk), hx⟩ hcd
    refine ⟨(m ^^^ (m / k)) * c % 18446744073709551616, ⟨Nat.pos_of_ne_zero h0, Nat.mod_lt _ (by decide)⟩, ?_⟩
    rw [Int.natCast_emod, Int.natCast_mul]
    rfl
  obtain ⟨r1, h1, e1⟩ := step n 1073741824 13787848793156543929 10871156337175269513 hn (by decide) (by decide +kernel)
  obtain ⟨r2, h2, e2⟩ := step r1 134217728 10723151780598845931 3573116690164977347 h1 (by decide) (by decide +kernel)
  have hy : mixY (n : Int) = r1 := e1
  have hz : mixZ (mixY (n : Int)) = r2 := by rw [hy]; exact e2
  have hq := Nat.div_le_self r2 2147483648
  unfold mixF
  rw [hz, show ((r2 : Int) / 2147483648) = ((r2 / 2147483648 : Nat) : Int) by rw [Int.natCast_ediv]; rfl, bits_xor_u64_nat r2 _ h2.2 (by omega)]
  have := xor_self_div (y := r2) (k := 2147483648) h2.1 (by decide)
  omega


structure Mv (B g : Nat) (w w' : World) : Prop where
  os : w'.os = w.os
  tape : w'.tape = w.tape
  output : w'.output = w.output
  size : w.heap.size ≤ w'.heap.size
  block : ∀ k, k < B → k ≠ g → w'.heap[k]? = w.heap[k]?
section
variable {B g : Nat} {a b c w w' W : World}
theorem Mv.refl (B g : Nat) (w : World) : Mv B g w w := ⟨rfl, rfl, rfl, Nat.le_refl _, fun _ _ _ => rfl⟩
theorem Mv.trans (h : Mv B g a b) (k : Mv B g b c) : Mv B g a c :=
  ⟨k.os.trans h.os, k.tape.trans h.tape, k.output.trans h.output, Nat.le_trans h.size k.size, fun i hi hn => (k.block i hi hn).trans (h.block i hi hn)⟩
theorem Mv.mono {B' : Nat} (h : Mv B g w w') (hB : B' ≤ B) : Mv B' g w w' := ⟨h.os, h.tape, h.output, h.size, fun k hk hn => h.block k (by omega) hn⟩
theorem Mv.of_below (h : Below B w w') : Mv B g w w' := ⟨h.os, h.tape, h.output, h.size, fun k hk _ => h.block k hk⟩
theorem Mv.of_grown (h : w.grownBy w' (some g)) : Mv w.heap.size g w w' := ⟨h.os, h.tape, h.output, h.size, fun k hk hn => h.block k hk (fun e => hn (Option.some.inj e))⟩
theorem Mv.below (h : Mv B g w w') (hg : B ≤ g) : Below B w w' := ⟨h.os, h.tape, h.output, h.size, fun k hk => h.block k hk (by omega)⟩
theorem Mv.next (h : Mv B g w W) (hB : B ≤ W.heap.size) (k : Mv W.heap.size g W w') : Mv B g w w' := h.trans (k.mono hB)
theorem Mv.al (h : Mv B g w W) (hB : B ≤ W.heap.size) (o : Obj) : Mv B g w (W.alloc o) := h.trans ((Mv.of_below (below_al (Below.refl _ _) o)).mono hB)
theorem Mv.dn (h : Mv B g w W) (n : Nat) : Mv B g w (W.drewN n) := ⟨h.os, h.tape, h.output, h.size, h.block⟩
theorem Mv.dr (h : Mv B g w W) : Mv B g w W.drew := ⟨h.os, h.tape, h.output, h.size, h.block⟩
theorem Mv.set (h : Mv B g w W) (p : Addr) (v : Value) (hp : B ≤ p.block ∨ p.block = g) : Mv B g w (W.setCell p v) :=
  h.trans ⟨rfl, rfl, rfl, by simp [World.setCell], fun k hk hn => Below.heap_setCell _ _ _ _ (by omega)⟩
theorem Mv.grown {row : Option Nat} (h : Mv B g a w) (hg : w.grownBy w' row) (hB : B ≤ w.heap.size) (hr : ∀ k, row = some k → B ≤ k ∨ k = g) : Mv B g a w' :=
  h.trans ⟨hg.os, hg.tape, hg.output, hg.size, fun k hk hn => hg.block k (by omega) (fun e => by have := hr k e.symm; omega)⟩
theorem Mv.cell (h : Mv B g w w') {p : Addr} (hp : p.block < B) (hn : p.block ≠ g) : w'.cell? p = w.cell? p := World.cell?_of_block (w := w) (h.block p.block hp hn)
theorem Mv.frozen (h : Mv B g w w') {p : Addr} (hp : p.block < B) (hn : p.block ≠ g) : w'.frozen? p = w.frozen? p := World.frozen?_of_block (w := w) (h.block p.block hp hn)
theorem Mv.keepC {p : Addr} {v : Value} (h : Mv w.heap.size g w w') (hc : w.cell? p = some v) (hn : p.block ≠ g) : w'.cell? p = some v := (h.cell (lt_of_cell hc) hn).trans hc
theorem Mv.own {base : Nat} {e : TypeId} {size n : Nat} {v : Value} {xs : List Value} (hb : Mv w.heap.size g w w') (h : w.ownsRow base e size v n xs) (hg : g < base) : w'.ownsRow base e size v n xs := by
  refine ⟨h.1, ?_⟩
  rcases h.2 with h0 | ⟨b, cap, cur, hv, hbb, hh, hr⟩
  · exact .inl h0
  · refine .inr ⟨b, cap, cur, hv, hbb, ?_, hr⟩
    have hlt : b < w.heap.size := by
      rcases Nat.lt_or_ge b w.heap.size with h1 | h1
      · exact h1
      · rw [Array.getElem?_eq_none h1] at hh
        cases hh
    rw [hb.block b hlt (by omega)]
    exact hh
end
theorem SdAt.mv {w w' : World} {b g : Nat} {k a c : Int} (h : SdAt w b k a c) (hb : Mv w.heap.size g w w') (hn : b ≠ g) : SdAt w' b k a c := by
  obtain ⟨h0, h1, h2, h3⟩ := h
  have hl : b < w.heap.size := lt_of_cell (a := ⟨b, 0, none⟩) h0
  exact ⟨hb.keepC h0 hn, hb.keepC h1 hn, hb.keepC h2 hn, fun o => (hb.frozen (p := ⟨b, o, none⟩) hl hn).trans (h3 o)⟩
theorem or_one (x : Int) (h : 0 ≤ x ∧ x < 18446744073709551616) : bits .or .u64 x 1 % 2 = 1 ∧ 0 ≤ bits .or .u64 x 1 ∧ bits .or .u64 x 1 < 18446744073709551616 := by
  obtain ⟨n, rfl⟩ := Int.eq_ofNat_of_zero_le h.1
  have hr := or_range (n : Int) 1
  refine ⟨?_, hr⟩
  have e : bits .or .u64 (n : Int) 1 = ((n ||| 1 : Nat) : Int) := bits_or_u64_nat n 1 (by omega) (by decide)
  rw [e]
  have h2 : (n ||| 1) % 2 = 1 := by
    rw [Nat.mod_two_eq_one_iff_testBit_zero, Nat.testBit_or]
    simp
  omega
theorem mixF_range (x : Int) : 0 ≤ mixF x ∧ mixF x < 18446744073709551616 := by unfold mixF; exact xor_range _ _
def DrOut (g : Nat) (A : Option Addr) (n c m : Nat) (w : World) (e : Ending) (w' : World) : Prop :=
  ∃ k a b, e = .returned (.agg #[.int .i64 k, .int .u64 a, .int .u64 b]) ∧ seedB k a b = true ∧ (0 ≤ a ∧ a < 18446744073709551616) ∧ (0 ≤ b ∧ b < 18446744073709551616) ∧ Mv w.heap.size g w w' ∧ Sc w' g A n c (m + 6)
set_option maxRecDepth 100000 in
set_option maxHeartbeats 3200000 in
theorem l02DrawOk_any (g : Nat) (A : Option Addr) (n c m : Nat) (w : World) (hn : n ≤ 1048576) (hm : m ≤ 1048560) (h : Sc w g A n c m) :
    Calls Try.prog 57 #[.pointer (some ⟨g, 0, none⟩)] w (DrOut g A n c m w) := by
  have HP := Lib.hid fun m N w hm hN h => pick_any g A n c m N w hn hm hN h
  have H := Lib.hid h
  have hgl := h.lt
  have hgn : g ≠ w.heap.size := by omega
  unfold PickOut at HP
  unfold DrOut
  clear h
  go_enter Try.func57, Try.ntmps57
  go_wp2_with fail
  generalize hW1 : World.alloc w _ = W1
  have x1 : SdAt W1 w.heap.size 0 0 0 := by rw [← hW1]; simp [SdAt, go_sem]
  have s1 : Sc W1 g A n c m := by rw [← hW1]; exact H.out.al _
  have m1 : Mv w.heap.size g w W1 := by rw [← hW1]; exact (Mv.refl _ _ _).al (Nat.le_refl _) _
  have z1 : W1.heap.size = w.heap.size + 1 := by rw [← hW1]; simp
  clear hW1
  refine (HP.out _ 4 _ (by omega) (by omega) s1).mono ?_
  rintro e w2 ⟨k, hk, _, rfl, hs⟩
  have X2 := Lib.hid (x1.far hs.1 (Ne.symm hgn))
  have M2 := Lib.hid (m1.next m1.size (Mv.of_grown hs.1))
  have S2 := Lib.hid hs.2
  have z2 := hs.1.size
  clear hs x1 s1 m1
  go_upto_region 2 with fail
  generalize hW3 : World.alloc w2 _ = W3
  have x3 : SdAt W3 w2.heap.size k 0 0 := by rw [← hW3]; simp [SdAt, go_sem]
  have y3 : SdAt W3 w.heap.size 0 0 0 := by rw [← hW3]; exact X2.out.al _
  have s3 : Sc W3 g A n c (m + 2) := by rw [← hW3]; exact S2.out.al _
  have m3 : Mv w.heap.size g w W3 := by rw [← hW3]; exact M2.out.al M2.out.size _
  have z3 : W3.heap.size = w2.heap.size + 1 := by rw [← hW3]; simp
  have hg2 : g < w2.heap.size := S2.out.lt
  have hww : w.heap.size < w2.heap.size := by omega
  clear hW3 X2 M2 S2
  have S3 := Lib.hid s3
  go_wp2_with fail
  refine (HP.out _ 1000000 _ (by omega) (by omega) S3.out).mono ?_
  rintro e w4 ⟨a, _, ha, rfl, hs⟩
  have x4 := x3.far hs.1 (by omega)
  have y4 := y3.far hs.1 (by omega)
  have m4 := m3.next m3.size (Mv.of_grown hs.1)
  have s4 := hs.2
  have z4 := hs.1.size
  have X4 := Lib.hid x4
  have Y4 := Lib.hid y4
  have M4 := Lib.hid m4
  have S4 := Lib.hid s4
  clear hs x3 y3 m3 s3 S3 m4 s4 y4 z1 z3
  have hma := mixF_ne (x := (a : Int) + 1) (by omega)
  have hmr := mixF_range ((a : Int) + 1)
  have HMX := Lib.hid (l02Mix_any ((a : Int) + 1))
  generalize mixF ((a : Int) + 1) = p at *
  obtain ⟨c0, c1, c2, cf⟩ := x4
  go_wp2_with fail
  refine (HMX.out _).mono ?_
  rintro e w5 ⟨rfl, rfl⟩
  go_upto_region 3 with fail
  generalize hW6 : World.setCell w5 _ _ = W6
  have x6 : SdAt W6 w2.heap.size k p 0 := by rw [← hW6]; exact X4.out.setA p
  have y6 : SdAt W6 w.heap.size 0 0 0 := by rw [← hW6]; exact Y4.out.mv (g := w2.heap.size) ((Mv.refl _ _ _).set _ _ (.inr rfl)) (by omega)
  have s6 : Sc W6 g A n c (m + 2 + 2) := by rw [← hW6]; exact S4.out.far (k := w2.heap.size) (grown_set (grown_refl _ _) 1 _) (by omega)
  have m6 : Mv w.heap.size g w W6 := by rw [← hW6]; exact M4.out.set _ _ (.inl (by show w.heap.size ≤ w2.heap.size; omega))
  have z6 : W6.heap.size = w5.heap.size := by rw [← hW6]; simp [World.setCell]
  clear hW6 X4 Y4 M4 S4 c0 c1 c2 cf
  have S6 := Lib.hid s6
  go_wp2_with fail
  refine (HP.out _ 1000000 _ (by omega) (by omega) S6.out).mono ?_
  rintro e w7 ⟨b, _, hb, rfl, hs⟩
  have x7 := x6.far hs.1 (by omega)
  have y7 := y6.far hs.1 (by omega)
  have m7 := m6.next m6.size (Mv.of_grown hs.1)
  have s7 := hs.2
  have z7 := hs.1.size
  have X7 := Lib.hid x7
  have Y7 := Lib.hid y7
  have M7 := Lib.hid m7
  have S7 := Lib.hid s7
  clear hs x6 y6 m6 s6 S6 m7 s7
  have hqr := mixF_range ((b : Int) + 7)
  have HMY := Lib.hid (l02Mix_any ((b : Int) + 7))
  generalize mixF ((b : Int) + 7) = q at *
  obtain ⟨hor, hor1⟩ := or_one q hqr
  generalize hr : bits .or .u64 q 1 = r at *
  obtain ⟨c0, c1, c2, cf⟩ := x7
  obtain ⟨d0, d1, d2, df⟩ := y7
  go_wp2_with fail
  refine (HMY.out _).mono ?_
  rintro e w8 ⟨rfl, rfl⟩
  go_upto_region 4 with fail
  have hK : Hid (seedB k p r = true) := Lib.hid (by
    unfold seedB
    rcases (show k = 0 ∨ k = 1 ∨ k = 2 ∨ k = 3 by omega) with rfl | rfl | rfl | rfl <;> simp [hor, hma])
  clear hr hor
  generalize hW9 : World.setCell w8 _ _ = W9
  have x9 : SdAt W9 w2.heap.size k p r := by rw [← hW9]; exact X7.out.setB r
  have y9 : SdAt W9 w.heap.size 0 0 0 := by rw [← hW9]; exact Y7.out.mv (g := w2.heap.size) ((Mv.refl _ _ _).set _ _ (.inr rfl)) (by omega)
  have s9 : Sc W9 g A n c (m + 6) := by rw [← hW9]; exact S7.out.far (k := w2.heap.size) (grown_set (grown_refl _ _) 2 _) (by omega)
  have m9 : Mv w.heap.size g w W9 := by rw [← hW9]; exact M7.out.set _ _ (.inl (by show w.heap.size ≤ w2.heap.size; omega))
  clear hW9 X7 Y7 M7 S7 c0 c1 c2 cf d0 d1 d2 df
  obtain ⟨c0, c1, c2, cf⟩ := x9
  have Y9 := Lib.hid y9
  obtain ⟨d0, d1, d2, df⟩ := y9
  have SS := Lib.hid ((s9.far (k := w.heap.size) (grown_set (grown_set (grown_set (grown_refl _ _) 0 (.int .i64 k)) 1 (.int .u64 p)) 2 (.int .u64 r)) hgl))
  have MM := Lib.hid (((m9.set ⟨w.heap.size, 0, none⟩ (.int .i64 k) (.inl (Nat.le_refl _))).set ⟨w.heap.size, 1, none⟩ (.int .u64 p) (.inl (Nat.le_refl _))).set ⟨w.heap.size, 2, none⟩ (.int .u64 r) (.inl (Nat.le_refl _)))
  have YY := Lib.hid (Y9.out.set k p r)
  clear s9 m9
  go_wp2_with fail
  generalize World.setCell (World.setCell (World.setCell _ _ _) _ _) _ _ = WW at *
  obtain ⟨e0, e1, e2, ef⟩ := YY.out
  refine bodyPost_ret (v := .agg #[.int .i64 k, .int .u64 p, .int .u64 r]) (by simp [results, Try.results57, go_sem, e0, e1, e2]) rfl ⟨k, p, r, rfl, hK.out, hmr, hor1, MM.out, SS.out⟩
end Go.Proofs.Ytfkjnaaplhcheaa

namespace Go.Proofs.Ytfkjnaaplhcheaa
open Go Go.RowKit

/-- n bytes lie there -/
def BR (W : World) (A : Option Addr) (n : Nat) : Prop := ∀ a, a < n → ∃ b off v, A = some ⟨b, off, none⟩ ∧ b < W.heap.size ∧ (v : Nat) ≤ 255 ∧ W.cell? ⟨b, off + a, none⟩ = some (.int .u8 (v : Nat))
theorem BR.keep {W W' : World} {A : Option Addr} {n : Nat} (h : BR W A n) (hb : Below W.heap.size W W') : BR W' A n := fun a ha => by
  obtain ⟨b, off, v, e, h1, h2, h3⟩ := h a ha
  exact ⟨b, off, v, e, Nat.lt_of_lt_of_le h1 hb.size, h2, keepC hb h3⟩
theorem r8Long_any (A B : Option Addr) (n m ca cb : Nat) (w : World) : Calls Try.prog 7 #[.slice A n ca, .slice B m cb] w (fun e w' => e = .returned (.bool (decide (48 < n) || decide (48 < m))) ∧ w = w') := by
  by_cases h1 : 48 < n
  · have h1I : (48 : Int) < (n : Int) := by omega
    go_enter Try.func7, Try.ntmps7
    go_wp2
    go_ret
    exact ⟨by simp [h1], rfl⟩
  · have h1I : ¬ (48 : Int) < (n : Int) := by omega
    by_cases h2 : 48 < m
    · have h2I : (48 : Int) < (m : Int) := by omega
      go_enter Try.func7, Try.ntmps7
      go_wp2
      go_ret
      exact ⟨by simp, rfl⟩
    · have h2I : ¬ (48 : Int) < (m : Int) := by omega
      go_enter Try.func7, Try.ntmps7
      go_wp2
      go_ret
      exact ⟨by simp, rfl⟩

/-- a byte of an input, or 0 -/
theorem r8At_any (A : Option Addr) (n ca K N : Nat) (w : World) (_hK : K ≤ 100) (hN : 1 < N ∧ N ≤ 100) (h : BR w A n) :
    Calls Try.prog 8 #[.slice A n ca, .int .i64 K, .int .i64 N] w (fun e w' => ∃ k : Nat, k < N ∧ e = .returned (.int .i64 k) ∧ w = w') := by
  have hN1 : ¬ (N : Int) ≤ 1 := by omega
  by_cases hn : K < n
  · obtain ⟨b, off, v, rfl, hb, hv, hc⟩ := h K hn
    have hnI : ¬ (n : Int) ≤ (K : Int) := by omega
    have hnI2 : (K : Int) < (n : Int) := by omega
    have HV : Hid (v % N < N ∧ ((v : Int) % (N : Int)) = ((v % N : Nat) : Int)) := Lib.hid ⟨Nat.mod_lt _ (by omega), by omega⟩
    clear h
    go_enter Try.func8, Try.ntmps8
    go_wp2
    go_ret
    exact ⟨v % N, HV.out.1, by first | rfl | (rw [← HV.out.2]; rfl) | (congr 2; exact HV.out.2), rfl⟩
  · have hnI : (n : Int) ≤ (K : Int) := by omega
    clear h
    go_enter Try.func8, Try.ntmps8
    go_wp2
    go_ret
    exact ⟨0, by omega, rfl, rfl⟩
set_option maxRecDepth 100000 in
set_option maxHeartbeats 1600000 in
theorem R8Seed_any (A : Option Addr) (n c : Nat) (w : World) (hn : n ≤ 1048576) (h : BR w A n) :
    Calls Try.prog 16 #[.slice A n c] w (fun e w' => ∃ k a b, e = .returned (.agg #[.int .i64 k, .int .u64 a, .int .u64 b]) ∧ sdOk k a b ∧ Below w.heap.size w w') := by
  have HB := Lib.hid h
  have HD := Lib.hid fun (g k : Nat) (W : World) (hk : k ≤ 1000) (hs : Sc W g A n c k) => l02DrawOk_any g A n c k W hn (by omega) hs
  unfold DrOut at HD
  clear h
  go_enter Try.func16, Try.ntmps16
  go_wp2_with fail
  generalize hW1 : World.alloc w _ = W1
  have hx1 : SdAt W1 w.heap.size 0 0 0 := by rw [← hW1]; simp [SdAt, go_sem]
  have B1 : Hid (Below w.heap.size w W1) := by rw [← hW1]; exact Lib.hid (below_al (Below.refl _ _) _)
  have hz1 : w.heap.size < W1.heap.size := by rw [← hW1]; simp
  have h1 := HB.out.keep B1.out
  clear hW1 HB
  refine (l00From_any A n c W1 h1).mono ?_
  rintro e w2 ⟨rfl, hb2, hz2, hs2⟩
  have hx2 := hx1.keep hb2
  have B2 := Lib.hid (below_next B1.out hb2)
  clear hx1 hb2 h1
  go_wp2_with fail
  refine (HD.out _ 0 _ (by omega) hs2).mono ?_
  rintro e w3 ⟨k, a, b, rfl, hsd, ha, hb, hmv, -⟩
  have hx3 := hx2.mv hmv (by omega)
  have B3 := Lib.hid (B2.out.trans ((hmv.mono (by omega)).below (by omega)))
  have HOK := Lib.hid (show sdOk k a b from ⟨hsd, ha, hb⟩)
  clear hx2 hs2 hmv hsd ha hb
  have X3 := Lib.hid hx3
  obtain ⟨s0, s1, s2, sf⟩ := hx3
  go_wp2_with fail
  have hX7 := X3.out.set k a b
  have hB7 := below_set (below_set (below_set B3.out ⟨w.heap.size, 0, none⟩ (.int .i64 k) (by simp)) ⟨w.heap.size, 1, none⟩ (.int .u64 a) (by simp)) ⟨w.heap.size, 2, none⟩ (.int .u64 b) (by simp)
  generalize World.setCell (World.setCell (World.setCell _ _ _) _ _) _ _ = W7 at hX7 hB7 ⊢
  obtain ⟨y0, y1, y2, -⟩ := hX7
  refine bodyPost_ret (v := .agg #[.int .i64 k, .int .u64 a, .int .u64 b]) (by simp [results, Try.results16, go_sem, y0, y1, y2]) rfl ⟨k, a, b, rfl, HOK.out, hB7⟩
end Go.Proofs.Ytfkjnaaplhcheaa
namespace Go.Proofs.Ytfkjnaaplhcheaa
open Go Go.RowKit Ieee

theorem info_f32m : (Try.prog.info? 50).map (fun i => (i.zero, i.size, i.bytes)) = some (some (.float .f32 0), 1, 4) := by kernel_rfl
/-- k/64 as a float -/
def shN (k : Nat) : Nat := fdiv (floatOfInt .f32 (k : Int)) 1115684864
theorem shN_few : ∀ k : Nat, k < 65 → floatBits .quo .f32 (floatOfInt .f32 (k : Int)) 1115684864 = some (shN k) ∧ partB (shN k) = true := by decide +kernel
set_option maxRecDepth 100000 in
set_option maxHeartbeats 1600000 in
theorem R8Shares_any (A : Option Addr) (n c m : Nat) (w : World) (hn : n ≤ 1048576) (hm : m ≤ 40) (h : BR w A n) :
    Calls Try.prog 23 #[.slice A n c, .int .i64 m] w (fun e w' => ∃ (ks : List Nat) (A' : Option Addr) (c' : Nat), ks.length = m ∧ (∀ k ∈ ks, k < 65) ∧ e = .returned (.slice A' m c') ∧ w'.ownsRow w.heap.size 50 1 (.slice A' m c') m (fl (ks.map shN)) ∧ Below w.heap.size w w') := by
  have HF := Lib.hid (l00From_any A n c w h)
  have HP := Lib.hid fun (g k : Nat) (W : World) (hk : k ≤ 1000) (hs : Sc W g A n c k) => pick_any g A n c k 65 W hn (by omega) (by omega) hs
  have HQ := Lib.hid shN_few
  unfold PickOut at HP
  obtain ⟨i0, hi0, hz0, hz1, hz2⟩ := info_parts info_f32m
  clear h
  go_enter Try.func23, Try.ntmps23
  go_upto_region 2 with (go_at_call 44; refine HF.out.mono ?_; rintro e w1 ⟨rfl, hb1, hz, hs1⟩; have B1 := Lib.hid hb1; have S1 := Lib.hid hs1; clear hb1 hs1)
  have S2 := Lib.hid (S1.out.al (.cells #[] 50))
  have B2 := Lib.hid (below_al B1.out (.cells #[] 50))
  have O2 : Hid ((w1.alloc (.cells #[] 50)).ownsRow (w.heap.size + 1) 50 1 (.slice (some ⟨w1.heap.size, 0, none⟩) 0 0) 0 []) := Lib.hid (World.ownsRow_made w1 #[] 0 (base := w.heap.size + 1) (e := 50) (size := 1) (by omega) (by unfold maxLen; omega) rfl)
  clear S1 B1 hz
  go_wp2_with fail
  generalize World.alloc w1 _ = W2 at *
  go_loopw [1, 6] (fun nv ov wr => ∃ (i : Nat) (ks : List Nat), i ≤ m ∧ nv = .int .i64 ((m - i : Nat) : Int) ∧ ks.length = i ∧ (∀ k ∈ ks, k < 65) ∧ Sc wr w.heap.size A n c (2 * i) ∧ Below w.heap.size w wr ∧ ∃ A' c', ov = .slice A' i c' ∧ wr.ownsRow (w.heap.size + 1) 50 1 (.slice A' i c') i (fl (ks.map shN))) (fun nv _ _ => (intOf nv).toNat)
  case atStart => exact ⟨0, [], by omega, rfl, rfl, by simp, S2.out, B2.out, _, _, rfl, O2.out⟩
  case round =>
    clear S2 B2 O2
    obtain ⟨i, ks, hi, rfl, hx, hxb, hs, hb, A', c', rfl, ho⟩ := hrel
    rename World => wr
    have HS := Lib.hid hs
    have HB := Lib.hid hb
    have HO := Lib.hid ho
    have HX := Lib.hid hx
    have HXB := Lib.hid hxb
    clear hs hb ho hx hxb
    generalize hr : m - i = r
    have HR := Lib.hid hr
    clear hr
    by_cases hrm : 0 < r
    · have hrz : (0 : Int) < (r : Int) := by omega
      have hwr : IntKind.i64.wrap ((r : Int) - 1) = (r : Int) - 1 := IntWalk.i64_in _ (by have := HR.out; omega)
      go_upto_region 5 with fail
      have hpk := HP.out w.heap.size (2 * i) wr (by omega) HS.out
      go_wp2_with (first
        | (go_at_call 45; refine hpk.mono ?_; rintro e w3 ⟨v, hv, -, rfl, ht⟩; have HS3 := Lib.hid ht.2; have HB3 := Lib.hid (HB.out.grown ht.1 HB.out.size (fun j e => by cases e; exact Nat.le_refl _)); have HO3 := Lib.hid (HO.out.kept ht.1 (by
            cases hv : (Value.slice A' i c').ownBlock with
            | none => exact .inl rfl
            | some q => exact .inr fun e => by have := (HO.out.lt q hv).1; injection e; omega)); have hz3 := HS3.out.lt; have hqv := fun w => run_float_arith (P := Try.prog) w .quo 50 .f32 _ _ _ (HQ.out v hv).1; clear ht hpk)
        | (refine wpList_append_lies _ rfl _ _ _ rfl (w.heap.size + 1) 50 i0 _ 1 4 Try.underlying46 hi0 hz0 hz1 hz2 rfl (by omega) (.slice A' i c') i (fl (ks.map shN)) (by rfl) (HO3.out.alloc _) ⟨w3.heap.size, 0, none⟩ 1 1 [.float .f32 (shN v)] (by rfl) (by rfl) (World.news_of_block (cs := #[.float .f32 (shN v)]) (t := 50) (fr := (0, 0)) (heap_alloc_new w3 _)) (by simp [Value.oneCell']) (by omega) (by unfold maxLen; omega) (by omega) (by simp; omega) (w3.heap.size + 1) (by simp) ?_; intro g9 cap9 w9 hown9 hgrow hat hlt9; have HS9 := Lib.hid ((HS3.out.al (.cells #[.float .f32 (shN v)] 50))); have HB9 := Lib.hid ((below_al HB3.out (.cells #[.float .f32 (shN v)] 50)).grown hgrow (by have := HB3.out.size; simp; omega) (fun q hq => by have := (HO3.out.lt q hq).1; omega)); have HG9 := Lib.hid hgrow; have HO9 := Lib.hid hown9; clear hown9 hgrow hat hlt9))
      have HS10 : Hid (Sc w9 w.heap.size A n c (2 * i + 2)) := Lib.hid (by
        cases hv : (Value.slice A' i c').ownBlock with
        | none =>
          have hg := HG9.out
          rw [hv] at hg
          exact HS9.out.far (k := w9.heap.size) ⟨hg.os, hg.tape, hg.output, hg.size, fun j hj _ => hg.block j hj (by simp)⟩ (by have := hg.size; simp at this; omega)
        | some q =>
          have hg := HG9.out
          rw [hv] at hg
          exact HS9.out.far hg (by have := (HO3.out.lt q hv).1; omega))
      go_roundw
      case rel => exact ⟨i + 1, ks ++ [v], by have := HR.out; omega, by congr 1; have := HR.out; omega, by rw [List.length_append, HX.out]; rfl, fun x hx => by
        rcases List.mem_append.1 hx with h | h
        · exact HXB.out x h
        · have : x = v := by simpa using h
          omega, HS10.out, HB9.out, _, _, rfl, by simpa [fl] using HO9.out⟩
      case measure => simp [intOf]; omega
    · obtain rfl : r = 0 := by omega
      obtain rfl : i = m := by have := HR.out; omega
      go_wp2_with fail
      go_ret
      exact ⟨ks, A', c', HX.out, HXB.out, rfl, own_base HO.out (by omega), HB.out⟩
end Go.Proofs.Ytfkjnaaplhcheaa
namespace Go.Proofs.Ytfkjnaaplhcheaa
open Go Go.RowKit Ieee SeedFact

structure Rw (W : World) (g cap : Nat) (xs : List Int) : Prop where
  ex : ∃ f, W.rowIs g 2 cap f ∧ ∀ i, i < xs.length → f i = .int .i64 (xs.getD i 0)
  le : xs.length ≤ cap
section
variable {W W' : World} {g cap : Nat} {xs : List Int}
theorem Rw.cell (h : Rw W g cap xs) {i : Nat} (hi : i < xs.length) : W.cell? ⟨g, i, none⟩ = some (.int .i64 (xs.getD i 0)) := by
  obtain ⟨f, hf, he⟩ := h.ex
  rw [hf.cell (by have := h.le; omega), he i hi]
theorem Rw.frozen (h : Rw W g cap xs) (i : Nat) : W.frozen? ⟨g, i, none⟩ = false := by
  obtain ⟨f, hf, -⟩ := h.ex
  exact hf.frozen i
theorem Rw.lt (h : Rw W g cap xs) : g < W.heap.size := by
  obtain ⟨f, hf, -⟩ := h.ex
  exact hf.lt
theorem Rw.put (h : Rw W g cap xs) (i : Nat) (v : Int) : Rw (W.setCell ⟨g, i, none⟩ (.int .i64 v)) g cap (xs.set i v) := by
  obtain ⟨f, hf, he⟩ := h.ex
  refine ⟨⟨_, hf.set i _, fun j hj => ?_⟩, by rw [List.length_set]; exact h.le⟩
  rw [List.length_set] at hj
  show (if j = i then _ else f j) = _
  by_cases e : j = i
  · subst e
    rw [if_pos rfl, List.getD_eq_getElem?_getD, List.getElem?_set_self hj]
    rfl
  · rw [if_neg e, he j hj, List.getD_eq_getElem?_getD, List.getD_eq_getElem?_getD, List.getElem?_set_ne (fun e2 => e e2.symm)]
theorem Rw.block (h : Rw W g cap xs) (e : W'.heap[g]? = W.heap[g]?) : Rw W' g cap xs := by
  obtain ⟨f, hf, he⟩ := h.ex
  exact ⟨⟨f, hf.of_block e, he⟩, h.le⟩
theorem Rw.keep (h : Rw W g cap xs) (hb : Below W.heap.size W W') : Rw W' g cap xs := h.block (hb.block g h.lt)
theorem Rw.other (h : Rw W g cap xs) {a : Addr} (ha : g ≠ a.block) (v : Value) : Rw (W.setCell a v) g cap xs := h.block (Below.heap_setCell _ _ _ _ ha)
theorem Rw.dn (h : Rw W g cap xs) (n : Nat) : Rw (W.drewN n) g cap xs := h.block rfl
theorem Rw.dr (h : Rw W g cap xs) : Rw W.drew g cap xs := h.block rfl
theorem own_rw {base n : Nat} {A : Option Addr} {c : Nat} (h : W.ownsRow base 2 1 (.slice A n c) n (il xs)) (hn : 1 ≤ n) (hx : xs.length = n) : ∃ g, A = some ⟨g, 0, none⟩ ∧ base ≤ g ∧ Rw W g c xs ∧ c ≤ maxLen := by
  rcases h.2 with ⟨hv, hz⟩ | ⟨g, cap, cur, hv, hb, hg, h1, h2, h3, h4⟩
  · omega
  · cases hv
    refine ⟨g, rfl, hb, ⟨⟨fun i => cur[i]?.getD (.int .i64 0), ⟨cur, hg, by omega, fun i hi => ?_⟩, fun i hi => ?_⟩, by omega⟩, h2⟩
    · show cur[i]? = some (cur[i]?.getD (.int .i64 0))
      rw [Array.getElem?_eq_getElem (by omega)]
      rfl
    · show cur[i]?.getD (.int .i64 0) = _
      have h5 : (cur.toList.take (n * 1))[i]? = (il xs)[i]? := by rw [h4]
      rw [List.getElem?_take_of_lt (by omega), il, List.getElem?_map, Array.getElem?_toList] at h5
      rw [h5, List.getD_eq_getElem?_getD, List.getElem?_eq_getElem hi]
      rfl
theorem rw_own (h : Rw W g cap xs) {base : Nat} (hb : base ≤ g) (hc : cap ≤ maxLen) : W.ownsRow base 2 1 (.slice (some ⟨g, 0, none⟩) xs.length cap) xs.length (il xs) := by
  obtain ⟨f, ⟨c, h1, h2, h3⟩, he⟩ := h.ex
  have hle := h.le
  refine ⟨by rw [il_len, Nat.mul_one], .inr ⟨g, cap, c, rfl, hb, h1, hle, hc, by omega, ?_⟩⟩
  refine List.ext_getElem? fun i => ?_
  by_cases hi : i < xs.length
  · rw [List.getElem?_take_of_lt (by omega), Array.getElem?_toList, h3 i (by omega), he i hi, il, List.getElem?_map, List.getElem?_eq_getElem hi, List.getD_eq_getElem?_getD, List.getElem?_eq_getElem hi]
    rfl
  · rw [List.getElem?_eq_none (by rw [List.length_take]; omega), List.getElem?_eq_none (by rw [il_len]; omega)]
end
/-- two numbers change places -/
def swapL (xs : List Int) (i j : Nat) : List Int := (xs.set i (xs.getD j 0)).set j (xs.getD i 0)
theorem swapL_len (xs : List Int) (i j : Nat) : (swapL xs i j).length = xs.length := by simp [swapL]
/-- numbers brought to an order, from an index down to 1 -/
def shufI (k : Int) : Nat → Int × Int → List Int → (Int × Int) × List Int
  | 0, s, xs => (s, xs)
  | i+1, s, xs => shufI k i (sW k s.1 s.2 (i+2)) (swapL xs (i+1) (xW k s.1 s.2 (i+2)))
theorem shufI_zero (k : Int) (s : Int × Int) (xs : List Int) : shufI k 0 s xs = (s, xs) := rfl
theorem shufI_succ (k : Int) (i : Nat) (s : Int × Int) (xs : List Int) : shufI k (i+1) s xs = shufI k i (sW k s.1 s.2 (i+2)) (swapL xs (i+1) (xW k s.1 s.2 (i+2))) := rfl
theorem shufI_ok {k : Int} : ∀ (i : Nat) (s : Int × Int) (xs : List Int), sdOk k s.1 s.2 → sdOk k (shufI k i s xs).1.1 (shufI k i s xs).1.2
  | 0, _, _, h => h
  | i+1, s, xs, h => by
    rw [shufI_succ]
    exact shufI_ok i _ _ (sW_ok _ h)
theorem shufI_len {k : Int} : ∀ (i : Nat) (s : Int × Int) (xs : List Int), (shufI k i s xs).2.length = xs.length
  | 0, _, _ => rfl
  | i+1, s, xs => by
    rw [shufI_succ, shufI_len i _ _, swapL_len]
/-- what is given: a seed, and a row of one's own -/
def DrawnOut (k : Int) (s : Int × Int) (xs : List Int) (w : World) (e : Ending) (w' : World) : Prop :=
  ∃ g c, e = .returned (.tuple #[.agg #[.int .i64 k, .int .u64 s.1, .int .u64 s.2], .slice (some ⟨g, 0, none⟩) xs.length c, .bool true]) ∧ w.heap.size ≤ g ∧ c ≤ maxLen ∧ Rw w' g c xs ∧ Below w.heap.size w w'
set_option maxRecDepth 100000 in
set_option maxHeartbeats 6400000 in
theorem drawnList_any (k : Int) (s : Int × Int) (A : Option Addr) (xs : List Int) (c : Nat) (w : World) (h : sdOk k s.1 s.2) (h1 : 1 ≤ xs.length) (h2 : xs.length < 11) (hA : Rd w w.heap.size A (il xs)) :
    Calls Try.prog 58 #[.agg #[.int .i64 k, .int .u64 s.1, .int .u64 s.2], .slice A xs.length c, .int .i64 1] w (DrawnOut k (shufI k (xs.length - 1) s xs).1 (shufI k (xs.length - 1) s xs).2 w) := by
  have HV : Hid (∀ w, Calls Try.prog 18 #[.agg #[.int .i64 k, .int .u64 s.1, .int .u64 s.2]] w (fun e w' => e = .returned (.bool true) ∧ Below w.heap.size w w')) := Lib.hid fun w => by
    have h3 := ValidSeed_any k s.1 s.2 h.2.2 w
    rw [h.1] at h3
    exact h3
  have HC : Hid (∀ W, Below w.heap.size w W → Calls Try.prog 60 #[.slice A xs.length c] W (fun e w' => ∃ A' c', e = .returned (.slice A' xs.length c') ∧ w'.ownsRow W.heap.size 2 1 (.slice A' xs.length c') xs.length (il xs) ∧ Below W.heap.size W w')) := Lib.hid fun W hW => cloneI_any A xs c W (by omega) h1 (hA.at_ hW)
  have HB : Hid (∀ (i : Nat) (s : Int × Int) w, i + 2 < 11 → sdOk k s.1 s.2 → Calls Try.prog 96 #[.agg #[.int .i64 k, .int .u64 s.1, .int .u64 s.2], .int .i64 ((i + 2 : Nat) : Int)] w (BelowOut k s.1 s.2 (i+2) w)) := Lib.hid fun i s w hi hs => BelowSeed_any k s.1 s.2 (i+2) w hs (by omega) hi
  have HS := Lib.hid h
  clear h hA
  go_enter Try.func58, Try.ntmps58
  go_wp2_with fail
  generalize hW1 : World.alloc (World.alloc w _) _ = W1
  have hx1 : Dx w.heap.size k s.1 s.2 W1 := by rw [← hW1]; simp [Dx, SdAt, go_sem]
  have HB1 : Hid (Below w.heap.size w W1) := by rw [← hW1]; exact Lib.hid (below_al (below_al (Below.refl _ _) _) _)
  clear hW1
  have HX1 := Lib.hid hx1
  clear hx1
  refine (HV.out _).mono ?_
  rintro e w2 ⟨rfl, hb2⟩
  have HX2 := Lib.hid (HX1.out.keep hb2)
  have hB2 := below_next HB1.out hb2
  have HB2 := Lib.hid hB2
  have HC2 := Lib.hid (HC.out w2 hB2)
  clear hb2 HX1 HB1 HC hB2
  go_wp2_with (go_at_call 60; refine HC2.out.mono ?_; rintro e w3 ⟨A', c', rfl, hown, hb3⟩; obtain ⟨g, rfl, hg, hrw, hcm⟩ := own_rw hown h1 rfl; have HRW := Lib.hid hrw; have HX3 := Lib.hid (HX2.out.keep hb3); have HB3 := Lib.hid (below_next HB2.out hb3); have hlt2 := HX2.out.lt; clear hown hb3 hrw)
  have hgl : w.heap.size + 1 < g := by omega
  have HCM := Lib.hid hcm
  clear hg hlt2 HX2 HB2 HC2 hcm
  go_loopw [10, 11, 12, 13] (fun ct _ _ _ wr => ∃ (i : Nat) (t : Int × Int) (L : List Int), ct = .int .i64 i ∧ i + 1 ≤ xs.length ∧ L.length = xs.length ∧ sdOk k t.1 t.2 ∧ shufI k i t L = shufI k (xs.length - 1) s xs ∧ Dx w.heap.size k t.1 t.2 wr ∧ Rw wr g c' L ∧ Below w.heap.size w wr) (fun ct _ _ _ _ => (intOf ct).toNat)
  case atStart =>
    refine ⟨xs.length - 1, s, xs, ?_, by omega, rfl, HS.out, rfl, HX3.out, HRW.out, HB3.out⟩
    first | rfl | (congr 1; omega)
  case round =>
    obtain ⟨i, t, L, rfl, hi, hL, hok, hsh, hx, hrw, hbw⟩ := hrel
    rename World => wr
    have HX := Lib.hid hx
    have HR := Lib.hid hrw
    have HB' := Lib.hid hbw
    have HSH := Lib.hid hsh
    have HOK := Lib.hid hok
    have HL := Lib.hid hL
    have hlt := HX.out.lt
    have hrl := HR.out.lt
    obtain ⟨⟨s0, s1, s2, sf⟩, ⟨z0, z1, z2, zf⟩⟩ := hx
    clear hbw hsh hrw hok hL
    obtain ⟨ta, tb⟩ := t
    by_cases hi0 : i = 0
    · subst hi0
      go_wp2_with fail
      have e0 := HSH.out
      rw [shufI_zero] at e0
      have hX7 := HX.out.2.set k ta tb
      have hR7 := ((HR.out.other (a := ⟨w.heap.size + 1, 0, none⟩) (by simp; omega) (.int .i64 k)).other (a := ⟨w.heap.size + 1, 1, none⟩) (by simp; omega) (.int .u64 ta)).other (a := ⟨w.heap.size + 1, 2, none⟩) (by simp; omega) (.int .u64 tb)
      have hB7 := below_set (below_set (below_set HB'.out ⟨w.heap.size + 1, 0, none⟩ (.int .i64 k) (by simp)) ⟨w.heap.size + 1, 1, none⟩ (.int .u64 ta) (by simp)) ⟨w.heap.size + 1, 2, none⟩ (.int .u64 tb) (by simp)
      generalize World.setCell (World.setCell (World.setCell _ _ _) _ _) _ _ = W7 at hX7 hR7 hB7 ⊢
      obtain ⟨y0, y1, y2, -⟩ := hX7
      rw [← e0]
      refine bodyPost_ret (v := .tuple #[.agg #[.int .i64 k, .int .u64 ta, .int .u64 tb], .slice (some ⟨g, 0, none⟩) xs.length c', .bool true]) (by simp [results, Try.results58, go_sem, y0, y1, y2]) rfl ⟨g, c', by rw [HL.out], by omega, HCM.out, hR7, hB7⟩
    · have HBi : Hid (∀ w, Calls Try.prog 96 #[.agg #[.int .i64 k, .int .u64 ta, .int .u64 tb], .int .i64 ((i : Int) + 1)] w (BelowOut k ta tb (i+1) w)) := Lib.hid fun W => by
        have h5 := HB.out (i-1) (ta, tb) W (by omega) HOK.out
        rw [show ((i - 1 + 2 : Nat) : Int) = (i : Int) + 1 by omega, show i - 1 + 2 = i + 1 by omega] at h5
        exact h5
      have hstep : shufI k i (ta, tb) L = shufI k (i-1) (sW k ta tb (i+1)) (swapL L i (xW k ta tb (i+1))) := by
        obtain ⟨q, rfl⟩ := Nat.exists_eq_succ_of_ne_zero hi0
        exact shufI_succ k q (ta, tb) L
      have hok' : sdOk k (sW k ta tb (i+1)).1 (sW k ta tb (i+1)).2 := sW_ok (i+1) HOK.out
      have hxl : xW k ta tb (i+1) < i + 1 := xW_lt k ta tb (by omega)
      have HSTEP := Lib.hid hstep
      have HOK' := Lib.hid hok'
      clear hstep hok'
      unfold BelowOut at HBi
      generalize xW k ta tb (i+1) = x at *
      generalize sW k ta tb (i+1) = t' at *
      obtain ⟨a', b'⟩ := t'
      go_wp2_with (go_at_call 96; refine (HBi.out _).mono ?_; rintro e w6 ⟨rfl, hb6⟩; have HX6 := Lib.hid (HX.out.keep hb6); have HR6 := Lib.hid (HR.out.keep hb6); have HB6 := Lib.hid (below_next HB'.out hb6); clear hb6 s0 s1 s2 sf z0 z1 z2 zf; obtain ⟨⟨s0, s1, s2, sf⟩, ⟨z0, z1, z2, zf⟩⟩ := HX6.out; have hlt6 := HX6.out.lt; have hlt7 : w.heap.size < w6.heap.size := by omega)
      have hX7 := (HX6.out.set k a' b').keep (below_al (Below.refl _ _) (.cells #[.int .i64 k, .int .u64 a', .int .u64 b'] 37))
      have hR7 := (((HR6.out.other (a := ⟨w.heap.size, 0, none⟩) (by simp; omega) (.int .i64 k)).other (a := ⟨w.heap.size, 1, none⟩) (by simp; omega) (.int .u64 a')).other (a := ⟨w.heap.size, 2, none⟩) (by simp; omega) (.int .u64 b')).keep (below_al (Below.refl _ _) (.cells #[.int .i64 k, .int .u64 a', .int .u64 b'] 37))
      have hB7 := below_al (below_set (below_set (below_set HB6.out ⟨w.heap.size, 0, none⟩ (.int .i64 k) (by simp)) ⟨w.heap.size, 1, none⟩ (.int .u64 a') (by simp)) ⟨w.heap.size, 2, none⟩ (.int .u64 b') (by simp)) (.cells #[.int .i64 k, .int .u64 a', .int .u64 b'] 37)
      generalize World.alloc (World.setCell (World.setCell (World.setCell _ _ _) _ _) _ _) _ = W7 at hX7 hR7 hB7 ⊢
      have HX7 := Lib.hid hX7
      have HR7 := Lib.hid hR7
      have HB7 := Lib.hid hB7
      have hiL : i < L.length := by rw [HL.out]; omega
      have hxL : x < L.length := by omega
      have ci := hR7.cell hiL
      have cx := hR7.cell hxL
      have cf := hR7.frozen
      have hrl7 := hR7.lt
      have hLc : L.length ≤ c' := hR7.le
      have hLn := HL.out
      clear hX7 hR7 hB7 s0 s1 s2 sf z0 z1 z2 zf
      have hR8 := ((HR7.out.put i (L.getD x 0)).put x (L.getD i 0)).dr
      have hg8 := grown_set (grown_set (grown_refl W7 (some g)) i (.int .i64 (L.getD x 0))) x (.int .i64 (L.getD i 0))
      have hX8 : Dx w.heap.size k a' b' (World.drew (World.setCell (World.setCell W7 ⟨g, i, none⟩ (.int .i64 (L.getD x 0))) ⟨g, x, none⟩ (.int .i64 (L.getD i 0)))) := ⟨(HX7.out.1.far hg8 (by omega)).dr, (HX7.out.2.far hg8 (by omega)).dr⟩
      have hB8 : Below w.heap.size w (World.drew (World.setCell (World.setCell W7 ⟨g, i, none⟩ (.int .i64 (L.getD x 0))) ⟨g, x, none⟩ (.int .i64 (L.getD i 0)))) := below_dn (below_set (below_set HB7.out ⟨g, i, none⟩ _ (by simp; omega)) ⟨g, x, none⟩ _ (by simp; omega)) 1
      have hsw : swapL L i x = (L.set i (L.getD x 0)).set x (L.getD i 0) := rfl
      rw [← hsw] at hR8
      clear hg8 hsw
      simp only [List.getD_eq_getElem?_getD] at hR8 hX8 hB8
      have hfin : ∀ W8, Rw W8 g c' (swapL L i x) → Dx w.heap.size k a' b' W8 → Below w.heap.size w W8 → ∃ (q : Nat) (t : Int × Int) (M : List Int), Value.int .i64 ((i : Int) - 1) = .int .i64 q ∧ q + 1 ≤ xs.length ∧ M.length = xs.length ∧ sdOk k t.1 t.2 ∧ shufI k q t M = shufI k (xs.length - 1) s xs ∧ Dx w.heap.size k t.1 t.2 W8 ∧ Rw W8 g c' M ∧ Below w.heap.size w W8 := fun W8 q1 q2 q3 =>
        ⟨i - 1, (a', b'), swapL L i x, by rw [show ((i - 1 : Nat) : Int) = (i : Int) - 1 by omega], by omega, by rw [swapL_len]; exact HL.out, HOK'.out, by rw [← HSTEP.out]; exact HSH.out, q2, q1, q3⟩
      have HFIN := Lib.hid hfin
      clear hfin
      by_cases hxi : x = i
      · subst hxi
        go_region
        generalize World.drew (World.setCell (World.setCell W7 _ _) _ _) = W8 at hR8 hX8 hB8 ⊢
        have HF := Lib.hid (HFIN.out W8 hR8 hX8 hB8)
        clear hR8 hX8 hB8 ci cx cf HFIN
        go_wp2_with fail
        exact ⟨HF.out, by simp [intOf]; omega⟩
      · have hix : i ≠ x := fun e => hxi e.symm
        go_region
        generalize World.drew (World.setCell (World.setCell W7 _ _) _ _) = W8 at hR8 hX8 hB8 ⊢
        have HF := Lib.hid (HFIN.out W8 hR8 hX8 hB8)
        clear hR8 hX8 hB8 ci cx cf HFIN
        go_wp2_with fail
        exact ⟨HF.out, by simp [intOf]; omega⟩
end Go.Proofs.Ytfkjnaaplhcheaa
namespace Go.Proofs.Ytfkjnaaplhcheaa
open Go Go.RowKit

theorem info_bool : (Try.prog.info? 4).map (fun i => (i.zero, i.size, i.bytes)) = some (some (.bool false), 1, 1) := by kernel_rfl
/-- bools as values -/
def bol (bs : List Bool) : List Value := bs.map Value.bool
def OneOut (g : Nat) (A : Option Addr) (n c m : Nat) (w : World) (e : Ending) (w' : World) : Prop := ∃ v : Bool, e = .returned (.bool v) ∧ ScTo g A n c (m + 2) w w'
theorem one_any (g : Nat) (A : Option Addr) (n c m : Nat) (w : World) (hn : n ≤ 1048576) (hm : m ≤ 1048570) (h : Sc w g A n c m) :
    Calls Try.prog 76 #[.pointer (some ⟨g, 0, none⟩), .int .i64 2] w (OneOut g A n c m w) := by
  have HP := Lib.hid (pick_any g A n c m 2 w hn hm (by omega) h)
  unfold PickOut at HP
  clear h
  go_enter Try.func76, Try.ntmps76
  go_wp2_with (go_at_call 45; refine HP.out.mono ?_; rintro e w3 ⟨v, hv, -, rfl, ht⟩; have HT := Lib.hid ht; clear ht)
  go_ret
  exact ⟨_, rfl, HT.out⟩
set_option maxRecDepth 100000 in
set_option maxHeartbeats 1600000 in
theorem R8Bits_any (A : Option Addr) (n c m : Nat) (w : World) (hn : n ≤ 1048576) (hm : m ≤ 40) (h : BR w A n) :
    Calls Try.prog 29 #[.slice A n c, .int .i64 m] w (fun e w' => ∃ (ks : List Bool) (A' : Option Addr) (c' : Nat), ks.length = m ∧ e = .returned (.slice A' m c') ∧ w'.ownsRow w.heap.size 4 1 (.slice A' m c') m (bol ks) ∧ Below w.heap.size w w') := by
  have HF := Lib.hid (l00From_any A n c w h)
  have HP := Lib.hid fun (g k : Nat) (W : World) (hk : k ≤ 1000) (hs : Sc W g A n c k) => one_any g A n c k W hn (by omega) hs
  unfold OneOut at HP
  obtain ⟨i0, hi0, hz0, hz1, hz2⟩ := info_parts info_bool
  clear h
  go_enter Try.func29, Try.ntmps29
  go_upto_region 2 with (go_at_call 44; refine HF.out.mono ?_; rintro e w1 ⟨rfl, hb1, hz, hs1⟩; have B1 := Lib.hid hb1; have S1 := Lib.hid hs1; clear hb1 hs1)
  have S2 := Lib.hid (S1.out.al (.cells #[] 4))
  have B2 := Lib.hid (below_al B1.out (.cells #[] 4))
  have O2 : Hid ((w1.alloc (.cells #[] 4)).ownsRow (w.heap.size + 1) 4 1 (.slice (some ⟨w1.heap.size, 0, none⟩) 0 0) 0 []) := Lib.hid (World.ownsRow_made w1 #[] 0 (base := w.heap.size + 1) (e := 4) (size := 1) (by omega) (by unfold maxLen; omega) rfl)
  clear S1 B1 hz
  go_wp2_with fail
  generalize World.alloc w1 _ = W2 at *
  go_loopw [1, 6] (fun nv ov wr => ∃ (i : Nat) (ks : List Bool), i ≤ m ∧ nv = .int .i64 ((m - i : Nat) : Int) ∧ ks.length = i ∧ Sc wr w.heap.size A n c (2 * i) ∧ Below w.heap.size w wr ∧ ∃ A' c', ov = .slice A' i c' ∧ wr.ownsRow (w.heap.size + 1) 4 1 (.slice A' i c') i (bol ks)) (fun nv _ _ => (intOf nv).toNat)
  case atStart => exact ⟨0, [], by omega, rfl, rfl, S2.out, B2.out, _, _, rfl, O2.out⟩
  case round =>
    clear S2 B2 O2
    obtain ⟨i, ks, hi, rfl, hx, hs, hb, A', c', rfl, ho⟩ := hrel
    rename World => wr
    have HS := Lib.hid hs
    have HB := Lib.hid hb
    have HO := Lib.hid ho
    have HX := Lib.hid hx
    clear hs hb ho hx
    generalize hr : m - i = r
    have HR := Lib.hid hr
    clear hr
    by_cases hrm : 0 < r
    · have hrz : (0 : Int) < (r : Int) := by omega
      have hwr : IntKind.i64.wrap ((r : Int) - 1) = (r : Int) - 1 := IntWalk.i64_in _ (by have := HR.out; omega)
      go_upto_region 5 with fail
      have hpk := HP.out w.heap.size (2 * i) wr (by omega) HS.out
      go_wp2_with (first
        | (go_at_call 76; refine hpk.mono ?_; rintro e w3 ⟨v, rfl, ht⟩; have HS3 := Lib.hid ht.2; have HB3 := Lib.hid (HB.out.grown ht.1 HB.out.size (fun j e => by cases e; exact Nat.le_refl _)); have HO3 := Lib.hid (HO.out.kept ht.1 (by
            cases hv : (Value.slice A' i c').ownBlock with
            | none => exact .inl rfl
            | some q => exact .inr fun e => by have := (HO.out.lt q hv).1; injection e; omega)); have hz3 := HS3.out.lt; clear ht hpk)
        | (refine wpList_append_lies _ rfl _ _ _ rfl (w.heap.size + 1) 4 i0 _ 1 1 Try.underlying56 hi0 hz0 hz1 hz2 rfl (by omega) (.slice A' i c') i (bol ks) (by rfl) (HO3.out.alloc _) ⟨w3.heap.size, 0, none⟩ 1 1 [.bool v] (by rfl) (by rfl) (World.news_of_block (cs := #[.bool v]) (t := 4) (fr := (0, 0)) (heap_alloc_new w3 _)) (by simp [Value.oneCell']) (by omega) (by unfold maxLen; omega) (by omega) (by simp; omega) (w3.heap.size + 1) (by simp) ?_; intro g9 cap9 w9 hown9 hgrow hat hlt9; have HS9 := Lib.hid ((HS3.out.al (.cells #[.bool v] 4))); have HB9 := Lib.hid ((below_al HB3.out (.cells #[.bool v] 4)).grown hgrow (by have := HB3.out.size; simp; omega) (fun q hq => by have := (HO3.out.lt q hq).1; omega)); have HG9 := Lib.hid hgrow; have HO9 := Lib.hid hown9; clear hown9 hgrow hat hlt9))
      have HS10 : Hid (Sc w9 w.heap.size A n c (2 * i + 2)) := Lib.hid (by
        cases hv : (Value.slice A' i c').ownBlock with
        | none =>
          have hg := HG9.out
          rw [hv] at hg
          exact HS9.out.far (k := w9.heap.size) ⟨hg.os, hg.tape, hg.output, hg.size, fun j hj _ => hg.block j hj (by simp)⟩ (by have := hg.size; simp at this; omega)
        | some q =>
          have hg := HG9.out
          rw [hv] at hg
          exact HS9.out.far hg (by have := (HO3.out.lt q hv).1; omega))
      go_roundw
      case rel => exact ⟨i + 1, ks ++ [v], by have := HR.out; omega, by congr 1; have := HR.out; omega, by rw [List.length_append, HX.out]; rfl, HS10.out, HB9.out, _, _, rfl, by simpa [bol] using HO9.out⟩
      case measure => simp [intOf]; omega
    · obtain rfl : r = 0 := by omega
      obtain rfl : i = m := by have := HR.out; omega
      go_wp2_with fail
      go_ret
      exact ⟨ks, A', c', HX.out, rfl, own_base HO.out (by omega), HB.out⟩
end Go.Proofs.Ytfkjnaaplhcheaa
namespace Go.Proofs.Ytfkjnaaplhcheaa
open Go Go.RowKit

theorem areBits_ok (A : Option Addr) (n c : Nat) (w : World) (h1 : 1 ≤ n) (h2 : n ≤ 256) : Calls Try.prog 77 #[.slice A n c] w (fun e w' => e = .returned (.bool true) ∧ w = w') := by
  have f1 : (1 : Int) ≤ (n : Int) := by omega
  have f2 : (n : Int) ≤ 256 := by omega
  have f3 : ¬ (n : Int) < 1 := by omega
  go_enter Try.func77, Try.ntmps77
  go_wp2
  go_ret
  exact ⟨by simp, rfl⟩
end Go.Proofs.Ytfkjnaaplhcheaa
