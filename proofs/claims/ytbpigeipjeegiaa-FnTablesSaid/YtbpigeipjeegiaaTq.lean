/-
  impl.TablesWith for 2 rows and 2 columns.
-/
import Derived.Test.YtbpigeipjeegiaaTk
import Derived.Laws.CopyRow
import Derived.Lib.SlBuf
import Derived.Deep.LoopGhost
namespace Go.Proofs.Ytbpigeipjeegiaa
open Go Go.RowKit Go.Maps Go.WideShapes

def fS (C0 C1 r0 r1 : Nat) : Nat → Nat → Nat → Nat
  | 0 => startG C0 C1
  | 1 => nextG (startG C0 C1) C0 C1 r0
  | _ + 2 => nextG (nextG (startG C0 C1) C0 C1 r0) C0 C1 r1
def rS (r0 r1 : Nat) : Nat → Nat
  | 0 => r0
  | _ + 1 => r1
theorem fS_step (C0 C1 r0 r1 i : Nat) (hi : i < 2) : fS C0 C1 r0 r1 (i + 1) = nextG (fS C0 C1 r0 r1 i) C0 C1 (rS r0 r1 i) := by
  rcases (show i = 0 ∨ i = 1 by omega) with rfl | rfl <;> rfl
theorem sums_two {x y : Nat} (hx : x ≤ 24) (hy : y ≤ 24) : sumsB ([x, y].map Int.ofNat) = true := by
  simp [sumsB, inB]
  omega
theorem invQ (key : Value) (kl : Lit) (h : keyOf Try.prog 49 key = some kl) : ∃ x : Array Value, key = .agg x := by
  unfold keyOf at h
  simp only [arrK.hu] at h
  split at h
  · next hf =>
    rw [Bool.and_eq_true] at hf
    have h2 := hf.2
    unfold Value.formed at h2
    cases key <;> simp [arrK.hu] at h2 ⊢
  · cases h
theorem invI (v : Value) (y : DV × List MemPlace) (h : plainElem Try.prog 2 v = some y) : ∃ c : Int, v = .int .i64 c := by
  obtain ⟨c, rfl, _⟩ := plainElem_int_inv Try.underlying2 h
  exact ⟨c, rfl⟩
/-- an entry of a map of pairs, come upon by a range -/
theorem entry_pair {D : DV} {C0 C1 : Nat} {f : Nat → Nat → Nat} {x : Array Value} {c : Int} {kl : Lit} {y : DV × List MemPlace} (hC : C0 ≤ 24 ∧ C1 ≤ 24) (hM : MapP D C0 C1 f) (hkey : keyOf Try.prog 49 (.agg x) = some kl) (hv : plainElem Try.prog 2 (.int .i64 c) = some y) (hat : ∀ zd, D.atKey kl zd = y.1) :
    ∃ u v, u ≤ C0 ∧ v ≤ C1 ∧ kl = kP u v ∧ x = #[.int .i64 (u : Nat), .int .i64 (v : Nat), .int .i64 0, .int .i64 0] ∧ c = IntKind.i64.wrap ((f u v : Nat) : Int) := by
  obtain ⟨u, v, hu, hv', rfl⟩ := hM.2.1 kl (has_true_of_atKey hat)
  have hk := keyOf_quad u v (by omega) (by omega)
  have e := keyedK.inj hkey hk
  injection e with e
  refine ⟨u, v, hu, hv', rfl, e, ?_⟩
  obtain ⟨c', ec, hy, -⟩ := plainElem_int_inv Try.underlying2 hv
  injection ec with _ ec
  have h1 := hM.2.2.1 u v hu hv'
  rw [hat, hy] at h1
  injection h1 with h1
  injection h1 with _ h1
  rw [ec, h1]
set_option maxRecDepth 100000 in
set_option maxHeartbeats 3200000 in
theorem TablesWith_any (r0 r1 C0 C1 : Nat) (A B : Option Addr) (ca cb : Nat) (w : World) (hr : r0 ≤ 24 ∧ r1 ≤ 24) (hC : C0 ≤ 24 ∧ C1 ≤ 24) (hA : Rd w w.heap.size A (nlv [r0, r1])) (hB : Rd w w.heap.size B (nlv [C0, C1])) :
    Calls Try.prog 12 #[.slice A 2 ca, .slice B 2 cb] w (fun e w' => e = .returned (.tuple #[.int .i64 (IntKind.i64.wrap ((fS C0 C1 r0 r1 2 0 0 : Nat) : Int)), .bool true]) ∧ Below w.heap.size w w') := by
  have HSA : Hid (∀ W : World, Rd W W.heap.size A (nlv [r0, r1]) → Calls Try.prog 26 #[.slice A 2 ca] W (Quiet (.bool true) W)) := Lib.hid fun W h => by
    have := areSums_any A ([r0, r1].map Int.ofNat) ca W (by simp) (by rw [il_nlv]; exact h)
    rw [sums_two hr.1 hr.2, show ([r0, r1].map Int.ofNat).length = 2 from rfl] at this
    exact this
  have HSB : Hid (∀ W : World, Rd W W.heap.size B (nlv [C0, C1]) → Calls Try.prog 26 #[.slice B 2 cb] W (Quiet (.bool true) W)) := Lib.hid fun W h => by
    have := areSums_any B ([C0, C1].map Int.ofNat) cb W (by simp) (by rw [il_nlv]; exact h)
    rw [sums_two hC.1 hC.2, show ([C0, C1].map Int.ofNat).length = 2 from rfl] at this
    exact this
  obtain ⟨ga, oa, rfl, hga, hca⟩ := rd_cells hA (by simp)
  obtain ⟨gb, ob, rfl, hgb, hcb⟩ := rd_cells hB (by simp)
  have RA := Lib.hid hA
  have RB := Lib.hid hB
  have CA := Lib.hid hca
  have CB := Lib.hid hcb
  clear hA hB hca hcb
  go_enter Try.func12, Try.ntmps12
  go_upto_region 3 with (first
    | (go_at_call 26; (with_reducible refine (HSA.out _ RA.out).mono ?_); rintro e w1 ⟨rfl, n1, rfl⟩)
    | (go_at_call 26; (with_reducible refine (HSB.out _ (RB.out.drewN _)).mono ?_); rintro e w2 ⟨rfl, n2, rfl⟩))
  have B0 : Hid (Below w.heap.size w (w.drewN (n1 + n2)) ∧ (w.drewN (n1 + n2)).heap.size = w.heap.size) := Lib.hid ⟨below_dn (Below.refl _ _) _, by simp⟩
  clear HSA HSB
  generalize w.drewN (n1 + n2) = W0 at *
  have hz0 := B0.out.2
  generalize hWS : w.heap.size = S at *
  have HWS := Lib.hid hWS
  clear hWS
  go_upto_region 4 with fail
  have F4 : Hid (∀ W1, W1 = W0.alloc (.cells #[.int .i64 0, .int .i64 0, .int .i64 0, .int .i64 0] 49) → ∃ W2, (∀ ty, (Builtin.copy_ #[24, 24] ty #[.slice (some ⟨S, 0, none⟩) 4 4, .slice (some ⟨gb, ob, none⟩) 2 cb]).run Try.prog W1 = .ok (.int .i64 2) W2) ∧ Below S w W2 ∧ W2.heap[S]? = some (.cells #[.int .i64 (C0 : Nat), .int .i64 (C1 : Nat), .int .i64 0, .int .i64 0] 49 (0, 0)) ∧ S < W2.heap.size) := Lib.hid fun W1 h => by
    have hB : Below S w W1 := by
      rw [h]
      exact B0.out.1.alloc (by rw [B0.out.2]; exact Nat.le_refl _) _
    have hcell : W1.heap[S]? = some (.cells #[.int .i64 0, .int .i64 0, .int .i64 0, .int .i64 0] 49 (0, 0)) := by
      have := heap_alloc_new W0 (.cells #[.int .i64 0, .int .i64 0, .int .i64 0, .int .i64 0] 49)
      rw [B0.out.2] at this
      rw [h]
      exact this
    have hz : S < W1.heap.size := (Array.getElem?_eq_some_iff.1 hcell).1
    have hcb : ∀ i : Nat, i < 2 → W1.cell? ⟨gb, ob + i, none⟩ = some (.int .i64 ([C0, C1][i]! : Nat)) := fun i hi => (hB.cell (by show gb < S; exact hgb)).trans (CB.out i (by simpa using hi))
    refine ⟨W1.setRow S #[.int .i64 (C0 : Nat), .int .i64 (C1 : Nat), .int .i64 0, .int .i64 0], fun ty => ?_, hB.trans ⟨rfl, rfl, rfl, by simp [World.setRow], fun k hk => setRow_other W1 S k _ (by omega)⟩, setRow_heap W1 S _ _ _ _ hcell, by simpa [World.setRow] using hz⟩
    have hs : (Try.prog.info? 2).map (·.size) = some 1 := by
      obtain ⟨i0, hi0, -, hz1, -⟩ := info_parts info_i64
      rw [hi0]
      simp [hz1]
    exact run_copy_row Try.prog W1 24 24 ty 2 S 0 4 4 ⟨gb, ob, none⟩ 2 cb #[.int .i64 0, .int .i64 0, .int .i64 0, .int .i64 0] 49 [.int .i64 (C0 : Nat), .int .i64 (C1 : Nat)] Try.underlying24 hs hcell rfl (fun j v hj => by
      match j, hj with
      | 0, hj => simp at hj; rw [← hj]; exact hcb 0 (by omega)
      | 1, hj => simp at hj; rw [← hj]; exact hcb 1 (by omega)
      | j + 2, hj => simp at hj) (by simp) (by simp [Value.oneCell'])
  obtain ⟨W2, hcp, hB2, hc2, hlt2⟩ := F4.out _ rfl
  have B2 := Lib.hid (And.intro hB2 hlt2)
  have q0 := at_block hc2 0 rfl
  have q1 := at_block hc2 1 rfl
  have q2 := at_block hc2 2 rfl
  have q3 := at_block hc2 3 rfl
  simp only [List.getElem_toArray, List.getElem_cons_zero, List.getElem_cons_succ] at q0 q1 q2 q3
  clear F4 hB2 hc2 hz0 B0
  generalize World.alloc W0 _ = W1 at *
  go_upto_region 5 with (at_builtin; refine Lib.wpList_copy_run _ rfl _ _ _ _ rfl _ _ rfl rfl (hcp _) ?_)
  clear hcp
  obtain ⟨W4, hins, ho4, hg4⟩ := (World.ownsMap_made W2 Try.prog 49 (plainElem (H := Unit) Try.prog 2)).update keyedK Try.underlying50 (by unfold maxLen; omega) (keyOf_quad C0 C1 hC.1 hC.2) (plainElem_int Try.underlying2 (show (Lit.int .i64 1).wf = true by decide))
  have O4 := Lib.hid ho4
  have B4 : Hid (Below S w W4) := Lib.hid ((B2.out.1.alloc (Nat.le_of_lt B2.out.2) (.map #[] 0)).grown hg4 (by simp; omega) fun k e => by cases e; exact Nat.le_of_lt B2.out.2)
  clear ho4 hg4
  have hmm := @run_makeMap Try.prog
  have hmf : ∀ (fn : Fn) (first cap : Array Value) (w : World), (Instr.makeFunc fn first cap).run Try.prog w = .ok (.func fn first cap) w := fun _ _ _ _ => rfl
  go_upto_region 6 with fail
  have M0 : Hid (MapP ((.map [] : DV).put (kP C0 C1) (.lit (.int .i64 1))) C0 C1 (fS C0 C1 r0 r1 0)) := Lib.hid (mapP_congr (mapP_put injP (g := fun _ _ => 0) (u := C0) (v := C1) (m := 1) hC (mapP_empty C0 C1) (Nat.le_refl _) (Nat.le_refl _) (x := 1) rfl) fun u v => by
    show (if u = C0 ∧ v = C1 then 0 + 1 else 0) = startG C0 C1 u v
    unfold startG
    split <;> rfl)
  have HSB : Hid (S ≤ W2.heap.size) := Lib.hid (Nat.le_of_lt B2.out.2)
  clear q0 q1 q2 q3 hins hlt2 B2 CB RB RA
  generalize W2.heap.size = b0 at *
  go_wp2_with fail
  go_loopg [7, 38] 2 (fun k mv iv wr => ∃ (i bi n : Nat) (D : DV), mv = .map (some bi) ∧ iv = .int .i64 i ∧ i + k ≤ 2 ∧ 2 ≤ i + k ∧ OV wr bi n D ∧ MapP D C0 C1 (fS C0 C1 r0 r1 i) ∧ Below S w wr ∧ S ≤ bi)
  case atStart => exact ⟨0, b0, _, _, rfl, rfl, by omega, by omega, O4.out, M0.out, B4.out, HSB.out⟩
  case round =>
    clear O4 M0 B4 HSB
    obtain ⟨i, bi, n, D, rfl, rfl, h1, h2, hD, hM, hb, hbi⟩ := hrel
    have HD := Lib.hid hD
    have HM := Lib.hid hM
    have HB := Lib.hid (And.intro hb hbi)
    clear hD hM hb hbi
    by_cases hi : i < 2
    · have hiI : (i : Int) < 2 := by omega
      obtain ⟨ko, hko⟩ : ∃ ko, gk = ko + 1 := ⟨gk - 1, by omega⟩
      subst hko
      have HK : Hid (i + 1 + ko ≤ 2 ∧ 2 ≤ i + 1 + ko) := Lib.hid (by omega)
      have y0 : wr.cell? ⟨ga, oa + i, none⟩ = some (.int .i64 (rS r0 r1 i : Nat)) := by
        refine (HB.out.1.cell (by show ga < S; exact hga)).trans ((CA.out i hi).trans ?_)
        rcases (show i = 0 ∨ i = 1 by omega) with rfl | rfl <;> rfl
      have HFS := Lib.hid (fS_step C0 C1 r0 r1 i hi)
      have hrs : rS r0 r1 i ≤ 24 := by
        rcases (show i = 0 ∨ i = 1 by omega) with rfl | rfl
        · exact hr.1
        · exact hr.2
      generalize fS C0 C1 r0 r1 i = f at *
      generalize rS r0 r1 i = r at *
      have hbl := HD.out.lt
      clear h1 h2
      go_upto_region 10 with fail
      have F5 : Hid (∀ W5, W5 = (wr.alloc (.map #[] 0)).alloc (.cells #[.map (some wr.heap.size)] 50) → OV W5 bi n D ∧ OV W5 wr.heap.size 0 (.map []) ∧ W5.cell? ⟨wr.heap.size + 1, 0, none⟩ = some (.map (some wr.heap.size)) ∧ W5.heap.size = wr.heap.size + 2 ∧ Below wr.heap.size wr W5) := Lib.hid fun W5 h => by
        subst h
        refine ⟨(HD.out.alloc _).alloc _, (World.ownsMap_made wr _ _ _).alloc _, at_new _ _ _ _ _ _ (by simp) rfl, by simp, below_al (below_al (Below.refl _ _) _) _⟩
      have hF := F5.out _ rfl
      have HD5 := Lib.hid hF.1
      have HN5 := Lib.hid hF.2.1
      have HX5 := Lib.hid hF.2.2
      clear F5 hF y0
      generalize World.alloc (World.alloc wr _) _ = W5 at *
      have HLT := Lib.hid hbl
      have HSW : Hid (S ≤ wr.heap.size) := Lib.hid (by have := HB.out.1.size; rw [HWS.out] at this; exact this)
      generalize hbn : wr.heap.size = bn at *
      have HBN := Lib.hid hbn
      clear hbn
      go_wp2_with (at_range; refine wpList_range_own _ rfl _ 50 rfl 49 2 keyedK Try.underlying50 _ bi n _ rfl HD5.out ?_; intro w0 hrg0 hg0 hs0)
      go_frame
      have START : Hid (w0.ranges Try.prog 49 (plainElem (H := Unit) Try.prog 2) bi W5.heap.size n D (has D) (Maps.size D) ∧ OV w0 bn 0 (.map []) ∧ w0.cell? ⟨bn + 1, 0, none⟩ = some (.map (some bn)) ∧ Below bn wr w0) := Lib.hid ⟨hrg0, HN5.out.kept hg0 (by simp), (World.cell?_of_block (hg0.block (bn + 1) (by have := HX5.out.2.1; omega) (by simp))).trans HX5.out.1, HX5.out.2.2.trans ⟨hg0.os, hg0.tape, hg0.output, hg0.size, fun k hk => hg0.block k (by have := HX5.out.2.1; omega) (by simp)⟩⟩
      have hrI : bn + 2 = W5.heap.size := HX5.out.2.1.symm
      clear hrg0 hg0 hs0
      generalize W5.heap.size = rI at *
      have HRI := Lib.hid hrI
      clear hrI
      go_loopg [45] (Maps.size D) (fun k _ wz => ∃ (left : Lit → Bool) (cnt n' : Nat) (D' : DV), cnt ≤ k ∧ wz.ranges Try.prog 49 (plainElem (H := Unit) Try.prog 2) bi rI n D left cnt ∧ OV wz bn n' D' ∧ MapP D' C0 C1 (partG f C0 C1 r left) ∧ wz.cell? ⟨bn + 1, 0, none⟩ = some (.map (some bn)) ∧ Below bn wr wz)
      case atStart => exact ⟨_, _, _, _, Nat.le_refl _, START.out.1, START.out.2.1, mapP_congr (mapP_empty C0 C1) (fun u v => (partG_start HM.out r u v).symm), START.out.2.2.1, START.out.2.2.2⟩
      case round =>
        rename World => wz
        obtain ⟨left, cnt, n', D', hck, hrg, ho, hm, hc, hb⟩ := hrel
        have HRG := Lib.hid hrg
        have HO := Lib.hid ho
        have HMP := Lib.hid hm
        have HCK := Lib.hid hck
        have HBZ := Lib.hid hb
        have HCX := Lib.hid hc
        clear START hrg ho hm hck hb
        go_wp2_with (at_next; refine wpList_next_ranges _ rfl _ rfl 49 keyedK (plainElem (H := Unit) Try.prog 2) Value.agg (Value.int .i64) invQ invI bi rI n _ _ _ rfl HRG.out ?_ ?_)
        · intro _ hl0
          have M9 : Hid (MapP D' C0 C1 (fS C0 C1 r0 r1 (i + 1))) := Lib.hid (mapP_congr HMP.out fun u v => (partG_end hl0 r u v).trans (by rw [HFS.out]))
          clear hl0
          go_wp2_with fail
          go_roundg ko
          case rel => exact ⟨i + 1, bn, n', D', rfl, by go_num, HK.out.1, HK.out.2, HO.out, M9.out, HB.out.1.trans (HBZ.out.mono (by have := HSW.out; omega)), by have := HSW.out; omega⟩
          case measure => exact Nat.lt_succ_self _
        · intro x c kl y ps w1 cnt1 hkey hleft hval hat hrg1 hlt1 hg1 hs1 hen
          obtain ⟨u, v, hu, hv, rfl, rfl, rfl⟩ := entry_pair hC HM.out hkey hval hat
          have HLF := Lib.hid hleft
          have HRG1 := Lib.hid hrg1
          have HL1 : Hid (cnt1 < cnt) := Lib.hid hlt1
          have HG1 := Lib.hid hg1
          clear hkey hleft hval hat hrg1 hlt1 hg1 hc
          have hrIl : rI < wz.heap.size := HRG.out.lt
          go_upto_region 13 with fail
          have F6 : Hid (∀ W6, W6 = (w1.alloc (.cells #[.int .i64 (u : Nat), .int .i64 (v : Nat), .int .i64 0, .int .i64 0] 49)).alloc (.cells #[.int .i64 (wrap64 ((f u v : Nat) : Int))] 2) → VM wz.heap.size (bn + 1) (wz.heap.size + 1) bn u v (f u v) C0 C1 (partG f C0 C1 r left) [bn] W6 ∧ W6.heap.size = wz.heap.size + 2 ∧ W6.ranges Try.prog 49 (plainElem (H := Unit) Try.prog 2) bi rI n D (fun z => left z && !z.sameKey (kP u v)) cnt1 ∧ Below bn wr W6) := Lib.hid fun W6 h => by
            have e1 := HRI.out
            have hne : ∀ k, k ≤ bn + 1 → (some k : Option Nat) ≠ some rI := fun k hk e => by have := Option.some.inj e; omega
            have ho1 := HO.out.kept HG1.out (hne bn (by omega))
            have hcl : bn + 1 < wz.heap.size := lt_of_cell (a := ⟨bn + 1, 0, none⟩) HCX.out
            have hc1 : w1.cell? ⟨bn + 1, 0, none⟩ = some (.map (some bn)) := (World.cell?_of_block (HG1.out.block (bn + 1) hcl (hne _ (Nat.le_refl _)))).trans HCX.out
            subst h
            refine ⟨⟨rfl, ⟨n', D', (ho1.alloc _).alloc _, HMP.out⟩, ?_, ?_, ?_, ?_, at_up _ (at_up _ hc1), ?_⟩, by simp [hs1], (HRG1.out.alloc _).alloc _, ?_⟩
            · exact at_up _ (at_new _ _ _ _ _ _ hs1 rfl)
            · exact at_up _ (at_new _ _ _ _ _ _ hs1 rfl)
            · exact at_up _ (at_new _ _ _ _ _ _ hs1 rfl)
            · exact at_up _ (at_new _ _ _ _ _ _ hs1 rfl)
            · exact at_new _ _ _ _ _ _ (by simp [hs1]) (by rw [← w64y]; rfl)
            · have hb1 : Below bn wr w1 := HBZ.out.trans ⟨HG1.out.os, HG1.out.tape, HG1.out.output, HG1.out.size, fun k hk => HG1.out.block k (by omega) (hne k (by omega))⟩
              exact (hb1.alloc (by omega) _).alloc (by simp; omega) _
          have hF := F6.out _ rfl
          have V6 := Lib.hid hF.1
          have Z6 := Lib.hid hF.2
          clear F6 hF hen
          generalize World.alloc (World.alloc w1 _) _ = W6 at *
          have hbz : bn < wz.heap.size := HO.out.lt
          have HEA := Lib.hid (eachRowT_any (VM wz.heap.size (bn + 1) (wz.heap.size + 1) bn u v (f u v) C0 C1) (fun g row => bump g (u - row[0]!) (v - row[1]!) (f u v)) wz.heap.size 0 4 (.pointer (some ⟨wz.heap.size, 0, none⟩)) (.pointer (some ⟨bn + 1, 0, none⟩)) (.pointer (some ⟨wz.heap.size + 1, 0, none⟩)) [u, v] r (partG f C0 C1 r left) [bn] W6
            (visitT wz.heap.size (bn + 1) (wz.heap.size + 1) bn u v (f u v) C0 C1 r W6.heap.size hC hu hv (by have := Z6.out.1; omega) (by omega))
            (VM.VF (by have := Z6.out.1; omega) (by have := Z6.out.1; omega) (by have := Z6.out.1; omega)) (by simp) (fun i hi => by
              rcases (show i = 0 ∨ i = 1 by simp at hi; omega) with rfl | rfl
              · show u ≤ _; omega
              · show v ≤ _; omega) (by omega) V6.out (fun b hb => by simp at hb; have := Z6.out.1; omega) ⟨by simp; omega, by have := Z6.out.1; omega⟩ (fun i hi => by
              rcases (show i = 0 ∨ i = 1 by simp at hi; omega) with rfl | rfl
              · exact V6.out.l0
              · exact V6.out.l1))
          rw [show ([u, v] : List Nat).length = 2 from rfl] at HEA
          go_wp2_with (go_at_call 27; (with_reducible refine HEA.out.mono ?_); rintro e w2 ⟨rfl, gs2, hV2, hK2, -⟩; have V2 := Lib.hid hV2; have K2 := Lib.hid hK2; clear hV2 hK2)
          go_roundg (gk - 1)
          case rel =>
            obtain ⟨n2, D2, ho2, hm2⟩ := V2.out.o
            refine ⟨_, cnt1, n2, D2, by have h1 := HCK.out; have h2 := HL1.out; omega, Z6.out.2.1.kept (row := some bn) ⟨K2.out.os, K2.out.tape, K2.out.output, K2.out.size, fun k hk hn => K2.out.block k hk (by simp; exact fun e => hn (by rw [e]))⟩ (by have := HLT.out; intro e; have := Option.some.inj e; omega) (by have := HRI.out; intro e; have := Option.some.inj e; omega), ho2, mapP_congr hm2 fun k1 k2 => ?_, V2.out.x, Z6.out.2.2.trans (K2.out.below (by have := Z6.out.1; omega) fun b hb => by simp at hb; omega)⟩
            rw [rows_bump]
            exact (partG_step injP hC hu hv HLF.out r k1 k2).symm
          case measure => have h1 := HCK.out; have h2 := HL1.out; omega
    · obtain rfl : i = 2 := by omega
      obtain ⟨ct, hlk, hat, hwc⟩ := HD.out.lookup_int keyedK Try.underlying50 Try.underlying2 (zeroI wr) (keyOf_quad 0 0 (by omega) (by omega))
      have hct : ct = IntKind.i64.wrap ((fS C0 C1 r0 r1 2 0 0 : Nat) : Int) := by
        have h1 := HM.out.2.2.1 0 0 (by omega) (by omega)
        rw [h1] at hat
        injection hat with hat
        injection hat with _ hat
        exact hat.symm
      subst hct
      rw [show ((0 : Nat) : Int) = 0 from rfl] at hlk
      have HB9 : Hid (Below w.heap.size w wr) := Lib.hid (by rw [HWS.out]; exact HB.out.1)
      clear hat hwc
      generalize hrv : IntKind.i64.wrap ((fS C0 C1 r0 r1 2 0 0 : Nat) : Int) = rv at *
      have HRV := Lib.hid hrv
      clear hrv
      go_wp2_with fail
      go_ret2
      exact ⟨by rw [HRV.out]; rfl, HB9.out⟩
end Go.Proofs.Ytbpigeipjeegiaa
