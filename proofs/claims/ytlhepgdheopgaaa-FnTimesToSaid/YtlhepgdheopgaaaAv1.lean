/-
  Contracts of the laws' helpers on slices of 64 bit integers: copy, compare, write marks, read marks.
  slices.DeleteFunc of integers: the shelf's contract laid at this program (written by the kit's lay-plain.mjs out of one shelf_lay_g line).
  The states but some: impl.numbersFrom, slices.Contains, and the shelf's slices.DeleteFunc at the closure of statesBut.
  statesBut; rows of single numbers that the call owns, with a row that grows, all apart.
  What times and chances are of (plain), and rows of single numbers that the call owns with a row that grows, all apart.
-/
import Derived.Test.YtlhepgdheopgaaaCh
import Derived.BigQuiet
import Derived.Shelf.SlLaysH
import Derived.Shelf.SlGeneric
import Derived.Ground.SlgfProg
import Derived.Test.YtlhepgdheopgaaaProg
import Derived.Test.YtlhepgdheopgaaaSl3
import Derived.Test.YtlhepgdheopgaaaStep
import Derived.Test.YtlhepgdheopgaaaOut
import Derived.Test.YtlhepgdheopgaaaVa3
import Derived.Shelf.SlicesE.DeleteFunc
import Derived.Sort.OwnSortedInts
namespace Go.Proofs.Ytlhepgdheopgaaa
open Go Go.RowKit

theorem info_i64 : (Try.prog.info? 2).map (fun i => (i.zero, i.size, i.bytes)) = some (some (.int .i64 0), 1, 8) := by kernel_rfl

/-- a number that is no NaN as a double -/
theorem wide_run (x : Nat) (h : isNan Ieee.single x = false) : ∃ r, (∀ W : World, (convert 31 37 (.float .f32 x)).run Try.prog W = .ok (.float .f64 r) W) ∧ isNan Ieee.double r = false := by
  have hs : (Try.prog.underlying 31).isSome = true := by rw [Try.underlying31]; rfl
  obtain ⟨r, hr, hr2⟩ := wide x h
  exact ⟨r, fun W => run_convert_float_float W _ _ .f32 .f64 x r hs Try.underlying37 hr, hr2⟩

theorem il_take_succ {xs : List Int} {k : Nat} (h : k < xs.length) (rest : List Value) (hr : 0 < rest.length) :
    (il (xs.take k) ++ rest).set k (.int .i64 xs[k]) = il (xs.take (k + 1)) ++ rest.tail := by
  have hl : (il (xs.take k)).length = k := by rw [il_len, List.length_take]; omega
  rw [List.set_append_right _ _ (by omega), hl, Nat.sub_self]
  cases rest with
  | nil => simp at hr
  | cons r rs =>
    simp only [List.set_cons_zero, List.tail_cons]
    rw [List.take_succ_eq_append_getElem h]
    unfold il
    rw [List.map_append, List.append_assoc]
    rfl

/-- the marks that a slice of integers gets -/
def marksI (k : Int) : Nat → List Int
  | 0 => []
  | n + 1 => marksI k n ++ [k + n]
theorem marksI_len (k : Int) (n : Nat) : (marksI k n).length = n := by
  induction n with
  | zero => rfl
  | succ n ih => simp [marksI, ih]
theorem marksI_get (k : Int) (n j : Nat) (h : j < n) (hj : j < (marksI k n).length) : (marksI k n)[j] = k + j := by
  induction n with
  | zero => omega
  | succ n ih =>
    simp only [marksI]
    rcases Nat.lt_or_ge j n with h1 | h1
    · rw [List.getElem_append_left (by rw [marksI_len]; exact h1)]
      exact ih h1 _
    · have : j = n := by omega
      subst this
      rw [List.getElem_append_right (by rw [marksI_len]; omega)]
      simp [marksI_len]
theorem marksI_set (k : Int) (j : Nat) (ys : List Value) (h : j < ys.length) : (il (marksI k j) ++ ys.drop j).set j (.int .i64 (k + j)) = il (marksI k (j + 1)) ++ ys.drop (j + 1) := by
  have hl : (il (marksI k j)).length = j := by rw [il_len, marksI_len]
  rw [List.set_append_right _ _ (by omega), hl, Nat.sub_self, List.drop_eq_getElem_cons h]
  simp only [List.set_cons_zero, marksI]
  unfold il
  rw [List.map_append, List.append_assoc]
  rfl

end Go.Proofs.Ytlhepgdheopgaaa

namespace Go.Proofs
open Go.Shelf
def Try.delI_ren : Go.Shelf.Ren := ⟨fun | 10 => 81 | 6 => 90 | n => n, fun | 22 => 49 | 23 => 2 | 25 => 78 | 3 => 3 | 4 => 4 | 0 => 0 | n => n, fun | n => n⟩
theorem Try.delI : Go.Proofs.SlLaysH.n10 Try.prog Try.delI_ren := {
  mixed := by kernel_rfl
  f6 := ⟨Try.f90.name, by decide, Try.func90.trans (congrArg some (by kernel_rfl))⟩
  f10 := ⟨Try.f81.name, by decide, Try.func81.trans (congrArg some (by kernel_rfl))⟩
  t0 := Try.underlying0
  a0 := Try.isAgg0
  z0 := Try.sizeOf0
  v0 := Try.zeroValue0
  t3 := Try.underlying3
  a3 := Try.isAgg3
  z3 := Try.sizeOf3
  v3 := Try.zeroValue3
  t4 := Try.underlying4
  a4 := Try.isAgg4
  z4 := Try.sizeOf4
  v4 := Try.zeroValue4
  t22 := Try.underlying49
  a22 := Try.isAgg49
  z22 := Try.sizeOf49
  v22 := Try.zeroValue49
  a23 := Try.isAgg2
  z23 := Try.sizeOf2
  t25 := Try.underlying78
  a25 := Try.isAgg78
  z25 := Try.sizeOf78
  v25 := Try.zeroValue78 }
end Go.Proofs

namespace Go.Proofs.Ytlhepgdheopgaaa
open Go Go.RowKit Go.Sort

def nlv (l : List Nat) : List Value := l.map fun n => Value.int .i64 (n : Nat)
theorem nlv_len (l : List Nat) : (nlv l).length = l.length := by simp [nlv]
theorem nlv_snoc (l : List Nat) (k : Nat) : nlv (l ++ [k]) = nlv l ++ [.int .i64 (k : Nat)] := by simp [nlv]
def stateB (n i : Int) : Bool := inB i 0 (n - 1)
set_option maxHeartbeats 400000 in
theorem isState_any (n i : Int) (A : Option Addr) (m c : Nat) (w : World) (hn : 1 ≤ n ∧ n ≤ 12) : Calls Try.prog 64 #[.agg #[.int .i64 n, .slice A m c], .int .i64 i] w (fun e w' => e = .returned (.bool (stateB n i)) ∧ Below w.heap.size w w') := by
  have HW := Lib.hid fun w => within_any i 0 (n - 1) w
  have HR : Hid (stateB n i = inB i 0 (n - 1)) := Lib.hid rfl
  obtain ⟨n0, n1⟩ := hn
  go_enter Try.func64, Try.ntmps64
  go_wp2_with (go_at_call 51; refine (HW.out _).mono ?_; rintro e w1 ⟨rfl, m, rfl⟩)
  go_ret
  rw [HR.out]
  exact ⟨rfl, below_drewN (below_al (Below.refl _ _) _) _⟩

def upsN (n : Nat) : List Int := (List.range n).map Int.ofNat
theorem upsN_len (n : Nat) : (upsN n).length = n := by simp [upsN]
theorem upsN_succ (n : Nat) : upsN (n + 1) = upsN n ++ [(n : Int)] := by simp [upsN, List.range_succ]
/-- the states that are none of some -/
def openL (n : Nat) (but : List Int) : List Int := (upsN n).filter fun x => !but.contains x

set_option maxRecDepth 100000 in
theorem numbersFrom_any (n : Nat) (hn : 1 ≤ n ∧ n ≤ 64) (w : World) : Calls Try.prog 82 #[.int .i64 0, .int .i64 ((n : Int) - 1)] w (fun e w' => ∃ A c, e = .returned (.slice A n c) ∧ w'.ownsRow w.heap.size 2 1 (.slice A n c) n (il (upsN n)) ∧ Below w.heap.size w w') := by
  obtain ⟨j0, hj0, hy0, hy1, hy2⟩ := info_parts info_i64
  obtain ⟨n1, n2⟩ := hn
  have START : Hid (Grow w 2 0 [] (.slice (some ⟨w.heap.size, 0, none⟩) 0 0) (w.alloc (.cells #[] 2))) := Lib.hid (Grow.empty _ _)
  have HUP : Hid (∀ k, il (upsN (k + 1)) = il (upsN k) ++ [.int .i64 (k : Nat)]) := Lib.hid fun k => by rw [upsN_succ]; simp [il]
  go_enter Try.func82, Try.ntmps82
  go_wp2_with fail
  go_loopw [5, 6] (fun v kv wr => ∃ k : Nat, k ≤ n ∧ kv = .int .i64 k ∧ Grow w 2 k (il (upsN k)) v wr) (fun _ kv _ => n - (intOf kv).toNat)
  case atStart => exact ⟨0, Nat.zero_le _, rfl, START.out⟩
  case round =>
    obtain ⟨k, hk, rfl, hb, A, c, rfl, ho⟩ := hrel
    rename World => wr
    have HB := Lib.hid hb
    have HO := Lib.hid ho
    have hz := hb.size
    clear hb ho START
    by_cases hlt : k < n
    · have hle : (k : Int) ≤ (n : Int) - 1 := by omega
      go_wp2_with (refine wpList_append_lies _ rfl _ _ _ rfl w.heap.size 2 j0 _ 1 8 Try.underlying49 hj0 hy0 hy1 hy2 rfl (by omega) (.slice A k c) k (il (upsN k)) (by rfl) (HO.out.alloc _) ⟨wr.heap.size, 0, none⟩ 1 1 [.int .i64 (k : Nat)] (by rfl) (by rfl) (World.news_of_block (cs := #[.int .i64 (k : Nat)]) (t := 2) (fr := (0, 0)) (heap_alloc_new wr _)) (by simp [Value.oneCell']) (by omega) (by unfold maxLen; omega) (by omega) (by simp; omega) (wr.heap.size + 1) (by simp) ?_; intro g9 cap9 w9 hown9 hgrow hat hlt9; have G9 := Lib.hid (Grow.step HB.out HO.out (Below.refl _ _) hgrow hown9); clear hown9 hgrow hat)
      go_roundw
      case rel => exact ⟨k + 1, by omega, by go_num, by rw [HUP.out]; exact G9.out⟩
      case measure => simp [intOf]; omega
    · obtain rfl : k = n := by omega
      go_wp2_with fail
      go_ret
      exact ⟨A, c, rfl, HO.out, HB.out⟩

def idxI (x : Int) (xs : List Int) : Int := match xs.findIdx? (fun y => x == y) with | some i => i | none => -1
theorem idxI_hit {x : Int} {xs : List Int} {k : Nat} (hk : k < xs.length) (h0 : (xs.take k).contains x = false) (h1 : xs[k] = x) : idxI x xs = k := by
  have : xs.findIdx? (fun y => x == y) = some k := by
    rw [List.findIdx?_eq_some_iff_getElem]
    refine ⟨hk, by simp [h1], fun j hj => ?_⟩
    intro e
    have e : x = xs[j] := by simpa using e
    have : (xs.take k).contains x = true := by
      rw [List.contains_iff_mem, e]
      exact List.mem_take_iff_getElem.2 ⟨j, by omega, rfl⟩
    rw [h0] at this
    cases this
  unfold idxI
  rw [this]
theorem idxI_none {x : Int} {xs : List Int} (h : xs.contains x = false) : idxI x xs = -1 := by
  have : xs.findIdx? (fun y => x == y) = none := by
    rw [List.findIdx?_eq_none_iff]
    intro y hy
    cases he : x == y with
    | false => rfl
    | true =>
      have e : x = y := by simpa using he
      subst e
      have : xs.contains x = true := List.contains_iff_mem.2 hy
      rw [h] at this
      cases this
  unfold idxI
  rw [this]
theorem idxI_any (x : Int) (xs : List Int) : (decide (0 ≤ idxI x xs)) = xs.contains x := by
  cases ha : xs.contains x with
  | false => rw [idxI_none ha]; rfl
  | true =>
    have hm : x ∈ xs := List.contains_iff_mem.1 ha
    unfold idxI
    cases hf : xs.findIdx? (fun y => x == y) with
    | none =>
      rw [List.findIdx?_eq_none_iff] at hf
      have := hf x hm
      simp at this
    | some i => simp
set_option maxHeartbeats 400000 in
theorem Index_il (A : Option Addr) (xs : List Int) (c : Nat) (x : Int) (w : World) (hx : xs.length ≤ 9223372036854775807) (h : Rd w w.heap.size A (il xs)) : Calls Try.prog 91 #[.slice A xs.length c, .int .i64 x] w (Quiet (.int .i64 (idxI x xs)) w) := by
  go_enter Try.func91, Try.ntmps91
  go_wp2
  go_loopw [8] (fun i wr => ∃ k m : Nat, k ≤ xs.length ∧ i = .int .i64 k ∧ (xs.take k).contains x = false ∧ wr = w.drewN m) (fun i _ => xs.length - (intOf i).toNat)
  case atStart => exact ⟨0, 0, Nat.zero_le _, rfl, by simp, rfl⟩
  case round =>
    obtain ⟨k, m, hk, rfl, hall, rfl⟩ := hrel
    have HALL := Lib.hid hall
    clear hall
    by_cases hlt : k < xs.length
    · obtain ⟨b, off, rfl, hb, hc⟩ := h.ilAt hlt
      clear h
      by_cases he : x = xs[k]
      · have HI := Lib.hid (idxI_hit hlt HALL.out he.symm)
        have hbe : (x == xs[k]) = true := by simp [he]
        have HC : Hid True := Lib.hid trivial
        clear he
        generalize xs[k] = y at *
        go_wp2
        go_ret
        rw [HI.out]
        exact ⟨rfl, m, rfl⟩
      · have HT : Hid ((xs.take (k + 1)).contains x = false) := Lib.hid (by
          rw [List.take_succ_eq_append_getElem hlt, List.contains_eq_any_beq, List.any_append, ← List.contains_eq_any_beq, HALL.out]
          simp [he])
        have hbe : (x == xs[k]) = false := by simp [he]
        clear he
        generalize xs[k] = y at *
        go_wp2
        go_roundw
        case rel => exact ⟨k + 1, m, by omega, by go_num, HT.out, rfl⟩
        case measure => simp [intOf]; omega
    · have hr : idxI x xs = -1 := by
        have h1 := HALL.out
        rw [List.take_of_length_le (by omega)] at h1
        exact idxI_none h1
      have HR := Lib.hid hr
      clear hr
      go_wp2
      go_ret
      rw [HR.out]
      exact ⟨rfl, m, rfl⟩
theorem Contains_il (A : Option Addr) (xs : List Int) (c : Nat) (x : Int) (w : World) (hx : xs.length ≤ 9223372036854775807) (h : Rd w w.heap.size A (il xs)) : Calls Try.prog 84 #[.slice A xs.length c, .int .i64 x] w (Quiet (.bool (xs.contains x)) w) := by
  have HG := Lib.hid (Index_il A xs c x w hx h)
  have HA := Lib.hid (idxI_any x xs)
  go_enter Try.func84, Try.ntmps84
  go_wp2_with (go_at_call 91; refine (HG.out).mono ?_; rintro e w' ⟨rfl, n, rfl⟩)
  go_ret
  exact ⟨retB HA.out, n, rfl⟩
theorem but_any (b : Nat) (A : Option Addr) (xs : List Int) (c : Nat) (x : Int) (w : World) (hx : xs.length ≤ 9223372036854775807) (h0 : w.cell? ⟨b, 0, none⟩ = some (.slice A xs.length c)) (h : Rd w w.heap.size A (il xs)) :
    Calls Try.prog 83 #[.int .i64 x, .pointer (some ⟨b, 0, none⟩)] w (Quiet (.bool (xs.contains x)) w) := by
  have HG := Lib.hid (Contains_il A xs c x w hx h)
  clear h
  generalize xs.contains x = r at *
  go_enter Try.func83, Try.ntmps83
  go_wp2_with (go_at_call 84; refine (HG.out).mono ?_; rintro e w' ⟨rfl, n, rfl⟩)
  go_ret
  exact ⟨rfl, n, rfl⟩

theorem Rd.pre {w : World} {B : Nat} {A : Option Addr} {vs us : List Value} (h : Rd w B A (vs ++ us)) : Rd w B A vs := fun h0 => by
  obtain ⟨b, off, e, hb, hc⟩ := h (by rw [List.length_append]; omega)
  exact ⟨b, off, e, hb, fun k hk => by rw [hc k (by rw [List.length_append]; omega), List.getElem_append_left hk]⟩
theorem delete_own (xs but : List Int) (base g cap b c : Nat) (B : Option Addr) (w : World) (ho : w.ownsRow base 2 1 (.slice (some ⟨g, 0, none⟩) xs.length cap) xs.length (il xs)) (hbase : base ≤ g) (h1 : xs.length ≤ 64) (hb : but.length ≤ 64) (hbg : b ≠ g) (h0 : w.cell? ⟨b, 0, none⟩ = some (.slice B but.length c)) (hB : Rd w g B (il but)) :
    Calls Try.prog 81 #[.slice (some ⟨g, 0, none⟩) xs.length cap, .func (.func 83) #[] #[.pointer (some ⟨b, 0, none⟩)]] w (fun e w' => e = .returned (.slice (some ⟨g, 0, none⟩) (xs.filter fun x => !but.contains x).length cap) ∧ Rd w' w'.heap.size (some ⟨g, 0, none⟩) (il (xs.filter fun x => !but.contains x)) ∧ w.grownBy w' (some g)) := by
  have hlt := (ho.lt g rfl).2
  rcases ho.2 with ⟨hv, _⟩ | ⟨g', cap', cur, hv, hbg', hh, hn, hc, hs, ht⟩
  · cases hv
  · cases hv
    rw [Nat.mul_one] at ht
    have hH := holds_of_blockI hh ht
    have hltb : b < w.heap.size := lt_of_cell (a := ⟨b, 0, none⟩) h0
    have eg : ∀ args w, (callFunc 83 args).run Try.prog w = .ok (.enter 83 args) w := enters_of Try.func83 (by kernel_rfl) rfl
    have hp : PredAt Try.prog 83 #[.pointer (some ⟨b, 0, none⟩)] (Value.int .i64) (fun x => but.contains x) w := fun W x hW => by
      have := but_any b B but c x W (by omega) (keepC hW h0) (((hB.more (Nat.le_of_lt hlt)).at_ hW))
      exact this
    have hpo : PredOver Try.prog 83 #[.pointer (some ⟨b, 0, none⟩)] (Value.int .i64) (fun x => but.contains x) g 0 xs.toArray.size w := fun n os dk x _ => by
      have hcell : ∀ p : Addr, p.block ≠ g → p.block < w.heap.size → (sortWorld (Value.int .i64) w g 0 n dk os).cell? p = w.cell? p := fun p hp hpl => by
        unfold sortWorld
        rw [cell?_grow _ _ _ (by rw [size_putRow]; exact hpl), cell?_putRow_other _ _ g 0 _ _ (Or.inl hp)]
        rfl
      refine but_any b B but c x _ (by omega) ((hcell _ hbg hltb).trans h0) ?_
      have hk : Rd (sortWorld (Value.int .i64) w g 0 n dk os) g B (il but) := hB.keep fun p hp => hcell p (by omega) (by omega)
      refine hk.more ?_
      have hsz : w.heap.size ≤ (sortWorld (Value.int .i64) w g 0 n dk os).heap.size := by
        unfold sortWorld
        simp [grow]
      exact Nat.le_of_lt (Nat.lt_of_lt_of_le hlt hsz)
    have H := AnyE.slices_DeleteFunc Try.delI (Value.int .i64) (fun _ => rfl) (fun x => but.contains x) 83 #[.pointer (some ⟨b, 0, none⟩)] eg 0 Try.zeroValue2 g 0 cap xs.toArray w hp hpo hH (by simp; omega) (by simpa using hn)
    refine H.mono ?_
    rintro e w' ⟨rfl, q, rfl⟩
    have e1 : (xs.toArray.toList.filter fun x => !but.contains x) = xs.filter fun x => !but.contains x := rfl
    have hl : ((xs.filter fun x => !but.contains x) ++ List.replicate (xs.toArray.size - (xs.filter fun x => !but.contains x).length) (0 : Int)).length = xs.length := by
      rw [List.length_append, List.length_replicate]
      have := List.length_filter_le (fun x => !but.contains x) xs
      have e2 : xs.toArray.size = xs.length := List.size_toArray
      omega
    have hown := ownsRow_sortedI (os := #[]) (n := q) hl hbg' hh hn hc hs
    have hgr := grownBy_sortedI (w := w) (g := g) (n := q) (os := #[]) ((xs.filter fun x => !but.contains x) ++ List.replicate (xs.toArray.size - (xs.filter fun x => !but.contains x).length) (0 : Int)).toArray
    rw [grow_empty] at hown hgr
    refine ⟨rfl, ?_, hgr⟩
    have hrd := Rd.of_own hown
    rw [List.map_append] at hrd
    exact hrd.pre
end Go.Proofs.Ytlhepgdheopgaaa

namespace Go.Proofs.Ytlhepgdheopgaaa
open Go Go.RowKit

set_option maxHeartbeats 800000 in
theorem statesBut_any (n : Nat) (hn : 1 ≤ n ∧ n ≤ 12) (A : Option Addr) (m cA : Nat) (B : Option Addr) (but : List Int) (c : Nat) (w : World) (hb : but.length ≤ 64) (h : Rd w w.heap.size B (il but)) :
    Calls Try.prog 66 #[.agg #[.int .i64 n, .slice A m cA], .slice B but.length c] w (fun e w' => ∃ g cap, e = .returned (.slice (some ⟨g, 0, none⟩) (openL n but).length cap) ∧ w.heap.size ≤ g ∧ Rd w' w'.heap.size (some ⟨g, 0, none⟩) (il (openL n but)) ∧ Below w.heap.size w w') := by
  have HN := Lib.hid fun W => numbersFrom_any n (by omega) W
  have HD := Lib.hid fun base g cap b W h1 h2 h3 h4 h5 => delete_own (upsN n) but base g cap b c B W h1 h2 (by rw [upsN_len]; omega) hb h3 h4 h5
  have HO : Hid ((upsN n).filter (fun x => !but.contains x) = openL n but) := Lib.hid rfl
  have HL := Lib.hid (upsN_len n)
  rw [HL.out] at HD
  rw [HO.out] at HD
  have HR := Lib.hid h
  obtain ⟨n1, n2⟩ := hn
  clear h
  generalize openL n but = L at *
  go_enter Try.func66, Try.ntmps66
  go_upto_region 1 with fail
  generalize hW1 : World.alloc (World.alloc w _) _ = W1
  have c0 : W1.cell? ⟨w.heap.size, 0, none⟩ = some (.int .i64 n) := by rw [← hW1]; simp [go_sem]
  have c1 : W1.cell? ⟨w.heap.size + 1, 0, none⟩ = some (.slice B but.length c) := by rw [← hW1]; simp [go_sem]
  have HB1 : Hid (Below w.heap.size w W1) := by rw [← hW1]; exact Lib.hid (below_al (below_al (Below.refl _ _) _) _)
  have HS1 : Hid (W1.heap.size = w.heap.size + 1 + 1) := by rw [← hW1]; exact Lib.hid (by simp)
  clear hW1
  go_wp2_with (go_at_call 82; refine (HN.out _).mono ?_; rintro e w2 ⟨A2, cap2, rfl, hown2, hb2⟩)
  have hown2' := hown2
  obtain ⟨g, hA, hg⟩ : ∃ g, A2 = some ⟨g, 0, none⟩ ∧ W1.heap.size ≤ g := by
    rcases hown2.2 with ⟨hv, h0⟩ | ⟨g', cap', cur, hv, hbg', -⟩
    · omega
    · injection hv with hA
      exact ⟨g', hA, hbg'⟩
  subst hA
  have c2 : w2.cell? ⟨w.heap.size + 1, 0, none⟩ = some (.slice B but.length c) := keepC hb2 c1
  have HG := Lib.hid hg
  have HO2 := Lib.hid hown2
  have HB2 := Lib.hid hb2
  clear hown2 hown2' hb2 c0 c1 hg
  go_wp2_with (go_at_call 81; refine (HD.out W1.heap.size g cap2 (w.heap.size + 1) _ (by first | exact HO2.out | exact own_below HO2.out (below_al (Below.refl _ _) _)) HG.out (by have := HG.out; have := HS1.out; omega) (by first | exact c2 | exact keepC (below_al (Below.refl _ _) _) c2) ((HR.out.below (below_next HB1.out HB2.out)).more (by have := HG.out; have := HB1.out.size; omega))).mono ?_; rintro e w3 ⟨rfl, hrd, hgr⟩; have HRD := Lib.hid hrd; have HGR := Lib.hid hgr; clear hrd hgr)
  go_ret
  refine ⟨g, cap2, rfl, by have := HG.out; have := HB1.out.size; omega, HRD.out, (below_next HB1.out HB2.out).grown HGR.out (below_next HB1.out HB2.out).size fun j hj => ?_⟩
  injection hj with hj
  have := HG.out
  have := HB1.out.size
  omega
end Go.Proofs.Ytlhepgdheopgaaa

namespace Go.Proofs.Ytlhepgdheopgaaa
open Go Go.RowKit Ieee

/-- the states that are none of some, as numbers -/
def openN (n : Nat) (but : List Int) : List Nat := (List.range n).filter fun i => !but.contains (i : Int)
theorem openL_N (n : Nat) (but : List Int) : il (openL n but) = nlv (openN n but) ∧ (openL n but).length = (openN n but).length := by
  have e : openL n but = (openN n but).map Int.ofNat := by
    unfold openL openN upsN
    rw [List.filter_map]
    rfl
  rw [e]
  refine ⟨?_, by simp⟩
  unfold il nlv
  rw [List.map_map]
  rfl
theorem openN_lt {n : Nat} {but : List Int} {i : Nat} (h : i < (openN n but).length) : (openN n but).getD i 0 < n ∧ but.contains (((openN n but).getD i 0 : Nat) : Int) = false := by
  have hm : (openN n but)[i] ∈ openN n but := List.getElem_mem h
  have e : (openN n but).getD i 0 = (openN n but)[i] := by rw [List.getD_eq_getElem?_getD, List.getElem?_eq_getElem h]; rfl
  rw [e]
  have h2 := List.mem_filter.1 hm
  exact ⟨List.mem_range.1 h2.1, by simpa using h2.2⟩
theorem openN_nodup (n : Nat) (but : List Int) : (openN n but).Nodup := List.nodup_range.filter _
theorem openN_inj {n : Nat} {but : List Int} {i k : Nat} (hi : i < (openN n but).length) (hk : k < (openN n but).length) : ((openN n but).getD i 0 = (openN n but).getD k 0) ↔ i = k := by
  have e : ∀ j (hj : j < (openN n but).length), (openN n but).getD j 0 = (openN n but)[j] := fun j hj => by rw [List.getD_eq_getElem?_getD, List.getElem?_eq_getElem hj]; rfl
  rw [e i hi, e k hk]
  exact List.getElem_inj (openN_nodup n but)
theorem openN_le (n : Nat) (but : List Int) : (openN n but).length ≤ n := by
  have := List.length_filter_le (fun i : Nat => !but.contains (i : Int)) (List.range n)
  rw [List.length_range] at this
  exact this
def oneF : Nat := 1065353216
def unitF (b : Bool) : Nat := if b = true then oneF else 0
/-- the rows that are solved, each with its right side behind it -/
def cofM (xs : List Nat) (n : Nat) (ls : List Nat) (right : Nat → Nat) : Nat → Nat → Nat := fun r c => if c < ls.length then fsub (unitF (decide (r = c))) (stepOf xs n (ls.getD r 0) (ls.getD c 0)) else right (ls.getD r 0)
theorem unitF_num (b : Bool) : isNan single (unitF b) = false := by cases b <;> decide +kernel
theorem cofM_run {xs : List Nat} {n : Nat} {ls : List Nat} {right : Nat → Nat} (hl : xs.length = n * n) (hp : xs.all partB = true) {r c : Nat} (hr : ls.getD r 0 < n) (hc : ls.getD c 0 < n) (hcl : c < ls.length) :
    floatBits .sub .f32 (unitF (decide (r = c))) (stepOf xs n (ls.getD r 0) (ls.getD c 0)) = some (cofM xs n ls right r c) := by
  unfold cofM
  rw [if_pos hcl]
  exact (fsub_run (unitF_num _) (part_key (stepOf_part hl hp hr hc)).2.2.2).1
theorem cofM_right {xs : List Nat} {n : Nat} {ls : List Nat} {right : Nat → Nat} {r : Nat} : cofM xs n ls right r ls.length = right (ls.getD r 0) := if_neg (by omega)
/-- numbers put at their places among given ones -/
def putM (ls : List Nat) (x : Nat → Nat) (f : Nat → Nat) : Nat → Nat → Nat
  | 0 => f
  | k + 1 => fun i => if i = ls.getD k 0 then x k else putM ls x f k i
/-- the first so many numbers of a row -/
def rowTo (C : Nat → Nat → Nat) (r k : Nat) : List Nat := (List.range k).map (C r)
theorem rowTo_succ (C : Nat → Nat → Nat) (r k : Nat) : fl (rowTo C r (k + 1)) = fl (rowTo C r k) ++ [.float .f32 (C r k)] := by
  unfold rowTo
  rw [List.range_succ, List.map_append]
  simp [fl]
theorem rowTo_len (C : Nat → Nat → Nat) (r k : Nat) : (rowTo C r k).length = k := by simp [rowTo]

theorem info_f32s : (Try.prog.info? 24).map (fun i => (i.zero, i.size, i.bytes)) = some (some (.slice none 0 0), 1, 24) := by kernel_rfl
theorem own_neF {a b : Option Nat} (h : ∀ j, a = some j → b ≠ some j) : a = none ∨ a ≠ b := by
  cases a with
  | none => exact .inl rfl
  | some j => exact .inr fun e => h j rfl e.symm
structure FR (W : World) (base : Nat) (v : Value) (rs : List (List Nat × Value)) (u : Value) (vs : List Value) : Prop where
  m : W.ownsRow base 24 1 v rs.length (rs.map (·.2))
  r : ∀ x ∈ rs, W.ownsRow base 31 1 x.2 x.1.length (fl x.1)
  o : W.ownsRow base 31 1 u vs.length vs
  mr : ∀ x ∈ rs, ∀ j, x.2.ownBlock = some j → v.ownBlock ≠ some j
  ur : ∀ x ∈ rs, ∀ j, x.2.ownBlock = some j → u.ownBlock ≠ some j
  uv : ∀ j, u.ownBlock = some j → v.ownBlock ≠ some j
  rr : rs.Pairwise fun x y => ∀ j, x.2.ownBlock = some j → y.2.ownBlock ≠ some j
variable {W W' W0 W1 W2 W3 : World} {base : Nat} {v u : Value} {rs : List (List Nat × Value)} {vs : List Value}
theorem FR.keep (h : FR W base v rs u vs) (hb : Below W.heap.size W W') : FR W' base v rs u vs := ⟨own_below h.m hb, fun x hx => own_below (h.r x hx) hb, own_below h.o hb, h.mr, h.ur, h.uv, h.rr⟩
theorem FR.rowLt (h : FR W base v rs u vs) {x : List Nat × Value} (hx : x ∈ rs) {j : Nat} (hj : x.2.ownBlock = some j) : j < W.heap.size := ((h.r x hx).lt j hj).2
theorem FR.add {g cap q : Nat} {x : Value} {o : Obj} (h : FR W0 base v rs u vs) (hq : vs.length = q) (hgr : (W0.alloc o).grownBy W3 u.ownBlock) (ho : W3.ownsRow base 31 1 (.slice (some ⟨g, 0, none⟩) (q + 1) cap) (q + 1) (vs ++ [x])) (hat : u.ownBlock = some g ∨ g = W0.heap.size + 1) :
    FR W3 base v rs (.slice (some ⟨g, 0, none⟩) (q + 1) cap) (vs ++ [x]) := by
  subst hq
  have h2 := h.keep (below_al (Below.refl _ _) o)
  refine ⟨h2.m.kept hgr (own_neF fun j hv hu => h.uv j hu hv), fun y hy => (h2.r y hy).kept hgr (own_neF fun j hr hu => h.ur y hy j hr hu), by rw [List.length_append]; exact ho, h.mr, fun y hy j hj e => ?_, fun j hj e => ?_, h.rr⟩
  · have e : g = j := Option.some.inj e
    subst e
    have := h.rowLt hy hj
    rcases hat with hat | hat
    · exact h.ur y hy _ hj hat
    · omega
  · have hj : g = j := Option.some.inj hj
    subst hj
    have := (h.m.lt g e).2
    rcases hat with hat | hat
    · exact h.uv _ hat e
    · omega
theorem FR.push {g cap q : Nat} {o : Obj} {l : List Nat} (h : FR W0 base v rs u (fl l)) (hq : rs.length = q) (hgr : (W0.alloc o).grownBy W3 v.ownBlock) (ho : W3.ownsRow base 24 1 (.slice (some ⟨g, 0, none⟩) (q + 1) cap) (q + 1) (rs.map (·.2) ++ [u])) (hat : v.ownBlock = some g ∨ g = W0.heap.size + 1) :
    FR W3 base (.slice (some ⟨g, 0, none⟩) (q + 1) cap) (rs ++ [(l, u)]) (.slice none 0 0) [] := by
  subst hq
  have h2 := h.keep (below_al (Below.refl _ _) o)
  have hol := h2.o
  rw [fl_len] at hol
  refine ⟨by rw [List.length_append, List.map_append]; exact ho, fun y hy => ?_, World.ownsRow_nil _ _ _ _, fun y hy j hj e => ?_, fun y hy j hj e => (by cases e), (fun j hj => by cases hj), ?_⟩
  · rcases List.mem_append.1 hy with hy | hy
    · exact (h2.r y hy).kept hgr (own_neF fun j hr hv => h.mr y hy j hr hv)
    · rw [List.mem_singleton] at hy
      subst hy
      exact hol.kept hgr (own_neF fun j hu hv => h.uv j hu hv)
  · have e : g = j := Option.some.inj e
    subst e
    rcases List.mem_append.1 hy with hy | hy
    · have := h.rowLt hy hj
      rcases hat with hat | hat
      · exact h.mr y hy _ hj hat
      · omega
    · rw [List.mem_singleton] at hy
      subst hy
      have := (h.o.lt g hj).2
      rcases hat with hat | hat
      · exact h.uv _ hj hat
      · omega
  · rw [List.pairwise_append]
    refine ⟨h.rr, List.pairwise_singleton _ _, fun x hx y hy j hj e => ?_⟩
    rw [List.mem_singleton] at hy
    subst hy
    exact h.ur x hx j hj e
theorem FR.fresh (h : FR W base v rs u vs) (hb : base ≤ W.heap.size) : FR (W.alloc (.cells #[] 31)) base v rs (.slice (some ⟨W.heap.size, 0, none⟩) 0 0) [] := by
  have h1 := h.keep (below_al (Below.refl _ _) (.cells #[] 31))
  refine ⟨h1.m, h1.r, own_base (World.ownsRow_made W #[] 0 (base := W.heap.size) (e := 31) (size := 1) (Nat.le_refl _) (by unfold maxLen; omega) rfl) hb, h1.mr, fun y hy j hj e => ?_, fun j hj e => ?_, h1.rr⟩
  · have e : W.heap.size = j := Option.some.inj e
    have := h.rowLt hy hj
    omega
  · have hj : W.heap.size = j := Option.some.inj hj
    have := (h.m.lt j e).2
    omega
theorem FR.start (W : World) : FR (W.alloc (.cells #[] 24)) W.heap.size (.slice (some ⟨W.heap.size, 0, none⟩) 0 0) [] (.slice none 0 0) [] :=
  ⟨World.ownsRow_made W #[] 0 (base := W.heap.size) (e := 24) (size := 1) (Nat.le_refl _) (by unfold maxLen; omega) rfl, (fun x hx => absurd hx (by simp)), World.ownsRow_nil _ _ _ _, (fun x hx => absurd hx (by simp)), (fun x hx => absurd hx (by simp)), (fun _ e => by cases e), List.Pairwise.nil⟩
theorem FR.add_below {w : World} {o : Obj} (h : FR W0 base v rs u vs) (hw : Below w.heap.size w W0) (hb : w.heap.size ≤ base) (hgr : (W0.alloc o).grownBy W3 u.ownBlock) : Below w.heap.size w W3 :=
  (below_al hw o).grown hgr (below_al hw o).size fun j hj => by have := (h.o.lt j hj).1; omega
theorem FR.push_below {w : World} {o : Obj} (h : FR W0 base v rs u vs) (hw : Below w.heap.size w W0) (hb : w.heap.size ≤ base) (hgr : (W0.alloc o).grownBy W3 v.ownBlock) : Below w.heap.size w W3 :=
  (below_al hw o).grown hgr (below_al hw o).size fun j hj => by have := (h.m.lt j hj).1; omega
/-- the matrix that such rows are -/
theorem FR.toM {R cap n : Nat} {C : Nat → Nat → Nat} (h : FR W base (.slice (some ⟨R, 0, none⟩) n cap) rs u vs) (hn : rs.length = n) (hc : rs.map (·.1) = (List.range n).map fun r => rowTo C r (n + 1)) : ∃ bl cp, MR W base n R bl cp C := by
  have hrow : ∀ r (hr : r < n), ∃ g c, rs[r].2 = .slice (some ⟨g, 0, none⟩) (n + 1) c ∧ rs[r].1 = rowTo C r (n + 1) := by
    intro r hr
    have hr' : r < rs.length := by omega
    have e1 : (rs.map (·.1))[r]? = some rs[r].1 := by rw [List.getElem?_map, List.getElem?_eq_getElem hr']; rfl
    rw [hc, List.getElem?_map, List.getElem?_range hr] at e1
    have e1 := Option.some.inj e1
    have ho := h.r rs[r] (List.getElem_mem hr')
    rw [← e1, rowTo_len] at ho
    rcases ho.2 with ⟨hv, hn0⟩ | ⟨g', cap', cur, hv, _⟩
    · omega
    · exact ⟨g', cap', hv, e1.symm⟩
  let bl : Nat → Nat := fun r => if hr : r < n then (hrow r hr).choose else 0
  let cp : Nat → Nat := fun r => if hr : r < n then (hrow r hr).choose_spec.choose else 0
  have hspec : ∀ r (hr : r < n), rs[r].2 = .slice (some ⟨bl r, 0, none⟩) (n + 1) (cp r) ∧ rs[r].1 = rowTo C r (n + 1) := by
    intro r hr
    have e1 : bl r = (hrow r hr).choose := dif_pos hr
    have e2 : cp r = (hrow r hr).choose_spec.choose := dif_pos hr
    rw [e1, e2]
    exact (hrow r hr).choose_spec.choose_spec
  have hown : ∀ r (hr : r < n), W.ownsRow base 31 1 (.slice (some ⟨bl r, 0, none⟩) (n + 1) (cp r)) (n + 1) (fl (rowTo C r (n + 1))) := by
    intro r hr
    have ho := h.r rs[r] (List.getElem_mem (by omega))
    rw [(hspec r hr).2, rowTo_len, (hspec r hr).1] at ho
    exact ho
  have hfrozen : ∀ {e : TypeId} {g c k : Nat} {xs : List Value}, W.ownsRow base e 1 (.slice (some ⟨g, 0, none⟩) k c) k xs → ∀ j, W.frozen? ⟨g, j, none⟩ = false := by
    intro e g c k xs ho j
    rcases ho.2 with ⟨hv, _⟩ | ⟨g', cap', cur, hv, hb, hh, _⟩
    · cases hv
    · cases hv
      simp [World.frozen?, hh]
  refine ⟨bl, cp, fun r hr => ?_, fun r hr => ?_, fun r c hr hcc => ?_, fun r c hr hcc => hfrozen (hown r hr) c, fun r hr e => ?_, fun r s hr hs e => ?_, fun hn0 => ?_, fun r hr => ?_⟩
  · have h1 := h.m.cells (g := R) rfl r rs[r].2 (by rw [List.getElem?_map, List.getElem?_eq_getElem (by omega)]; rfl)
    have hadd : (⟨R, 0, none⟩ : Addr).add r = ⟨R, r, none⟩ := by unfold Addr.add; split <;> simp_all
    rw [hadd, (hspec r hr).1] at h1
    exact h1
  · have hm := h.m
    rw [hn] at hm
    exact hfrozen hm r
  · have h1 := (hown r hr).cells (g := bl r) rfl c (.float .f32 (C r c)) (by
      unfold fl rowTo
      rw [List.map_map, List.getElem?_map, List.getElem?_range (by omega)]
      rfl)
    have hadd : (⟨bl r, 0, none⟩ : Addr).add c = ⟨bl r, c, none⟩ := by unfold Addr.add; split <;> simp_all
    rw [hadd] at h1
    exact h1
  · exact h.mr rs[r] (List.getElem_mem (by omega)) (bl r) (by rw [(hspec r hr).1]; rfl) (by rw [e]; rfl)
  · have hp := List.pairwise_iff_getElem.1 h.rr
    rcases Nat.lt_trichotomy r s with hl | hl | hl
    · exact absurd (by rw [(hspec s hs).1, ← e]; rfl) (hp r s (by omega) (by omega) hl (bl r) (by rw [(hspec r hr).1]; rfl))
    · exact hl
    · exact absurd (by rw [(hspec r hr).1, e]; rfl) (hp s r (by omega) (by omega) hl (bl s) (by rw [(hspec s hs).1]; rfl))
  · exact (h.m.lt R rfl).1
  · exact ((hown r hr).lt (bl r) rfl).1
end Go.Proofs.Ytlhepgdheopgaaa
