/-
  The states but some: impl.numbersFrom, slices.Contains, and the shelf's slices.DeleteFunc at the closure of statesBut.
-/
import Derived.Test.YtnnnpdendnjkhaaSl3
import Derived.Test.YtnnnpdendnjkhaaDl0
import Derived.Test.YtnnnpdendnjkhaaStep
import Derived.Test.YtnnnpdendnjkhaaOut
import Derived.Test.YtnnnpdendnjkhaaVa3
import Derived.Test.YtnnnpdendnjkhaaToi
import Derived.Shelf.SlicesE.DeleteFunc
import Derived.Sort.OwnSortedInts
namespace Go.Proofs.Ytnnnpdendnjkhaa
open Go Go.RowKit Go.Sort

def nlv (l : List Nat) : List Value := l.map fun n => Value.int .i64 (n : Nat)
theorem nlv_len (l : List Nat) : (nlv l).length = l.length := by simp [nlv]
theorem nlv_snoc (l : List Nat) (k : Nat) : nlv (l ++ [k]) = nlv l ++ [.int .i64 (k : Nat)] := by simp [nlv]
def stateB (n i : Int) : Bool := inB i 0 (n - 1)
set_option maxHeartbeats 400000 in
theorem isState_any (n i : Int) (A : Option Addr) (m c : Nat) (w : World) (hn : 1 ≤ n ∧ n ≤ 12) : Calls Try.prog 56 #[.agg #[.int .i64 n, .slice A m c], .int .i64 i] w (fun e w' => e = .returned (.bool (stateB n i)) ∧ Below w.heap.size w w') := by
  have HW := Lib.hid fun w => within_any i 0 (n - 1) w
  have HR : Hid (stateB n i = inB i 0 (n - 1)) := Lib.hid rfl
  obtain ⟨n0, n1⟩ := hn
  go_enter Try.func56, Try.ntmps56
  go_wp2_with (go_at_call 51; refine (HW.out _).mono ?_; rintro e w1 ⟨rfl, m, rfl⟩)
  go_ret
  rw [HR.out]
  exact ⟨rfl, below_drewN (below_al (Below.refl _ _) _) _⟩

def upsN (n : Nat) : List Int := (List.range n).map Int.ofNat
theorem upsN_len (n : Nat) : (upsN n).length = n := by simp [upsN]
theorem upsN_succ (n : Nat) : upsN (n + 1) = upsN n ++ [(n : Int)] := by simp [upsN, List.range_succ]
/-- the states that are none of some -/
def openL (n : Nat) (but : List Int) : List Int := (upsN n).filter fun x => !but.contains x

set_option maxRecDepth 100000 in
theorem numbersFrom_any (n : Nat) (hn : 1 ≤ n ∧ n ≤ 64) (w : World) : Calls Try.prog 74 #[.int .i64 0, .int .i64 ((n : Int) - 1)] w (fun e w' => ∃ A c, e = .returned (.slice A n c) ∧ w'.ownsRow w.heap.size 2 1 (.slice A n c) n (il (upsN n)) ∧ Below w.heap.size w w') := by
  obtain ⟨j0, hj0, hy0, hy1, hy2⟩ := info_parts info_i64
  obtain ⟨n1, n2⟩ := hn
  have START : Hid (Grow w 2 0 [] (.slice (some ⟨w.heap.size, 0, none⟩) 0 0) (w.alloc (.cells #[] 2))) := Lib.hid (Grow.empty _ _)
  have HUP : Hid (∀ k, il (upsN (k + 1)) = il (upsN k) ++ [.int .i64 (k : Nat)]) := Lib.hid fun k => by rw [upsN_succ]; simp [il]
  go_enter Try.func74, Try.ntmps74
  go_wp2_with fail
  go_loopw [5, 6] (fun v kv wr => ∃ k : Nat, k ≤ n ∧ kv = .int .i64 k ∧ Grow w 2 k (il (upsN k)) v wr) (fun _ kv _ => n - (intOf kv).toNat)
  case atStart => exact ⟨0, Nat.zero_le _, rfl, START.out⟩
  case round =>
    obtain ⟨k, hk, rfl, hb, A, c, rfl, ho⟩ := hrel
    rename World => wr
    have HB := Lib.hid hb
    have HO := Lib.hid ho
    have hz := hb.size
    clear hb ho START
    by_cases hlt : k < n
    · have hle : (k : Int) ≤ (n : Int) - 1 := by omega
      go_wp2_with (refine wpList_append_lies _ rfl _ _ _ rfl w.heap.size 2 j0 _ 1 8 Try.underlying26 hj0 hy0 hy1 hy2 rfl (by omega) (.slice A k c) k (il (upsN k)) (by rfl) (HO.out.alloc _) ⟨wr.heap.size, 0, none⟩ 1 1 [.int .i64 (k : Nat)] (by rfl) (by rfl) (World.news_of_block (cs := #[.int .i64 (k : Nat)]) (t := 2) (fr := (0, 0)) (heap_alloc_new wr _)) (by simp [Value.oneCell']) (by omega) (by unfold maxLen; omega) (by omega) (by simp; omega) (wr.heap.size + 1) (by simp) ?_; intro g9 cap9 w9 hown9 hgrow hat hlt9; have G9 := Lib.hid (Grow.step HB.out HO.out (Below.refl _ _) hgrow hown9); clear hown9 hgrow hat)
      go_roundw
      case rel => exact ⟨k + 1, by omega, by go_num, by rw [HUP.out]; exact G9.out⟩
      case measure => simp [intOf]; omega
    · obtain rfl : k = n := by omega
      go_wp2_with fail
      go_ret
      exact ⟨A, c, rfl, HO.out, HB.out⟩

def idxI (x : Int) (xs : List Int) : Int := match xs.findIdx? (fun y => x == y) with | some i => i | none => -1
theorem idxI_hit {x : Int} {xs : List Int} {k : Nat} (hk : k < xs.length) (h0 : (xs.take k).contains x = false) (h1 : xs[k] = x) : idxI x xs = k := by
  have : xs.findIdx? (fun y => x == y) = some k := by
    rw [List.findIdx?_eq_some_iff_getElem]
    refine ⟨hk, by simp [h1], fun j hj => ?_⟩
    intro e
    have e : x = xs[j] := by simpa using e
    have : (xs.take k).contains x = true := by
      rw [List.contains_iff_mem, e]
      exact List.mem_take_iff_getElem.2 ⟨j, by omega, rfl⟩
    rw [h0] at this
    cases this
  unfold idxI
  rw [this]
theorem idxI_none {x : Int} {xs : List Int} (h : xs.contains x = false) : idxI x xs = -1 := by
  have : xs.findIdx? (fun y => x == y) = none := by
    rw [List.findIdx?_eq_none_iff]
    intro y hy
    cases he : x == y with
    | false => rfl
    | true =>
      have e : x = y := by simpa using he
      subst e
      have : xs.contains x = true := List.contains_iff_mem.2 hy
      rw [h] at this
      cases this
  unfold idxI
  rw [this]
theorem idxI_any (x : Int) (xs : List Int) : (decide (0 ≤ idxI x xs)) = xs.contains x := by
  cases ha : xs.contains x with
  | false => rw [idxI_none ha]; rfl
  | true =>
    have hm : x ∈ xs := List.contains_iff_mem.1 ha
    unfold idxI
    cases hf : xs.findIdx? (fun y => x == y) with
    | none =>
      rw [List.findIdx?_eq_none_iff] at hf
      have := hf x hm
      simp at this
    | some i => simp
set_option maxHeartbeats 400000 in
theorem Index_il (A : Option Addr) (xs : List Int) (c : Nat) (x : Int) (w : World) (hx : xs.length ≤ 9223372036854775807) (h : Rd w w.heap.size A (il xs)) : Calls Try.prog 85 #[.slice A xs.length c, .int .i64 x] w (Quiet (.int .i64 (idxI x xs)) w) := by
  go_enter Try.func85, Try.ntmps85
  go_wp2
  go_loopw [8] (fun i wr => ∃ k m : Nat, k ≤ xs.length ∧ i = .int .i64 k ∧ (xs.take k).contains x = false ∧ wr = w.drewN m) (fun i _ => xs.length - (intOf i).toNat)
  case atStart => exact ⟨0, 0, Nat.zero_le _, rfl, by simp, rfl⟩
  case round =>
    obtain ⟨k, m, hk, rfl, hall, rfl⟩ := hrel
    have HALL := Lib.hid hall
    clear hall
    by_cases hlt : k < xs.length
    · obtain ⟨b, off, rfl, hb, hc⟩ := h.ilAt hlt
      clear h
      by_cases he : x = xs[k]
      · have HI := Lib.hid (idxI_hit hlt HALL.out he.symm)
        have hbe : (x == xs[k]) = true := by simp [he]
        have HC : Hid True := Lib.hid trivial
        clear he
        generalize xs[k] = y at *
        go_wp2
        go_ret
        rw [HI.out]
        exact ⟨rfl, m, rfl⟩
      · have HT : Hid ((xs.take (k + 1)).contains x = false) := Lib.hid (by
          rw [List.take_succ_eq_append_getElem hlt, List.contains_eq_any_beq, List.any_append, ← List.contains_eq_any_beq, HALL.out]
          simp [he])
        have hbe : (x == xs[k]) = false := by simp [he]
        clear he
        generalize xs[k] = y at *
        go_wp2
        go_roundw
        case rel => exact ⟨k + 1, m, by omega, by go_num, HT.out, rfl⟩
        case measure => simp [intOf]; omega
    · have hr : idxI x xs = -1 := by
        have h1 := HALL.out
        rw [List.take_of_length_le (by omega)] at h1
        exact idxI_none h1
      have HR := Lib.hid hr
      clear hr
      go_wp2
      go_ret
      rw [HR.out]
      exact ⟨rfl, m, rfl⟩
theorem Contains_il (A : Option Addr) (xs : List Int) (c : Nat) (x : Int) (w : World) (hx : xs.length ≤ 9223372036854775807) (h : Rd w w.heap.size A (il xs)) : Calls Try.prog 76 #[.slice A xs.length c, .int .i64 x] w (Quiet (.bool (xs.contains x)) w) := by
  have HG := Lib.hid (Index_il A xs c x w hx h)
  have HA := Lib.hid (idxI_any x xs)
  go_enter Try.func76, Try.ntmps76
  go_wp2_with (go_at_call 85; refine (HG.out).mono ?_; rintro e w' ⟨rfl, n, rfl⟩)
  go_ret
  exact ⟨retB HA.out, n, rfl⟩
theorem but_any (b : Nat) (A : Option Addr) (xs : List Int) (c : Nat) (x : Int) (w : World) (hx : xs.length ≤ 9223372036854775807) (h0 : w.cell? ⟨b, 0, none⟩ = some (.slice A xs.length c)) (h : Rd w w.heap.size A (il xs)) :
    Calls Try.prog 75 #[.int .i64 x, .pointer (some ⟨b, 0, none⟩)] w (Quiet (.bool (xs.contains x)) w) := by
  have HG := Lib.hid (Contains_il A xs c x w hx h)
  clear h
  generalize xs.contains x = r at *
  go_enter Try.func75, Try.ntmps75
  go_wp2_with (go_at_call 76; refine (HG.out).mono ?_; rintro e w' ⟨rfl, n, rfl⟩)
  go_ret
  exact ⟨rfl, n, rfl⟩

theorem Rd.pre {w : World} {B : Nat} {A : Option Addr} {vs us : List Value} (h : Rd w B A (vs ++ us)) : Rd w B A vs := fun h0 => by
  obtain ⟨b, off, e, hb, hc⟩ := h (by rw [List.length_append]; omega)
  exact ⟨b, off, e, hb, fun k hk => by rw [hc k (by rw [List.length_append]; omega), List.getElem_append_left hk]⟩
theorem delete_own (xs but : List Int) (base g cap b c : Nat) (B : Option Addr) (w : World) (ho : w.ownsRow base 2 1 (.slice (some ⟨g, 0, none⟩) xs.length cap) xs.length (il xs)) (hbase : base ≤ g) (h1 : xs.length ≤ 64) (hb : but.length ≤ 64) (hbg : b ≠ g) (h0 : w.cell? ⟨b, 0, none⟩ = some (.slice B but.length c)) (hB : Rd w g B (il but)) :
    Calls Try.prog 73 #[.slice (some ⟨g, 0, none⟩) xs.length cap, .func (.func 75) #[] #[.pointer (some ⟨b, 0, none⟩)]] w (fun e w' => e = .returned (.slice (some ⟨g, 0, none⟩) (xs.filter fun x => !but.contains x).length cap) ∧ Rd w' w'.heap.size (some ⟨g, 0, none⟩) (il (xs.filter fun x => !but.contains x)) ∧ w.grownBy w' (some g)) := by
  have hlt := (ho.lt g rfl).2
  rcases ho.2 with ⟨hv, _⟩ | ⟨g', cap', cur, hv, hbg', hh, hn, hc, hs, ht⟩
  · cases hv
  · cases hv
    rw [Nat.mul_one] at ht
    have hH := holds_of_blockI hh ht
    have hltb : b < w.heap.size := lt_of_cell (a := ⟨b, 0, none⟩) h0
    have eg : ∀ args w, (callFunc 75 args).run Try.prog w = .ok (.enter 75 args) w := enters_of Try.func75 (by kernel_rfl) rfl
    have hp : PredAt Try.prog 75 #[.pointer (some ⟨b, 0, none⟩)] (Value.int .i64) (fun x => but.contains x) w := fun W x hW => by
      have := but_any b B but c x W (by omega) (keepC hW h0) (((hB.more (Nat.le_of_lt hlt)).at_ hW))
      exact this
    have hpo : PredOver Try.prog 75 #[.pointer (some ⟨b, 0, none⟩)] (Value.int .i64) (fun x => but.contains x) g 0 xs.toArray.size w := fun n os dk x _ => by
      have hcell : ∀ p : Addr, p.block ≠ g → p.block < w.heap.size → (sortWorld (Value.int .i64) w g 0 n dk os).cell? p = w.cell? p := fun p hp hpl => by
        unfold sortWorld
        rw [cell?_grow _ _ _ (by rw [size_putRow]; exact hpl), cell?_putRow_other _ _ g 0 _ _ (Or.inl hp)]
        rfl
      refine but_any b B but c x _ (by omega) ((hcell _ hbg hltb).trans h0) ?_
      have hk : Rd (sortWorld (Value.int .i64) w g 0 n dk os) g B (il but) := hB.keep fun p hp => hcell p (by omega) (by omega)
      refine hk.more ?_
      have hsz : w.heap.size ≤ (sortWorld (Value.int .i64) w g 0 n dk os).heap.size := by
        unfold sortWorld
        simp [grow]
      exact Nat.le_of_lt (Nat.lt_of_lt_of_le hlt hsz)
    have H := AnyE.slices_DeleteFunc Try.delI (Value.int .i64) (fun _ => rfl) (fun x => but.contains x) 75 #[.pointer (some ⟨b, 0, none⟩)] eg 0 Try.zeroValue2 g 0 cap xs.toArray w hp hpo hH (by simp; omega) (by simpa using hn)
    refine H.mono ?_
    rintro e w' ⟨rfl, q, rfl⟩
    have e1 : (xs.toArray.toList.filter fun x => !but.contains x) = xs.filter fun x => !but.contains x := rfl
    have hl : ((xs.filter fun x => !but.contains x) ++ List.replicate (xs.toArray.size - (xs.filter fun x => !but.contains x).length) (0 : Int)).length = xs.length := by
      rw [List.length_append, List.length_replicate]
      have := List.length_filter_le (fun x => !but.contains x) xs
      have e2 : xs.toArray.size = xs.length := List.size_toArray
      omega
    have hown := ownsRow_sortedI (os := #[]) (n := q) hl hbg' hh hn hc hs
    have hgr := grownBy_sortedI (w := w) (g := g) (n := q) (os := #[]) ((xs.filter fun x => !but.contains x) ++ List.replicate (xs.toArray.size - (xs.filter fun x => !but.contains x).length) (0 : Int)).toArray
    rw [grow_empty] at hown hgr
    refine ⟨rfl, ?_, hgr⟩
    have hrd := Rd.of_own hown
    rw [List.map_append] at hrd
    exact hrd.pre
end Go.Proofs.Ytnnnpdendnjkhaa
