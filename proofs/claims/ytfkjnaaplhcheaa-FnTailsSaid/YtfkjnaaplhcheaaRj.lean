/-
  Ranks, sums and joined lists: impl.ranksOf, total, spec.l06Ranks, l06First, l06Joined.
-/
import Derived.Test.YtfkjnaaplhcheaaRk
namespace Go.Proofs.Ytfkjnaaplhcheaa
open Go Go.RowKit

def nlv (l : List Nat) : List Value := l.map fun n => Value.int .i64 (n : Nat)
theorem nlv_len (l : List Nat) : (nlv l).length = l.length := by simp [nlv]
theorem nlv_snoc (l : List Nat) (k : Nat) : nlv (l ++ [k]) = nlv l ++ [.int .i64 (k : Nat)] := by simp [nlv]
theorem Rd.nlvAt {w : World} {B : Nat} {A : Option Addr} {l : List Nat} (h : Rd w B A (nlv l)) {k : Nat} (hk : k < l.length) : ∃ b off, A = some ⟨b, off, none⟩ ∧ b < B ∧ w.cell? ⟨b, off + k, none⟩ = some (.int .i64 (l[k] : Nat)) := by
  obtain ⟨b, off, e, hb, hc⟩ := h (by rw [nlv_len]; omega)
  exact ⟨b, off, e, hb, by rw [hc k (by rw [nlv_len]; exact hk)]; simp [nlv]⟩
theorem Rd.nlvTake {w : World} {B : Nat} {A : Option Addr} {l : List Nat} (h : Rd w B A (nlv l)) (k : Nat) : Rd w B A (nlv (l.take k)) := fun h0 => by
  rw [nlv_len, List.length_take] at h0
  obtain ⟨b, off, e, hb, hc⟩ := h (by rw [nlv_len]; omega)
  refine ⟨b, off, e, hb, fun j hj => ?_⟩
  rw [nlv_len, List.length_take] at hj
  rw [hc j (by rw [nlv_len]; omega)]
  simp [nlv]
/-- a number's rank, times 2, behind so many numbers -/
def rankT (xs : List Int) (own : Int) : Nat → Nat
  | 0 => 1
  | k + 1 => if xs.getD k 0 < own then rankT xs own k + 2 else if xs.getD k 0 = own then rankT xs own k + 1 else rankT xs own k
theorem rankT_le (xs : List Int) (own : Int) : ∀ k, rankT xs own k ≤ 1 + 2 * k
  | 0 => by show 1 ≤ _; omega
  | k + 1 => by
    have := rankT_le xs own k
    unfold rankT
    split
    · omega
    · split <;> omega
theorem rankT_pos (xs : List Int) (own : Int) : ∀ k, 1 ≤ rankT xs own k
  | 0 => Nat.le_refl _
  | k + 1 => by
    have := rankT_pos xs own k
    unfold rankT
    split
    · omega
    · split <;> omega
def rkTo (xs : List Int) (q : Nat) : List Nat := (List.range q).map fun i => rankT xs (xs.getD i 0) xs.length
def ranksN (xs : List Int) : List Nat := rkTo xs xs.length
theorem rkTo_len (xs : List Int) (q : Nat) : (rkTo xs q).length = q := by simp [rkTo]
theorem rkTo_succ (xs : List Int) (q : Nat) : rkTo xs (q + 1) = rkTo xs q ++ [rankT xs (xs.getD q 0) xs.length] := by
  unfold rkTo
  rw [List.range_succ, List.map_append]
  rfl
theorem ranksN_len (xs : List Int) : (ranksN xs).length = xs.length := rkTo_len _ _
theorem ranksN_mem {xs : List Int} (h : xs.length ≤ 40) {r : Nat} (hr : r ∈ ranksN xs) : 1 ≤ r ∧ r ≤ 81 := by
  unfold ranksN rkTo at hr
  rw [List.mem_map] at hr
  obtain ⟨i, -, rfl⟩ := hr
  have h1 := rankT_le xs (xs.getD i 0) xs.length
  have h2 := rankT_pos xs (xs.getD i 0) xs.length
  omega
def rkOut (xs : List Int) (w : World) : Ending → World → Prop := fun e w' => ∃ A c, e = .returned (.slice A xs.length c) ∧ w'.ownsRow w.heap.size 2 1 (.slice A xs.length c) xs.length (nlv (ranksN xs)) ∧ Below w.heap.size w w'
set_option maxRecDepth 100000 in
set_option maxHeartbeats 1600000 in
theorem ranksOf_any (A : Option Addr) (xs : List Int) (c : Nat) (w : World) (hx : xs.length ≤ 40) (h : Rd w w.heap.size A (il xs)) : Calls Try.prog 47 #[.slice A xs.length c] w (rkOut xs w) := by
  obtain ⟨i0, hi0, hz0, hz1, hz2⟩ := info_parts info_i64
  have HR := Lib.hid h
  have HSU := Lib.hid fun q => rkTo_succ xs q
  have HLN := Lib.hid fun q => rkTo_len xs q
  have HST : Hid (∀ own k, rankT xs own (k + 1) = if xs.getD k 0 < own then rankT xs own k + 2 else if xs.getD k 0 = own then rankT xs own k + 1 else rankT xs own k) := Lib.hid fun _ _ => rfl
  have HLE := Lib.hid fun own k => rankT_le xs own k
  have HT0 : Hid (∀ own, rankT xs own 0 = 1) := Lib.hid fun _ => rfl
  have START : Hid (Grow w 2 0 (nlv (rkTo xs 0)) (.slice (some ⟨w.heap.size, 0, none⟩) 0 0) (w.alloc (.cells #[] 2))) := Lib.hid (Grow.empty _ _)
  have HAT : Hid (∀ k, k < xs.length → ∃ b off, A = some ⟨b, off, none⟩ ∧ ∀ W, Below w.heap.size w W → W.cell? ⟨b, off + k, none⟩ = some (.int .i64 (xs.getD k 0))) := Lib.hid fun k hk => by
    obtain ⟨b, off, e, hb, hc⟩ := HR.out.ilAt hk
    refine ⟨b, off, e, fun W hW => keepC hW ?_⟩
    rw [hc, List.getD_eq_getElem?_getD, List.getElem?_eq_getElem hk]
    rfl
  unfold rkOut ranksN
  clear h
  generalize hN : xs.length = N at *
  clear hN
  generalize rkTo xs = RT at *
  go_enter Try.func47, Try.ntmps47
  go_wp2_with fail
  go_loopw [3, 12] (fun ov iv wr => ∃ q : Nat, q ≤ N ∧ iv = .int .i64 q ∧ Grow w 2 q (nlv (RT q)) ov wr) (fun _ iv _ => N - (intOf iv).toNat)
  case atStart => exact ⟨0, Nat.zero_le _, rfl, START.out⟩
  case round =>
    clear START
    obtain ⟨q, hq, rfl, hb, A3, c3, rfl, ho⟩ := hrel
    rename World => wr
    have B := Lib.hid hb
    have O := Lib.hid ho
    have hbz := hb.size
    clear hb ho
    by_cases hqn : q < N
    · obtain ⟨b, off, rfl, hat⟩ := HAT.out q hqn
      have y0 := hat wr B.out
      have HST' := Lib.hid fun k => HST.out (xs.getD q 0) k
      have HLE' := Lib.hid fun k => HLE.out (xs.getD q 0) k
      have HT0' := Lib.hid (HT0.out (xs.getD q 0))
      have HSU' := Lib.hid (HSU.out q)
      have HAT' : Hid (∀ k, k < N → wr.cell? ⟨b, off + k, none⟩ = some (.int .i64 (xs.getD k 0))) := Lib.hid fun k hk => by
        obtain ⟨b2, o2, e, hc⟩ := HAT.out k hk
        injection e with e
        injection e with e1 e2
        subst e1
        subst e2
        exact hc wr B.out
      generalize xs.getD q 0 = own at *
      clear hat HSU HST HLE HT0
      go_wp2_with fail
      go_loopw [6, 18] (fun rv kv wk => ∃ k : Nat, k ≤ N ∧ kv = .int .i64 k ∧ rv = .int .i64 (rankT xs own k : Nat) ∧ wk = wr) (fun _ kv _ => N - (intOf kv).toNat)
      case atStart => exact ⟨0, Nat.zero_le _, rfl, by rw [HT0'.out]; rfl, rfl⟩
      case round =>
        obtain ⟨k, hk, rfl, rfl, rfl⟩ := hrel
        by_cases hkn : k < N
        · have y1 := HAT'.out k hkn
          have hst := HST'.out k
          have hle := HLE'.out k
          generalize xs.getD k 0 = own2 at *
          generalize hr2 : rankT xs own (k + 1) = r2 at *
          have HR2 := Lib.hid hr2
          clear hr2
          generalize rankT xs own k = r at *
          have hw1 : IntKind.i64.wrap ((r : Int) + 2) = (r : Int) + 2 := IntWalk.i64_in _ (by omega)
          have hw2 : IntKind.i64.wrap ((r : Int) + 1) = (r : Int) + 1 := IntWalk.i64_in _ (by omega)
          by_cases h1 : own2 < own
          · have HV : Hid (r2 = r + 2) := Lib.hid (by rw [hst, if_pos h1])
            clear hst
            go_wp2_with fail
            exact ⟨⟨k + 1, by omega, by go_num, by rw [HR2.out, HV.out]; push_cast; rfl, trivial⟩, by simp [intOf]; omega⟩
          · by_cases h2 : own2 = own
            · have HV : Hid (r2 = r + 1) := Lib.hid (by rw [hst, if_neg h1, if_pos h2])
              subst h2
              clear hst
              go_wp2_with fail
              exact ⟨⟨k + 1, by omega, by go_num, by rw [HR2.out, HV.out]; push_cast; rfl, trivial⟩, by simp [intOf]; omega⟩
            · have HV : Hid (r2 = r) := Lib.hid (by rw [hst, if_neg h1, if_neg h2])
              have hne : (own2 == own) = false := by rw [Bool.eq_false_iff, ne_eq, beq_iff_eq]; exact h2
              clear hst
              go_wp2_with fail
              exact ⟨⟨k + 1, by omega, by go_num, by rw [HR2.out, HV.out], trivial⟩, by simp [intOf]; omega⟩
        · obtain rfl : N = k := by omega
          generalize rankT xs own N = v at *
          go_wp2_with (refine wpList_append_lies _ rfl _ _ _ rfl w.heap.size 2 i0 _ 1 8 Try.underlying25 hi0 hz0 hz1 hz2 rfl (by omega) (.slice A3 q c3) q (nlv (RT q)) (by rfl) (O.out.alloc _) ⟨wr.heap.size, 0, none⟩ 1 1 [.int .i64 (v : Nat)] (by rfl) (by rfl) (World.news_of_block (cs := #[.int .i64 (v : Nat)]) (t := 2) (fr := (0, 0)) (heap_alloc_new wr _)) (by simp [Value.oneCell']) (by omega) (by unfold maxLen; omega) (by omega) (by simp; omega) (wr.heap.size + 1) (by simp) ?_; intro g9 cap9 w9 hown9 hgrow hat hlt9; have G9 := Lib.hid (Grow.step B.out O.out (Below.refl _ _) hgrow hown9); clear hown9 hgrow hat)
          go_roundw
          case rel => exact ⟨q + 1, by omega, by go_num, by rw [HSU'.out, nlv_snoc]; exact G9.out⟩
          case measure => simp [intOf]; omega
    · obtain rfl : N = q := by omega
      go_wp2_with fail
      go_ret
      exact ⟨A3, c3, rfl, O.out, B.out⟩
end Go.Proofs.Ytfkjnaaplhcheaa

