/-
  Orders that are drawn again and again (plain); impl.DrawnTail.
-/
import Derived.Test.YtfkjnaaplhcheaaDt1
namespace Go.Proofs.Ytfkjnaaplhcheaa
open Go Go.RowKit Ieee SeedFact

theorem smallL.swap {L : List Int} (h : smallL L) (i j : Nat) : smallL (swapL L i j) := by
  have hd : ∀ i, -1000 ≤ L.getD i 0 ∧ L.getD i 0 ≤ 1000 := fun i => by
    by_cases hi : i < L.length
    · rw [List.getD_eq_getElem?_getD, List.getElem?_eq_getElem hi]
      exact h _ (List.getElem_mem hi)
    · rw [List.getD_eq_getElem?_getD, List.getElem?_eq_none (by omega)]
      exact ⟨by decide, by decide⟩
  intro x hx
  unfold swapL at hx
  rcases List.mem_or_eq_of_mem_set hx with hx | rfl
  · rcases List.mem_or_eq_of_mem_set hx with hx | rfl
    · exact h x hx
    · exact hd _
  · exact hd _
theorem shufI_small {k : Int} : ∀ (i : Nat) (s : Int × Int) (xs : List Int), smallL xs → smallL (shufI k i s xs).2
  | 0, _, _, h => h
  | i+1, s, xs, h => by
    rw [shufI_succ]
    exact shufI_small i _ _ (h.swap _ _)
/-- how often the first numbers of a drawn order add up to at least own -/
def tailD (k : Int) (A : List Int) (m : Nat) (own : Int) : Nat → Int × Int → Nat → (Int × Int) × Nat
  | 0, s, n => (s, n)
  | t+1, s, n => tailD k A m own t (shufI k (A.length - 1) s A).1 (if own ≤ sumZ (shufI k (A.length - 1) s A).2 m then n + 1 else n)
theorem tailD_zero (k : Int) (A : List Int) (m : Nat) (own : Int) (s : Int × Int) (n : Nat) : tailD k A m own 0 s n = (s, n) := rfl
theorem tailD_succ (k : Int) (A : List Int) (m : Nat) (own : Int) (t : Nat) (s : Int × Int) (n : Nat) : tailD k A m own (t+1) s n = tailD k A m own t (shufI k (A.length - 1) s A).1 (if own ≤ sumZ (shufI k (A.length - 1) s A).2 m then n + 1 else n) := rfl
def dtOut (k : Int) (s : Int × Int) (n : Int) (ok : Bool) (w : World) (e : Ending) (w' : World) : Prop :=
  e = .returned (.tuple #[.agg #[.int .i64 k, .int .u64 s.1, .int .u64 s.2], .int .i64 n, .bool ok]) ∧ Below w.heap.size w w'
theorem sampsB_small {xs ys : List Int} (h : sampsB xs ys = true) : smallL (xs ++ ys) := by
  unfold sampsB sampB at h
  simp only [Bool.and_eq_true, decide_eq_true_eq, List.all_eq_true] at h
  intro x hx
  rcases List.mem_append.mp hx with hx | hx
  · exact inB_of (h.1.2 x hx)
  · exact inB_of (h.2.1.2 x hx)
theorem sumZ_take {l : List Int} {m : Nat} (_h : m ≤ l.length) : sumZ (l.take m) (l.take m).length = sumZ l m := by
  unfold sumZ
  rw [List.take_length]
theorem sumZ_app (xs ys : List Int) : sumZ (xs ++ ys) xs.length = sumZ xs xs.length := by
  unfold sumZ
  rw [List.take_length, List.take_left]
set_option maxRecDepth 100000 in
set_option maxHeartbeats 6400000 in
theorem DrawnTail_bad (k a b : Int) (A B : Option Addr) (xs ys : List Int) (c d : Nat) (t : Int) (w : World) (hb : 0 ≤ b ∧ b < 18446744073709551616) (hx : xs.length ≤ 1048576) (hy : ys.length ≤ 1048576) (h : Rd w w.heap.size A (il xs)) (h' : Rd w w.heap.size B (il ys))
    (hn : (seedB k a b && (sampsB xs ys && inB t 0 1000)) = false) :
    Calls Try.prog 17 #[.agg #[.int .i64 k, .int .u64 a, .int .u64 b], .slice A xs.length c, .slice B ys.length d, .int .i64 t] w (dtOut 0 (0, 0) 0 false w) := by
  have HV := Lib.hid fun w => ValidSeed_any k a b hb w
  have HA := Lib.hid fun (W : World) (hW : Below w.heap.size w W) => areSamplesOf_any A B xs ys c d W hx hy (h.at_ hW) (h'.at_ hW)
  have HI := Lib.hid fun w => within_any t 0 1000 w
  clear h h'
  have hcase : seedB k a b = false ∨ (seedB k a b = true ∧ sampsB xs ys = false) ∨ (seedB k a b = true ∧ sampsB xs ys = true ∧ inB t 0 1000 = false) := by
    revert hn
    cases seedB k a b <;> cases sampsB xs ys <;> cases inB t 0 1000 <;> simp
  clear hn
  generalize seedB k a b = r1 at *
  generalize sampsB xs ys = r2 at *
  generalize inB t 0 1000 = r3 at *
  rcases hcase with rfl | ⟨rfl, rfl⟩ | ⟨rfl, rfl, rfl⟩
  all_goals
    go_enter Try.func17, Try.ntmps17
    go_wp2_with fail
    generalize hW1 : World.alloc (World.alloc w _) _ = W1
    have hx1 : Dx w.heap.size k a b W1 := by rw [← hW1]; simp [Dx, SdAt, go_sem]
    have HB1 : Hid (Below w.heap.size w W1) := by rw [← hW1]; exact Lib.hid (below_al (below_al (Below.refl _ _) _) _)
    clear hW1
    have HX1 := Lib.hid hx1
    clear hx1
    refine (HV.out _).mono ?_
    rintro e w2 ⟨rfl, hb2⟩
    have HXq := Lib.hid (HX1.out.keep hb2)
    have HBq := Lib.hid (below_next HB1.out hb2)
    clear hb2 HX1 HB1
    obtain ⟨⟨s0, s1, s2, sf⟩, ⟨z0, z1, z2, zf⟩⟩ := HXq.out
    go_wp2_with (first
      | (go_at_call 48; refine (HA.out _ HBq.out).mono ?_; rintro e w3 ⟨rfl, m3, rfl⟩; have HXr := HXq; have HBr := HBq; clear HXq HBq; have HXq := Lib.hid (HXr.out.keep (below_dn (Below.refl _ _) m3)); have HBq := Lib.hid (below_dn HBr.out m3); clear HXr HBr)
      | (go_at_call 55; refine (HI.out _).mono ?_; rintro e w4 ⟨rfl, m4, rfl⟩; have HXr := HXq; have HBr := HBq; clear HXq HBq; have HXq := Lib.hid (HXr.out.keep (below_dn (Below.refl _ _) m4)); have HBq := Lib.hid (below_dn HBr.out m4); clear HXr HBr))
    have hX7 := HXq.out.2.set 0 0 0
    have hB7 := below_set (below_set (below_set HBq.out ⟨w.heap.size + 1, 0, none⟩ (.int .i64 0) (by simp)) ⟨w.heap.size + 1, 1, none⟩ (.int .u64 0) (by simp)) ⟨w.heap.size + 1, 2, none⟩ (.int .u64 0) (by simp)
    try rw [World.drewN_drewN] at hX7 hB7
    generalize World.setCell (World.setCell (World.setCell _ _ _) _ _) _ _ = W7 at hX7 hB7 ⊢
    obtain ⟨y0, y1, y2, -⟩ := hX7
    refine bodyPost_ret (v := .tuple #[.agg #[.int .i64 0, .int .u64 0, .int .u64 0], .int .i64 0, .bool false]) (by simp [results, Try.results17, go_sem, y0, y1, y2]) rfl ⟨rfl, hB7⟩
end Go.Proofs.Ytfkjnaaplhcheaa
