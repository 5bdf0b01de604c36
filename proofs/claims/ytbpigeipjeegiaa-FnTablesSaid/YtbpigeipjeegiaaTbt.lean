/-
  Tables: impl.total, spec.l06Total, impl.ValidTable, spec.l06Is.
-/
import Derived.Test.YtbpigeipjeegiaaCkt
import Derived.Deep.RegionHeld3
namespace Go.Proofs.Ytbpigeipjeegiaa
open Go Go.RowKit

/-- a count of a table -/
def cntB (n : Int) : Bool := inB n 0 60
theorem ValidTable1_any (n : Int) (w : World) : Calls Try.prog 31 #[.int .i64 n] w (SameOut (.bool (!cntB n)) w) := by
  have H := Lib.hid (within_same n 0 60 w)
  have HD : Hid (cntB n = inB n 0 60) := Lib.hid rfl
  unfold SameOut
  rw [HD.out]
  generalize inB n 0 60 = r at *
  go_enter Try.func31, Try.ntmps31
  go_wp2_with (go_at_call 24; refine H.out.mono ?_; rintro e w1 ⟨rfl, rfl⟩)
  go_ret
  exact ⟨rfl, rfl⟩
/-- where the first number is of which a test says yes -/
def idxI (p : Int → Bool) (xs : List Int) : Int := match xs.findIdx? p with | some i => i | none => -1
theorem idxI_hit {p : Int → Bool} {xs : List Int} {k : Nat} (hk : k < xs.length) (h0 : (xs.take k).any p = false) (h1 : p xs[k] = true) : idxI p xs = k := by
  have : xs.findIdx? p = some k := by
    rw [List.findIdx?_eq_some_iff_getElem]
    refine ⟨hk, h1, fun j hj => ?_⟩
    have := List.any_eq_false.1 h0 xs[j] (List.mem_take_iff_getElem.2 ⟨j, by omega, rfl⟩)
    simpa using this
  unfold idxI
  rw [this]
theorem idxI_none {p : Int → Bool} {xs : List Int} (h : xs.any p = false) : idxI p xs = -1 := by
  have : xs.findIdx? p = none := by
    rw [List.findIdx?_eq_none_iff]
    intro x hx
    simpa using List.any_eq_false.1 h x hx
  unfold idxI
  rw [this]
theorem idxI_any (p : Int → Bool) (xs : List Int) : (decide (0 ≤ idxI p xs)) = xs.any p := by
  cases ha : xs.any p with
  | false => rw [idxI_none ha]; rfl
  | true =>
    unfold idxI
    cases hf : xs.findIdx? p with
    | none =>
      rw [List.findIdx?_eq_none_iff] at hf
      obtain ⟨x, hx, hp⟩ := List.any_eq_true.1 ha
      rw [hf x hx] at hp
      cases hp
    | some i => simp
set_option maxHeartbeats 1600000 in
theorem IndexFunc_tab (A : Option Addr) (xs : List Int) (c : Nat) (w : World) (hx : xs.length ≤ 9223372036854775807) (h : Rd w w.heap.size A (il xs)) :
    Calls Try.prog 40 #[.slice A xs.length c, .func (.func 31) #[] #[]] w (SameOut (.int .i64 (idxI (fun n => !cntB n) xs)) w) := by
  have HG := Lib.hid ValidTable1_any
  unfold SameOut at HG
  go_enter Try.func40, Try.ntmps40
  go_wp2
  go_loop [5, 8] (fun _ i => ∃ k : Nat, k ≤ xs.length ∧ i = .int .i64 k ∧ (xs.take k).any (fun n => !cntB n) = false) (fun _ i => xs.length - (intOf i).toNat)
  case atStart => exact ⟨0, Nat.zero_le _, rfl, by simp⟩
  case round =>
    obtain ⟨k, hk, rfl, hall⟩ := hrel
    have HALL := Lib.hid hall
    clear hall
    by_cases hlt : k < xs.length
    · obtain ⟨b, off, rfl, hb, hc⟩ := h.ilAt hlt
      clear h
      cases hle : cntB xs[k] with
      | true =>
        have HLE := Lib.hid hle
        clear hle
        go_wp2_with (go_at_call 31; (with_reducible refine (HG.out _ _).mono ?_); rw [HLE.out]; rintro e w' ⟨rfl, rfl⟩)
        go_round
        case rel => exact ⟨k + 1, by omega, by go_num, by rw [List.take_succ_eq_append_getElem hlt, List.any_append, HALL.out]; simp [HLE.out]⟩
        case measure => simp [intOf]; omega
      | false =>
        have HLE := Lib.hid hle
        clear hle
        go_wp2_with (go_at_call 31; (with_reducible refine (HG.out _ _).mono ?_); rw [HLE.out]; rintro e w' ⟨rfl, rfl⟩)
        go_ret
        rw [idxI_hit hlt HALL.out (by rw [HLE.out]; rfl)]
        exact ⟨rfl, rfl⟩
    · have hr : idxI (fun n => !cntB n) xs = -1 := by
        have h1 := HALL.out
        rw [List.take_of_length_le (by omega)] at h1
        exact idxI_none h1
      have HR := Lib.hid hr
      clear hr
      go_wp2
      go_ret
      rw [HR.out]
      exact ⟨rfl, rfl⟩
theorem ContainsFunc_tab (A : Option Addr) (xs : List Int) (c : Nat) (w : World) (hx : xs.length ≤ 9223372036854775807) (h : Rd w w.heap.size A (il xs)) :
    Calls Try.prog 30 #[.slice A xs.length c, .func (.func 31) #[] #[]] w (SameOut (.bool (xs.any fun n => !cntB n)) w) := by
  have HG := Lib.hid (IndexFunc_tab A xs c w hx h)
  have HA := Lib.hid (idxI_any (fun n => !cntB n) xs)
  unfold SameOut at *
  clear h
  go_enter Try.func30, Try.ntmps30
  go_wp2_with (go_at_call 40; refine (HG.out).mono ?_; rintro e w' ⟨rfl, rfl⟩)
  go_ret
  exact ⟨retB HA.out, rfl⟩
theorem any_not (xs : List Int) : (xs.any fun n => !cntB n) = !xs.all cntB := by
  induction xs with
  | nil => rfl
  | cons x xs ih => rw [List.any_cons, List.all_cons, ih, Bool.not_and]
/-- the sum of the first numbers -/
def sumI : List Int → Nat → Int
  | _, 0 => 0
  | xs, k + 1 => sumI xs k + xs.getD k 0
theorem all_pre {ds : List Int} {k : Nat} (h : k < ds.length) : (ds.take (k + 1)).all cntB = ((ds.take k).all cntB && cntB ds[k]) := by
  rw [List.take_succ_eq_append_getElem h, List.all_append]
  simp
theorem all_pre_no {ds : List Int} {k : Nat} (h : k < ds.length) (hn : cntB ds[k] = false) : ds.all cntB = false := by
  rw [List.all_eq_false]
  exact ⟨ds[k], List.getElem_mem h, by rw [hn]; decide⟩
theorem sumI_in {xs : List Int} : ∀ k, k ≤ xs.length → (xs.take k).all cntB = true → 0 ≤ sumI xs k ∧ sumI xs k ≤ 60 * k := by
  intro k
  induction k with
  | zero => intro _ _; exact ⟨Int.le_refl _, Int.le_refl _⟩
  | succ k ih =>
    intro hk h
    have hlt : k < xs.length := by omega
    rw [all_pre hlt, Bool.and_eq_true] at h
    have h1 := ih (by omega) h.1
    have h2 := inB_of h.2
    have h3 : xs.getD k 0 = xs[k] := by rw [List.getD_eq_getElem?_getD, List.getElem?_eq_getElem hlt]; rfl
    show 0 ≤ sumI xs k + xs.getD k 0 ∧ sumI xs k + xs.getD k 0 ≤ _
    rw [h3]
    omega
theorem sumI_succ {xs : List Int} {k : Nat} (h : k < xs.length) : sumI xs (k + 1) = sumI xs k + xs[k] := by
  show sumI xs k + xs.getD k 0 = _
  rw [List.getD_eq_getElem?_getD, List.getElem?_eq_getElem h]
  rfl
set_option maxHeartbeats 800000 in
theorem totalI_any (A : Option Addr) (xs : List Int) (c : Nat) (w : World) (hx : xs.length ≤ 1048576) (hal : xs.all cntB = true) (h : Rd w w.heap.size A (il xs)) :
    Calls Try.prog 23 #[.slice A xs.length c] w (SameOut (.int .i64 (sumI xs xs.length)) w) := by
  have HI : Hid (∀ k, k ≤ xs.length → 0 ≤ sumI xs k ∧ sumI xs k ≤ 60 * k) := Lib.hid fun k hk => sumI_in k hk (by rw [List.all_eq_true] at hal ⊢; exact fun x hx => hal x (List.mem_of_mem_take hx))
  have HS : Hid (∀ k (h : k < xs.length), sumI xs (k + 1) = sumI xs k + xs[k]) := Lib.hid fun k h => sumI_succ h
  have H0 : Hid (sumI xs 0 = 0) := Lib.hid rfl
  have HH := Lib.hid h
  unfold SameOut
  clear h hal
  generalize sumI xs = S at *
  go_enter Try.func23, Try.ntmps23
  go_wp2
  go_loop [3, 8] (fun s i => ∃ k : Nat, k ≤ xs.length ∧ i = .int .i64 k ∧ s = .int .i64 (S k)) (fun _ i => xs.length - (intOf i).toNat)
  case atStart => exact ⟨0, Nat.zero_le _, rfl, by rw [H0.out]⟩
  case round =>
    obtain ⟨k, hk, rfl, rfl⟩ := hrel
    by_cases hlt : k < xs.length
    · obtain ⟨b, off, rfl, hb, hc⟩ := HH.out.ilAt hlt
      have hs := HS.out k hlt
      have h1 := HI.out k hk
      have h2 := HI.out (k + 1) hlt
      have HN := Lib.hid hs
      rw [hs] at h2
      clear hs
      generalize xs[k] = x at *
      go_wp2
      go_round
      case rel => exact ⟨k + 1, by omega, by go_num, by rw [HN.out]⟩
      case measure => simp [intOf]; omega
    · obtain rfl : k = xs.length := by omega
      go_wp2
      go_ret
      exact ⟨rfl, rfl⟩
def totV (xs : List Int) : Value := .tuple #[.int .i64 (if xs.all cntB then sumI xs xs.length else 0), .bool (xs.all cntB && decide (sumI xs xs.length ≤ 60))]
/-- the value of a table; a table in a box; is it valid -/
def tbV (r l : Int) (A : Option Addr) (n c : Nat) : Value := .agg #[.int .i64 r, .int .i64 l, .slice A n c]
def TbAt (w : World) (p : Nat) (r l : Int) (A : Option Addr) (n c : Nat) : Prop :=
  w.cell? ⟨p, 0, none⟩ = some (.int .i64 r) ∧ w.cell? ⟨p, 1, none⟩ = some (.int .i64 l) ∧ w.cell? ⟨p, 2, none⟩ = some (.slice A n c)
theorem TbAt.keep {w w' : World} {p : Nat} {r l : Int} {A : Option Addr} {n c : Nat} (h : TbAt w p r l A n c) (hb : Below w.heap.size w w') : TbAt w' p r l A n c :=
  ⟨keepC hb h.1, keepC hb h.2.1, keepC hb h.2.2⟩
theorem TbAt.lt {w : World} {p : Nat} {r l : Int} {A : Option Addr} {n c : Nat} (h : TbAt w p r l A n c) : p < w.heap.size := lt_of_cell (a := ⟨p, 0, none⟩) h.1
def tabB (r l : Int) (xs : List Int) : Bool := inB r 2 4 && inB l 2 4 && decide ((xs.length : Int) = r * l) && xs.all cntB && inB (sumI xs xs.length) 1 60
theorem mul_few {r l : Int} (h1 : inB r 2 4 = true) (h2 : inB l 2 4 = true) : 4 ≤ r * l ∧ r * l ≤ 16 := by
  have a := inB_of h1
  have b := inB_of h2
  constructor
  · have := Int.mul_le_mul a.1 b.1 (by omega) (by omega)
    omega
  · have := Int.mul_le_mul a.2 b.2 (by omega) (by omega)
    omega
theorem sum_end {xs : List Int} (h : xs.all cntB = true) : (decide (sumI xs xs.length ≤ 60) && decide (0 < sumI xs xs.length)) = inB (sumI xs xs.length) 1 60 := by
  unfold inB
  rw [← Bool.decide_and]
  congr 1
  apply propext
  omega
set_option maxRecDepth 100000 in
set_option maxHeartbeats 3200000 in
theorem ValidTable_any (r l : Int) (A : Option Addr) (xs : List Int) (c : Nat) (w : World) (hx : xs.length ≤ 9223372036854775807) (h : Rd w w.heap.size A (il xs)) :
    Calls Try.prog 17 #[tbV r l A xs.length c] w (BoolOut (tabB r l xs) w) := by
  have HW := Lib.hid fun n a b w => within_same n a b w
  have HC := Lib.hid fun w h => ContainsFunc_tab A xs c w hx h
  have HT := Lib.hid fun w h1 h2 h3 => totalI_any A xs c w h1 h2 h3
  have HNA : Hid ((xs.any fun n => !cntB n) = !xs.all cntB) := Lib.hid (any_not xs)
  rw [HNA.out] at HC
  clear HNA
  have HM : Hid (inB r 2 4 = true → inB l 2 4 = true → 4 ≤ r * l ∧ r * l ≤ 16) := Lib.hid mul_few
  have HR : Hid (tabB r l xs = (inB r 2 4 && inB l 2 4 && decide ((xs.length : Int) = r * l) && xs.all cntB && inB (sumI xs xs.length) 1 60)) := Lib.hid rfl
  have HH := Lib.hid h
  unfold tbV BoolOut
  unfold SameOut at HC HT
  rw [HR.out]
  clear HR h
  have HWr := Lib.hid fun w => HW.out r 2 4 w
  have HWl := Lib.hid fun w => HW.out l 2 4 w
  have HWs := Lib.hid fun w => HW.out (sumI xs xs.length) 1 60 w
  clear HW
  generalize sumI xs xs.length = S at *
  generalize inB r 2 4 = r1 at *
  generalize inB l 2 4 = r2 at *
  generalize inB S 1 60 = r5 at *
  generalize xs.all cntB = r4 at *
  cases r1 with
  | false =>
    go_enter Try.func17, Try.ntmps17
    go_wp2_with (go_at_call 24; (with_reducible refine (HWr.out _).mono ?_); rintro e w1 ⟨rfl, rfl⟩)
    go_ret
    exact ⟨rfl, below_al (Below.refl _ _) _⟩
  | true =>
    cases r2 with
    | false =>
      go_enter Try.func17, Try.ntmps17
      go_wp2_with (first | (go_at_call 24; (with_reducible refine (HWr.out _).mono ?_); rintro e w1 ⟨rfl, rfl⟩) | (go_at_call 24; (with_reducible refine (HWl.out _).mono ?_); rintro e w1 ⟨rfl, rfl⟩))
      go_ret
      exact ⟨rfl, below_al (Below.refl _ _) _⟩
    | true =>
      obtain ⟨m1, m2⟩ := HM.out rfl rfl
      have HX : Hid ((xs.length : Int) = r * l → xs.length ≤ 1048576) := Lib.hid fun h => by omega
      by_cases hl : (xs.length : Int) = r * l
      · rw [decide_eq_true hl, Bool.true_and, Bool.true_and, Bool.true_and]
        have hX := HX.out hl
        cases r4 with
        | false =>
          go_enter Try.func17, Try.ntmps17
          go_wp2_with (first | (go_at_call 24; (with_reducible refine (HWr.out _).mono ?_); rintro e w1 ⟨rfl, rfl⟩) | (go_at_call 24; (with_reducible refine (HWl.out _).mono ?_); rintro e w1 ⟨rfl, rfl⟩) | (go_at_call 30; refine (HC.out _ (HH.out.at_ (below_al (Below.refl _ _) _))).mono ?_; rintro e w1 ⟨rfl, rfl⟩))
          go_ret
          exact ⟨rfl, below_al (Below.refl _ _) _⟩
        | true =>
          go_enter Try.func17, Try.ntmps17
          go_wp2_with (first | (go_at_call 24; (with_reducible refine (HWr.out _).mono ?_); rintro e w1 ⟨rfl, rfl⟩) | (go_at_call 24; (with_reducible refine (HWl.out _).mono ?_); rintro e w1 ⟨rfl, rfl⟩) | (go_at_call 24; (with_reducible refine (HWs.out _).mono ?_); rintro e w1 ⟨rfl, rfl⟩) | (go_at_call 30; refine (HC.out _ (HH.out.at_ (below_al (Below.refl _ _) _))).mono ?_; rintro e w1 ⟨rfl, rfl⟩) | (go_at_call 23; refine (HT.out _ hX (by first | exact rfl | trivial) (HH.out.at_ (below_al (Below.refl _ _) _))).mono ?_; rintro e w1 ⟨rfl, rfl⟩))
          go_ret
          exact ⟨by simp, below_al (Below.refl _ _) _⟩
      · rw [decide_eq_false hl]
        go_enter Try.func17, Try.ntmps17
        go_wp2_with (first | (go_at_call 24; (with_reducible refine (HWr.out _).mono ?_); rintro e w1 ⟨rfl, rfl⟩) | (go_at_call 24; (with_reducible refine (HWl.out _).mono ?_); rintro e w1 ⟨rfl, rfl⟩))
        go_ret
        exact ⟨by simp, below_al (Below.refl _ _) _⟩
end Go.Proofs.Ytbpigeipjeegiaa

