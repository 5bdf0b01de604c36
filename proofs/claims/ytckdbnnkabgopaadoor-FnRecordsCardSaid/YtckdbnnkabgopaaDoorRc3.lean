/-
  Names and valid records: impl.IsName, spec.l07Name, impl.ValidRecord, spec.l07Record.
-/
import Derived.Test.YtckdbnnkabgopaaDoorRc2
import Derived.Test.YtckdbnnkabgopaaDoorSe3
namespace Go.Proofs.YtckdbnnkabgopaaDoor
open Go Go.RowKit

def BoolOut (b : Bool) (w : World) (e : Ending) (w' : World) : Prop := e = .returned (.bool b) ∧ Below w.heap.size w w'
theorem IsName_any (s : ByteArray) (w : World) (hs : s.size ≤ 9223372036854775807) : Calls Tryd.prog 19 #[.string s] w (BoolOut (nameB s.data.toList) w) := by
  have HI : Hid (nameB s.data.toList = (decide (1 ≤ s.size ∧ s.size ≤ 8) && s.data.toList.all letB)) := Lib.hid (by unfold nameB; rw [Lib.size_eq])
  have HT := Lib.hid (Trim_any s w hs)
  rw [HI.out]
  clear HI
  generalize s.data.toList.all letB = r at *
  unfold BoolOut
  by_cases h1 : 1 ≤ s.size
  · by_cases h8 : s.size ≤ 8
    · have hd : decide (1 ≤ s.size ∧ s.size ≤ 8) = true := decide_eq_true ⟨h1, h8⟩
      rw [hd, Bool.true_and]
      clear hd
      go_enter Tryd.func19, Tryd.ntmps19
      go_wp2_with (go_at_call 32; refine HT.out.mono ?_; rintro e w1 ⟨t, rfl, ht, hb⟩; have HB := Lib.hid hb; have HTT := Lib.hid ht; clear hb ht)
      go_ret
      exact ⟨by rw [HTT.out]; rfl, HB.out⟩
    · have hd : decide (1 ≤ s.size ∧ s.size ≤ 8) = false := decide_eq_false fun h => h8 h.2
      rw [hd, Bool.false_and]
      clear hd
      go_enter Tryd.func19, Tryd.ntmps19
      go_wp2
      go_ret
      exact ⟨rfl, Below.refl _ _⟩
  · have hd : decide (1 ≤ s.size ∧ s.size ≤ 8) = false := decide_eq_false fun h => h1 h.1
    rw [hd, Bool.false_and]
    clear hd
    obtain h0 : s.size = 0 := by omega
    go_enter Tryd.func19, Tryd.ntmps19
    go_wp2
    go_ret
    exact ⟨rfl, Below.refl _ _⟩
theorem all_step {s : ByteArray} {k : Nat} (h : k < s.size) : (s.data.toList.take (k + 1)).all letB = ((s.data.toList.take k).all letB && letB s[k]) := by
  rw [take_byte h, List.all_append]
  simp
theorem all_no {s : ByteArray} {k : Nat} (h : k < s.size) (hn : letB s[k] = false) : s.data.toList.all letB = false := by
  rw [List.all_eq_false]
  refine ⟨s[k], ?_, by rw [hn]; decide⟩
  have h' : k < s.data.toList.length := by rw [← Lib.size_eq]; exact h
  exact List.getElem_mem h'
def SameOut (v : Value) (w : World) (e : Ending) (w' : World) : Prop := e = .returned v ∧ w = w'
/-- a number of a record -/
def numB (n : Int) : Bool := inB n 0 65535
def recB (nm : List UInt8) (k a b : Int) (ds : List Int) : Bool := nameB nm && seedB k a b && decide (ds.length ≤ 256) && ds.all numB
theorem ValidRecord1_any (n : Int) (w : World) : Calls Tryd.prog 22 #[.int .i64 n] w (SameOut (.bool (!numB n)) w) := by
  have H := Lib.hid (within_any n 0 65535 w)
  have HD : Hid (numB n = inB n 0 65535) := Lib.hid rfl
  unfold SameOut
  rw [HD.out]
  generalize inB n 0 65535 = r at *
  go_enter Tryd.func22, Tryd.ntmps22
  go_wp2_with (go_at_call 23; refine H.out.mono ?_; rintro e w1 ⟨rfl, rfl⟩)
  go_ret
  exact ⟨rfl, rfl⟩
/-- where the first number is of which a test says yes -/
def idxI (p : Int → Bool) (xs : List Int) : Int := match xs.findIdx? p with | some i => i | none => -1
theorem idxI_hit {p : Int → Bool} {xs : List Int} {k : Nat} (hk : k < xs.length) (h0 : (xs.take k).any p = false) (h1 : p xs[k] = true) : idxI p xs = k := by
  have : xs.findIdx? p = some k := by
    rw [List.findIdx?_eq_some_iff_getElem]
    refine ⟨hk, h1, fun j hj => ?_⟩
    have := List.any_eq_false.1 h0 xs[j] (List.mem_take_iff_getElem.2 ⟨j, by omega, rfl⟩)
    simpa using this
  unfold idxI
  rw [this]
theorem idxI_none {p : Int → Bool} {xs : List Int} (h : xs.any p = false) : idxI p xs = -1 := by
  have : xs.findIdx? p = none := by
    rw [List.findIdx?_eq_none_iff]
    intro x hx
    simpa using List.any_eq_false.1 h x hx
  unfold idxI
  rw [this]
theorem idxI_any (p : Int → Bool) (xs : List Int) : (decide (0 ≤ idxI p xs)) = xs.any p := by
  cases ha : xs.any p with
  | false => rw [idxI_none ha]; rfl
  | true =>
    unfold idxI
    cases hf : xs.findIdx? p with
    | none =>
      rw [List.findIdx?_eq_none_iff] at hf
      obtain ⟨x, hx, hp⟩ := List.any_eq_true.1 ha
      rw [hf x hx] at hp
      cases hp
    | some i => simp
set_option maxHeartbeats 1600000 in
theorem IndexFunc_rec (A : Option Addr) (xs : List Int) (c : Nat) (w : World) (hx : xs.length ≤ 9223372036854775807) (h : Rd w w.heap.size A (il xs)) :
    Calls Tryd.prog 33 #[.slice A xs.length c, .func (.func 22) #[] #[]] w (SameOut (.int .i64 (idxI (fun n => !numB n) xs)) w) := by
  have HG := Lib.hid ValidRecord1_any
  unfold SameOut at HG
  go_enter Tryd.func33, Tryd.ntmps33
  go_wp2
  go_loop [5, 8] (fun _ i => ∃ k : Nat, k ≤ xs.length ∧ i = .int .i64 k ∧ (xs.take k).any (fun n => !numB n) = false) (fun _ i => xs.length - (intOf i).toNat)
  case atStart => exact ⟨0, Nat.zero_le _, rfl, by simp⟩
  case round =>
    obtain ⟨k, hk, rfl, hall⟩ := hrel
    have HALL := Lib.hid hall
    clear hall
    by_cases hlt : k < xs.length
    · obtain ⟨b, off, rfl, hb, hc⟩ := h.ilAt hlt
      clear h
      cases hle : numB xs[k] with
      | true =>
        have HLE := Lib.hid hle
        clear hle
        go_wp2_with (go_at_call 22; (with_reducible refine (HG.out _ _).mono ?_); rw [HLE.out]; rintro e w' ⟨rfl, rfl⟩)
        go_round
        case rel => exact ⟨k + 1, by omega, by go_num, by rw [List.take_succ_eq_append_getElem hlt, List.any_append, HALL.out]; simp [HLE.out]⟩
        case measure => simp [intOf]; omega
      | false =>
        have HLE := Lib.hid hle
        clear hle
        go_wp2_with (go_at_call 22; (with_reducible refine (HG.out _ _).mono ?_); rw [HLE.out]; rintro e w' ⟨rfl, rfl⟩)
        go_ret
        rw [idxI_hit hlt HALL.out (by rw [HLE.out]; rfl)]
        exact ⟨rfl, rfl⟩
    · have hr : idxI (fun n => !numB n) xs = -1 := by
        have h1 := HALL.out
        rw [List.take_of_length_le (by omega)] at h1
        exact idxI_none h1
      have HR := Lib.hid hr
      clear hr
      go_wp2
      go_ret
      rw [HR.out]
      exact ⟨rfl, rfl⟩
theorem retB {a b : Bool} (h : a = b) : Ending.returned (.bool a) = .returned (.bool b) := by rw [h]
theorem ContainsFunc_rec (A : Option Addr) (xs : List Int) (c : Nat) (w : World) (hx : xs.length ≤ 9223372036854775807) (h : Rd w w.heap.size A (il xs)) :
    Calls Tryd.prog 21 #[.slice A xs.length c, .func (.func 22) #[] #[]] w (SameOut (.bool (xs.any fun n => !numB n)) w) := by
  have HG := Lib.hid (IndexFunc_rec A xs c w hx h)
  have HA := Lib.hid (idxI_any (fun n => !numB n) xs)
  unfold SameOut at *
  clear h
  go_enter Tryd.func21, Tryd.ntmps21
  go_wp2_with (go_at_call 33; refine (HG.out).mono ?_; rintro e w' ⟨rfl, rfl⟩)
  go_ret
  exact ⟨retB HA.out, rfl⟩
theorem any_not (xs : List Int) : (!(xs.any fun n => !numB n)) = xs.all numB := by
  induction xs with
  | nil => rfl
  | cons x xs ih => rw [List.any_cons, List.all_cons, Bool.not_or, Bool.not_not, ih]

/-- the value of a record; a record in a box -/
def rcV (nm : ByteArray) (k a b : Int) (A : Option Addr) (n c : Nat) : Value := .agg #[.string nm, .int .i64 k, .int .u64 a, .int .u64 b, .slice A n c]
def RcAt (w : World) (p : Nat) (nm : ByteArray) (k a b : Int) (A : Option Addr) (n c : Nat) : Prop :=
  w.cell? ⟨p, 0, none⟩ = some (.string nm) ∧ w.cell? ⟨p, 1, none⟩ = some (.int .i64 k) ∧ w.cell? ⟨p, 2, none⟩ = some (.int .u64 a) ∧ w.cell? ⟨p, 3, none⟩ = some (.int .u64 b) ∧ w.cell? ⟨p, 4, none⟩ = some (.slice A n c)
theorem RcAt.keep {w w' : World} {p : Nat} {nm : ByteArray} {k a b : Int} {A : Option Addr} {n c : Nat} (h : RcAt w p nm k a b A n c) (hb : Below w.heap.size w w') : RcAt w' p nm k a b A n c :=
  ⟨keepC hb h.1, keepC hb h.2.1, keepC hb h.2.2.1, keepC hb h.2.2.2.1, keepC hb h.2.2.2.2⟩
theorem RcAt.lt {w : World} {p : Nat} {nm : ByteArray} {k a b : Int} {A : Option Addr} {n c : Nat} (h : RcAt w p nm k a b A n c) : p < w.heap.size := lt_of_cell (a := ⟨p, 0, none⟩) h.1
set_option maxHeartbeats 1600000 in
theorem ValidRecord_any (nm : ByteArray) (k a b : Int) (A : Option Addr) (ds : List Int) (c : Nat) (w : World) (hs : nm.size ≤ 9223372036854775807) (hb : 0 ≤ b ∧ b < 18446744073709551616) (hx : ds.length ≤ 9223372036854775807) (h : Rd w w.heap.size A (il ds)) :
    Calls Tryd.prog 8 #[rcV nm k a b A ds.length c] w (BoolOut (recB nm.data.toList k a b ds) w) := by
  have HN := Lib.hid fun w => IsName_any nm w hs
  have HV := Lib.hid fun w => ValidSeed_any k a b hb w
  have HC := Lib.hid fun w h => ContainsFunc_rec A ds c w hx h
  have HA : Hid ((!(ds.any fun n => !numB n)) = ds.all numB) := Lib.hid (any_not ds)
  have HR : Hid (recB nm.data.toList k a b ds = (nameB nm.data.toList && seedB k a b && decide (ds.length ≤ 256) && ds.all numB)) := Lib.hid rfl
  have HH := Lib.hid h
  unfold rcV BoolOut
  unfold BoolOut at HN
  unfold SameOut at HC
  rw [HR.out]
  clear HR h hb
  generalize nameB nm.data.toList = r1 at *
  generalize seedB k a b = r2 at *
  generalize (ds.any fun n => !numB n) = r3 at *
  generalize ds.all numB = r4 at *
  have ha := HA.out
  subst ha
  clear HA
  cases r1 with
  | false =>
    go_enter Tryd.func8, Tryd.ntmps8
    go_wp2_with (go_at_call 19; refine (HN.out _).mono ?_; rintro e w1 ⟨rfl, hb1⟩; have HB := Lib.hid (below_next (below_al (Below.refl _ _) _) hb1); clear hb1)
    go_ret
    exact ⟨rfl, HB.out⟩
  | true =>
    have HK : Hid (∀ W, Below w.heap.size w W → Rd W W.heap.size A (il ds)) := Lib.hid fun W hW => HH.out.at_ hW
    cases r2 with
    | false =>
      go_enter Tryd.func8, Tryd.ntmps8
      go_wp2_with (first
        | (go_at_call 19; refine (HN.out _).mono ?_; rintro e w1 ⟨rfl, hb1⟩; have HB := Lib.hid (below_next (below_al (Below.refl _ _) _) hb1); have c1 : w1.cell? ⟨w.heap.size, 1, none⟩ = some (.int .i64 k) := keepC hb1 (by simp [go_sem]); have c2 : w1.cell? ⟨w.heap.size, 2, none⟩ = some (.int .u64 a) := keepC hb1 (by simp [go_sem]); have c3 : w1.cell? ⟨w.heap.size, 3, none⟩ = some (.int .u64 b) := keepC hb1 (by simp [go_sem]); have c4 : w1.cell? ⟨w.heap.size, 4, none⟩ = some (.slice A ds.length c) := keepC hb1 (by simp [go_sem]); clear hb1)
        | (go_at_call 20; refine (HV.out _).mono ?_; rintro e w2 ⟨rfl, hb2⟩; have HB2 := Lib.hid (below_next HB.out hb2); clear hb2))
      go_ret
      exact ⟨rfl, HB2.out⟩
    | true =>
      by_cases hl : ds.length ≤ 256
      · rw [decide_eq_true hl]
        cases r3 with
        | false =>
          go_enter Tryd.func8, Tryd.ntmps8
          go_wp2_with (first
            | (go_at_call 19; refine (HN.out _).mono ?_; rintro e w1 ⟨rfl, hb1⟩; have HB := Lib.hid (below_next (below_al (Below.refl _ _) _) hb1); have c1 : w1.cell? ⟨w.heap.size, 1, none⟩ = some (.int .i64 k) := keepC hb1 (by simp [go_sem]); have c2 : w1.cell? ⟨w.heap.size, 2, none⟩ = some (.int .u64 a) := keepC hb1 (by simp [go_sem]); have c3 : w1.cell? ⟨w.heap.size, 3, none⟩ = some (.int .u64 b) := keepC hb1 (by simp [go_sem]); have c4 : w1.cell? ⟨w.heap.size, 4, none⟩ = some (.slice A ds.length c) := keepC hb1 (by simp [go_sem]); clear hb1)
            | (go_at_call 20; refine (HV.out _).mono ?_; rintro e w2 ⟨rfl, hb2⟩; have HB2 := Lib.hid (below_next HB.out hb2); have d4 : w2.cell? ⟨w.heap.size, 4, none⟩ = some (.slice A ds.length c) := keepC hb2 c4; clear hb2 c1 c2 c3 c4)
            | (go_at_call 21; refine (HC.out _ (HK.out _ HB2.out)).mono ?_; rintro e w3 ⟨rfl, rfl⟩))
          go_ret
          exact ⟨rfl, HB2.out⟩
        | true =>
          go_enter Tryd.func8, Tryd.ntmps8
          go_wp2_with (first
            | (go_at_call 19; refine (HN.out _).mono ?_; rintro e w1 ⟨rfl, hb1⟩; have HB := Lib.hid (below_next (below_al (Below.refl _ _) _) hb1); have c1 : w1.cell? ⟨w.heap.size, 1, none⟩ = some (.int .i64 k) := keepC hb1 (by simp [go_sem]); have c2 : w1.cell? ⟨w.heap.size, 2, none⟩ = some (.int .u64 a) := keepC hb1 (by simp [go_sem]); have c3 : w1.cell? ⟨w.heap.size, 3, none⟩ = some (.int .u64 b) := keepC hb1 (by simp [go_sem]); have c4 : w1.cell? ⟨w.heap.size, 4, none⟩ = some (.slice A ds.length c) := keepC hb1 (by simp [go_sem]); clear hb1)
            | (go_at_call 20; refine (HV.out _).mono ?_; rintro e w2 ⟨rfl, hb2⟩; have HB2 := Lib.hid (below_next HB.out hb2); have d4 : w2.cell? ⟨w.heap.size, 4, none⟩ = some (.slice A ds.length c) := keepC hb2 c4; clear hb2 c1 c2 c3 c4)
            | (go_at_call 21; refine (HC.out _ (HK.out _ HB2.out)).mono ?_; rintro e w3 ⟨rfl, rfl⟩))
          go_ret
          exact ⟨rfl, HB2.out⟩
      · rw [decide_eq_false hl]
        go_enter Tryd.func8, Tryd.ntmps8
        go_wp2_with (first
          | (go_at_call 19; refine (HN.out _).mono ?_; rintro e w1 ⟨rfl, hb1⟩; have HB := Lib.hid (below_next (below_al (Below.refl _ _) _) hb1); have c1 : w1.cell? ⟨w.heap.size, 1, none⟩ = some (.int .i64 k) := keepC hb1 (by simp [go_sem]); have c2 : w1.cell? ⟨w.heap.size, 2, none⟩ = some (.int .u64 a) := keepC hb1 (by simp [go_sem]); have c3 : w1.cell? ⟨w.heap.size, 3, none⟩ = some (.int .u64 b) := keepC hb1 (by simp [go_sem]); have c4 : w1.cell? ⟨w.heap.size, 4, none⟩ = some (.slice A ds.length c) := keepC hb1 (by simp [go_sem]); clear hb1)
          | (go_at_call 20; refine (HV.out _).mono ?_; rintro e w2 ⟨rfl, hb2⟩; have HB2 := Lib.hid (below_next HB.out hb2); have d4 : w2.cell? ⟨w.heap.size, 4, none⟩ = some (.slice A ds.length c) := keepC hb2 c4; clear hb2 c1 c2 c3 c4))
        go_ret
        exact ⟨rfl, HB2.out⟩
end Go.Proofs.YtckdbnnkabgopaaDoor

