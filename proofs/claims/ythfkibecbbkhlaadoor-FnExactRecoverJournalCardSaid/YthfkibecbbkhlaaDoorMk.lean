/-
  Marks on slices of strings: markText, markStringS, heldStringS.
-/
import Derived.Test.YthfkibecbbkhlaaDoorTst
import Derived.Test.YthfkibecbbkhlaaDoorDc1
import Derived.Test.YthfkibecbbkhlaaDoorJr3
namespace Go.Proofs.YthfkibecbbkhlaaDoor
open Go Go.RowKit

/-- the digits of a mark -/
def goM : Nat → Nat → ByteArray → ByteArray
  | 0, _, s => s
  | f + 1, n, s => if n = 0 then s else goM f (n / 10) ((⟨#[UInt8.ofNat (48 + n % 10)]⟩ : ByteArray) ++ s)
theorem goM_step {f n : Nat} (s : ByteArray) (h : n < f) (h0 : n ≠ 0) : n / 10 < f - 1 ∧ goM f n s = goM (f - 1) (n / 10) ((⟨#[UInt8.ofNat (48 + n % 10)]⟩ : ByteArray) ++ s) := by
  cases f with
  | zero => omega
  | succ f =>
    refine ⟨by omega, ?_⟩
    show (if n = 0 then s else _) = _
    rw [if_neg h0]
    rfl
theorem goM_end (f : Nat) (s : ByteArray) : goM f 0 s = s := by
  cases f with
  | zero => rfl
  | succ f => rfl
def markOf (n : Nat) : ByteArray := if n = 0 then ⟨#[109, 48]⟩ else (⟨#[109]⟩ : ByteArray) ++ goM (n + 1) n ⟨#[]⟩
def MarkOut (n : Nat) (w : World) (e : Ending) (w' : World) : Prop := e = .returned (.string (markOf n)) ∧ Below w.heap.size w w'
theorem one_conv (wr : World) (b : UInt8) (x : Int) (hx : x = (b.toNat : Int)) : (convert 48 9 (.slice (some ⟨wr.heap.size, 0, none⟩) 1 1)).run Tryd.prog (wr.alloc (.cells #[.int .u8 x] 5)) = .ok (.string ⟨#[b]⟩) (wr.alloc (.cells #[.int .u8 x] 5)) := by
  subst hx
  exact conv_run wr.heap.size [b] wr.heap.size 1 wr _ (own_byte wr wr.heap.size (Nat.le_refl _) wr (Below.refl _ _) _)
set_option maxRecDepth 100000 in
set_option maxHeartbeats 1600000 in
theorem markText_any (n : Nat) (w : World) (hn : n ≤ 8388608) : Calls Tryd.prog 19 #[.int .i64 n] w (MarkOut n w) := by
  have HZ : Hid (n = 0 → markOf n = ⟨#[109, 48]⟩) := Lib.hid fun h => by unfold markOf; rw [if_pos h]
  have HN : Hid (n ≠ 0 → markOf n = (⟨#[109]⟩ : ByteArray) ++ goM (n + 1) n ⟨#[]⟩) := Lib.hid fun h => by unfold markOf; rw [if_neg h]
  unfold MarkOut
  generalize markOf n = M at *
  go_enter Tryd.func19, Tryd.ntmps19
  by_cases h0 : n = 0
  · have HM := Lib.hid (HZ.out h0)
    subst h0
    go_wp2_with fail
    go_ret
    exact ⟨by rw [HM.out]; rfl, Below.refl _ _⟩
  · have HM := Lib.hid (HN.out h0)
    clear HZ HN
    have hp : 0 < n := by omega
    clear h0
    generalize hG : goM (n + 1) n ⟨#[]⟩ = G at *
    have HG := Lib.hid hG
    clear hG
    go_wp2_with fail
    go_loopw [0, 3] (fun nv sv wr => ∃ (f k : Nat) (s : ByteArray), k < f ∧ goM f k s = G ∧ s.size + k ≤ n ∧ nv = .int .i64 k ∧ sv = .string s ∧ Below w.heap.size w wr) (fun nv _ _ => (intOf nv).toNat)
    case atStart => exact ⟨n + 1, n, _, Nat.lt_succ_self _, HG.out, by show 0 + n ≤ n; omega, rfl, rfl, Below.refl _ _⟩
    case round =>
      obtain ⟨f, k, s, hf, hgo, hsz, rfl, rfl, hb⟩ := hrel
      rename World => wr
      have HB := Lib.hid hb
      have hbs := hb.size
      clear hb
      by_cases hk : k = 0
      · subst hk
        rw [goM_end] at hgo
        subst hgo
        go_wp2_with fail
        go_ret
        exact ⟨by rw [HM.out]; rfl, HB.out⟩
      · have HST := Lib.hid (goM_step s hf hk)
        rw [hgo] at HST
        have hkp : 0 < k := by omega
        have hb8 : (((UInt8.ofNat (48 + k % 10)).toNat : Nat) : Int) = 48 + (k % 10 : Nat) := by
          have h : (UInt8.ofNat (48 + k % 10)).toNat = (48 + k % 10) % 256 := UInt8.toNat_ofNat'
          rw [h]
          omega
        have hcv := one_conv wr (UInt8.ofNat (48 + k % 10)) (48 + (k : Int) % 10) (by rw [hb8]; omega)
        have htm : (k : Int).tmod 10 = (k : Int) % 10 := Int.tmod_eq_emod_of_nonneg (by omega)
        have htd : (k : Int).tdiv 10 = (k : Int) / 10 := Int.tdiv_eq_ediv_of_nonneg (by omega)
        have HS2 : Hid (((⟨#[UInt8.ofNat (48 + k % 10)]⟩ : ByteArray) ++ s).size + k / 10 ≤ n) := Lib.hid (by
          rw [ByteArray.size_append]
          show 1 + _ + _ ≤ _
          omega)
        clear hgo hf hb8
        generalize (UInt8.ofNat (48 + k % 10)) = d at *
        go_wp2_with fail
        go_roundw
        case rel => exact ⟨f - 1, k / 10, _, HST.out.1, HST.out.2.symm, HS2.out, by go_num, rfl, below_al HB.out _⟩
        case measure => simp [intOf]; omega

theorem grown_below {w w1 w2 : World} {row : Option Nat} (h : w.grownBy w1 row) (hb : Below w1.heap.size w1 w2) : w.grownBy w2 row :=
  ⟨hb.os.trans h.os, hb.tape.trans h.tape, hb.output.trans h.output, Nat.le_trans h.size hb.size, fun k hk hne => (hb.block k (Nat.lt_of_lt_of_le hk h.size)).trans (h.block k hk hne)⟩
/-- the marks that a slice of strings gets -/
def marksT (k : Nat) : Nat → List ByteArray
  | 0 => []
  | n + 1 => marksT k n ++ [markOf (k + n)]
theorem marksT_len (k : Nat) (n : Nat) : (marksT k n).length = n := by
  induction n with
  | zero => rfl
  | succ n ih => simp [marksT, ih]
theorem marksT_get (k : Nat) (n j : Nat) (h : j < n) (hj : j < (marksT k n).length) : (marksT k n)[j] = markOf (k + j) := by
  induction n with
  | zero => omega
  | succ n ih =>
    simp only [marksT]
    rcases Nat.lt_or_ge j n with h1 | h1
    · rw [List.getElem_append_left (by rw [marksT_len]; exact h1)]
      exact ih h1 _
    · have : j = n := by omega
      subst this
      rw [List.getElem_append_right (by rw [marksT_len]; omega)]
      simp [marksT_len]
theorem marksT_set (k : Nat) (j : Nat) (ys : List Value) (h : j < ys.length) : (sl (marksT k j) ++ ys.drop j).set j (.string (markOf (k + j))) = sl (marksT k (j + 1)) ++ ys.drop (j + 1) := by
  have hl : (sl (marksT k j)).length = j := by rw [sl_len, marksT_len]
  rw [List.set_append_right _ _ (by omega), hl, Nat.sub_self, List.drop_eq_getElem_cons h]
  simp only [List.set_cons_zero, marksT]
  unfold sl
  rw [List.map_append, List.append_assoc]
  rfl
set_option maxRecDepth 100000 in
set_option maxHeartbeats 1600000 in
theorem markStringS_any (A : Option Addr) (base n : Nat) (vs : List Value) (c : Nat) (k : Nat) (w : World) (hx : n ≤ 1048576) (hk : k ≤ 4194304) (ho : w.ownsRow base 9 1 (.slice A n c) n vs) :
    Calls Tryd.prog 12 #[.slice A n c, .int .i64 k] w (fun e w' => e = .returned (.int .i64 ((k + n : Nat) : Int)) ∧ w'.ownsRow base 9 1 (.slice A n c) n (sl (marksT k n)) ∧ w.grownBy w' (Value.slice A n c).ownBlock) := by
  have HO := Lib.hid ho
  clear ho
  have HM := Lib.hid fun m h w => markText_any m w h
  unfold MarkOut at HM
  go_enter Tryd.func12, Tryd.ntmps12
  go_wp2_with fail
  go_loopw [1, 5] (fun kk i wr => ∃ j : Nat, j ≤ n ∧ i = .int .i64 j ∧ kk = .int .i64 ((k + j : Nat) : Int) ∧ w.grownBy wr (Value.slice A n c).ownBlock ∧ wr.ownsRow base 9 1 (.slice A n c) n (sl (marksT k j) ++ vs.drop j)) (fun _ i _ => n - (intOf i).toNat)
  case atStart => exact ⟨0, Nat.zero_le _, rfl, by go_num, grown_refl _ _, by simpa [marksT, sl] using HO.out⟩
  case round =>
    obtain ⟨j, hj, rfl, rfl, hb, hown⟩ := hrel
    rename World => wr
    have HB := Lib.hid hb
    clear hb
    by_cases hlt : j < n
    · have HW := Lib.hid hown
      clear hown
      generalize hkj : k + j = kj at *
      go_wp2_with fail
      refine (HM.out kj (by omega) _).mono ?_
      rintro e w1 ⟨rfl, hb1⟩
      have HB1 := Lib.hid (grown_below HB.out hb1)
      have hown := own_below HW.out hb1
      clear hb1
      subst hkj
      cases A with
      | none => have := own_none hown; omega
      | some a =>
        obtain ⟨g, rfl, hg⟩ := own_some hown
        have hvl : vs.length = n := by have := HO.out.1; omega
        have hst := hown.stored j (.string (markOf (k + j)))
        have hfz := hown.frozenAt j
        have hcl := hown.cellAt j (by omega)
        have hlen : j < (sl (marksT k j) ++ vs.drop j).length := by rw [hown.1]; omega
        rw [List.getElem?_eq_getElem hlen] at hcl
        generalize (sl (marksT k j) ++ vs.drop j)[j] = u at hcl
        rw [marksT_set k j vs (by omega)] at hst
        have HST := Lib.hid hst
        have HV := Lib.hid hvl
        clear hst hown hlen hvl
        generalize markOf (k + j) = M at *
        go_wp2_with fail
        go_roundw
        case rel => exact ⟨j + 1, by omega, by go_num, by go_num, grown_set HB1.out _ _, HST.out.1⟩
        case measure => simp [intOf]; omega
    · have hke : j = n := by omega
      subst hke
      rw [List.drop_eq_nil_of_le (by have := HO.out.1; omega), List.append_nil] at hown
      have HOW := Lib.hid hown
      clear hown
      go_wp2_with fail
      go_ret
      exact ⟨rfl, HOW.out, HB.out⟩

theorem Rd.slSome {w : World} {B : Nat} {A : Option Addr} {xs : List ByteArray} (h : Rd w B A (sl xs)) {k : Nat} (hk : k < xs.length) : ∃ b off, A = some ⟨b, off, none⟩ ∧ b < B ∧ ∀ W, Below B w W → W.cell? ⟨b, off + k, none⟩ = some (.string xs[k]) := by
  obtain ⟨b, off, e, hb, hc⟩ := h.slAt2 hk
  refine ⟨b, off, e, hb, fun W hW => ?_⟩
  rw [← hc]
  exact hW.cell hb
set_option maxRecDepth 100000 in
set_option maxHeartbeats 1600000 in
theorem heldStringS_any (A : Option Addr) (n c : Nat) (k : Nat) (w : World) (hx : n ≤ 1048576) (hk : k ≤ 4194304) (hr : Rd w w.heap.size A (sl (marksT k n))) :
    Calls Tryd.prog 13 #[.slice A n c, .int .i64 k] w (fun e w' => e = .returned (.int .i64 ((k + n : Nat) : Int)) ∧ Below w.heap.size w w') := by
  have HR := Lib.hid hr
  clear hr
  have HM := Lib.hid fun m h w => markText_any m w h
  unfold MarkOut at HM
  go_enter Tryd.func13, Tryd.ntmps13
  go_wp2_with fail
  go_loopw [1, 5] (fun kk i wr => ∃ j : Nat, j ≤ n ∧ i = .int .i64 j ∧ kk = .int .i64 ((k + j : Nat) : Int) ∧ Below w.heap.size w wr) (fun _ i _ => n - (intOf i).toNat)
  case atStart => exact ⟨0, Nat.zero_le _, rfl, by go_num, Below.refl _ _⟩
  case round =>
    obtain ⟨j, hj, rfl, rfl, hb⟩ := hrel
    rename World => wr
    have HB := Lib.hid hb
    have hbs := hb.size
    clear hb
    by_cases hlt : j < n
    · obtain ⟨b, off, rfl, hbb, hc⟩ := HR.out.slSome (k := j) (by rw [marksT_len]; exact hlt)
      have HC := Lib.hid hc
      clear hc
      rw [marksT_get k n j hlt] at HC
      generalize hkj : k + j = kj at *
      have HK : Hid (kj ≤ 8388608) := Lib.hid (by omega)
      have hK := HK.out
      have HKJ := Lib.hid hkj
      clear hkj
      generalize hM : markOf kj = M at *
      have HMM : Hid (∀ W, Calls Tryd.prog 19 #[.int .i64 kj] W (fun e w' => e = .returned (.string M) ∧ Below W.heap.size W w')) := Lib.hid fun W => by rw [← hM]; exact HM.out kj HK.out W
      clear HM hM HR
      have hc0 := HC.out wr HB.out
      go_wp2_with fail
      go_region_held3 (fun W => W.cell? ⟨b, off + j, none⟩ = some (.string M))
        (first | exact HC.out _ HB.out | exact HC.out _ (below_dr HB.out) | exact HC.out _ bk)
        (first
          | (go_at_call 19; refine (HMM.out _).mono ?_; rintro e w3 ⟨rfl, hb3⟩; have bk : Below w.heap.size w w3 := below_next (below_dr HB.out) hb3; have HB3 := Lib.hid bk; clear hb3))
      clear bk
      go_wp2_with fail
      go_roundw
      case rel => exact ⟨j + 1, by omega, by go_num, by rw [← Nat.add_assoc, HKJ.out]; go_num, HB3.out⟩
      case measure => simp [intOf]; omega
    · have hke : j = n := by omega
      subst hke
      go_wp2_with fail
      go_ret
      exact ⟨rfl, HB.out⟩
end Go.Proofs.YthfkibecbbkhlaaDoor
