/-
  Decimal numbers: spec.l01Dec and impl.Decimal give one and the same text.
-/
import Derived.Test.YtadkpmmbnenemaaGreatDoorCk
import Derived.Test.YtadkpmmbnenemaaGreatDoorShelf
import Derived.Test.YtadkpmmbnenemaaGreatDoorRc1
import Derived.Lib.ItoaNum
import Derived.Lib.AppendIntMem
namespace Go.Proofs.YtadkpmmbnenemaaGreatDoor
open Go Go.RowKit

/-- the digits of what is left of a number, before those that are there -/
def fullD (r : Nat) (l : List UInt8) : List UInt8 := if r = 0 then l else Lib.decDigits r ++ l
theorem fullD_step (r : Nat) (l : List UInt8) (h : r ≠ 0) : fullD r l = fullD (r / 10) (UInt8.ofNat (48 + r % 10) :: l) := by
  unfold fullD
  rw [if_neg h]
  by_cases h10 : r < 10
  · rw [if_pos (by omega), Lib.decDigits, dif_pos h10, Nat.mod_eq_of_lt h10]
    rfl
  · rw [if_neg (by omega), Lib.decDigits, dif_neg h10, List.append_assoc]
    rfl
theorem fullD_zero : Lib.decDigits 0 = fullD (0 / 10) [UInt8.ofNat (48 + 0 % 10)] := by
  rw [Lib.decDigits, dif_pos (by omega)]
  rfl
theorem fullD_first (r : Nat) : Lib.decDigits r = fullD (r / 10) [UInt8.ofNat (48 + r % 10)] := by
  by_cases h : r = 0
  · subst h; exact fullD_zero
  · have := fullD_step r [] h
    rw [← this]
    unfold fullD
    rw [if_neg h, List.append_nil]
theorem decDigits_len (r : Nat) : 1 ≤ (Lib.decDigits r).length := by
  rw [Lib.decDigits]
  split
  · simp
  · simp
theorem decDigits_most : ∀ (k r : Nat), r < 10 ^ (k + 1) → (Lib.decDigits r).length ≤ k + 1 := by
  intro k
  induction k with
  | zero =>
    intro r h
    rw [Lib.decDigits, dif_pos (by omega)]
    simp
  | succ k ih =>
    intro r h
    rw [Lib.decDigits]
    split
    · simp
    · have : r / 10 < 10 ^ (k + 1) := by
        rw [Nat.div_lt_iff_lt_mul (by decide)]
        rw [Nat.pow_succ] at h
        exact h
      have := ih (r / 10) this
      simp
      omega
theorem itoa_len {n : Int} (h : -9223372036854775808 ≤ n ∧ n ≤ 9223372036854775807) : 1 ≤ (Lib.itoa n).length ∧ (Lib.itoa n).length ≤ 21 := by
  unfold Lib.itoa
  split
  · have h1 := decDigits_len n.natAbs
    have h2 := decDigits_most 19 n.natAbs (by omega)
    simp
    omega
  · have h1 := decDigits_len n.toNat
    have h2 := decDigits_most 19 n.toNat (by omega)
    omega
theorem info_u8 : (Tryz.prog.info? 5).map (fun i => (i.zero, i.size, i.bytes)) = some (some (.int .u8 0), 1, 1) := by kernel_rfl
theorem grow_below {w : World} (k : Nat) (os : Array Obj) : Below w.heap.size w (Go.Sort.grow (w.drewN k) os) :=
  ⟨rfl, rfl, rfl, by show w.heap.size ≤ (w.heap ++ os).size; rw [Array.size_append]; omega, fun j hj => Array.getElem?_append_left hj⟩
def DecOut (n : Int) (w : World) (e : Ending) (w' : World) : Prop := e = .returned (.string ⟨(Lib.itoa n).toArray⟩) ∧ Below w.heap.size w w'
theorem own_byte (w : World) (B : Nat) (hB : B ≤ w.heap.size) (W0 : World) (hb : Below B W0 w) (c : Int) : Lib.OwnBuf B 5 (.slice (some ⟨w.heap.size, 0, none⟩) 1 1) 1 [.int .u8 c] W0 (w.alloc (.cells #[.int .u8 c] 5)) := by
  refine ⟨World.ownsRowF_of ⟨rfl, .inr ⟨w.heap.size, 1, #[.int .u8 c], rfl, hB, heap_alloc_new w _, Nat.le_refl _, by unfold maxLen; omega, rfl, rfl⟩⟩, hb.alloc hB _, ?_⟩
  simp
  omega
theorem buf_news {B : Nat} {l : List UInt8} {g cap : Nat} {W0 w : World} (h : Lib.OwnBuf B 5 (.slice (some ⟨g, 0, none⟩) l.length cap) l.length (bc l) W0 w) (o : Obj) : ∀ j u, (bc l)[j]? = some u → (w.alloc o).cell? ((⟨g, 0, none⟩ : Addr).add j) = some u := by
  intro j u hj
  have hlt : j < l.length := by
    have := (List.getElem?_eq_some_iff.1 hj).1
    rwa [bc_len] at this
  have hg := (h.1.lt g rfl).2
  have hadd : (⟨g, 0, none⟩ : Addr).add j = ⟨g, j, none⟩ := by unfold Addr.add; split <;> simp_all
  have hc := buf_cells h j hlt
  rw [hadd] at hc ⊢
  rw [World.cell?_alloc_lt _ _ _ hg, hc, ← hj]
  unfold bc
  rw [List.getElem?_map, List.getElem?_eq_getElem hlt]
  rfl
theorem dig_byte (r : Nat) : Value.int .u8 (48 + (r % 10 : Nat)) = Value.int .u8 ((UInt8.ofNat (48 + r % 10)).toNat : Nat) := by
  have h : (UInt8.ofNat (48 + r % 10)).toNat = (48 + r % 10) % 256 := UInt8.toNat_ofNat'
  rw [h]
  congr 1
  omega
/-- a digit before others -/
theorem bf_front {B : Nat} {v : Value} {W0 w : World} {l : List UInt8} {x : Int} {b : UInt8} (h : Lib.OwnBuf B 5 v (1 + l.length) ([.int .u8 x] ++ bc l) W0 w) (hx : x = (b.toNat : Int)) : Lib.OwnBuf B 5 v (b :: l).length (bc (b :: l)) W0 w := by
  subst hx
  rw [List.length_cons, Nat.add_comm]
  exact h
theorem abs_digit {r : Int} : r.tmod 10 = r.natAbs % 10 ∨ r.tmod 10 = -(r.natAbs % 10 : Nat) := by
  rcases Int.le_total 0 r with h | h
  · left
    rw [Int.tmod_eq_emod_of_nonneg h]
    omega
  · right
    have : r = -(r.natAbs : Int) := by omega
    rw [this, Int.neg_tmod, Int.tmod_eq_emod_of_nonneg (by omega)]
    omega
theorem abs_div (r : Int) : (r.tdiv 10).natAbs = r.natAbs / 10 := Int.natAbs_tdiv r 10
theorem conv_run (B : Nat) (l : List UInt8) (g cap : Nat) (W0 w : World) (h : Lib.OwnBuf B 5 (.slice (some ⟨g, 0, none⟩) l.length cap) l.length (bc l) W0 w) :
    (convert 62 9 (.slice (some ⟨g, 0, none⟩) l.length cap)).run Tryz.prog w = .ok (.string ⟨l.toArray⟩) w :=
  run_convert_bytes_back w _ _ 5 ⟨g, 0, none⟩ cap l Tryz.underlying62 Tryz.underlying5 Tryz.underlying9 (buf_cells h)
set_option maxRecDepth 100000 in
set_option maxHeartbeats 3200000 in
theorem l01Dec_any (n : Int) (w : World) (h0 : -9223372036854775808 ≤ n) (h1 : n ≤ 9223372036854775807) : Calls Tryz.prog 51 #[.int .i64 n] w (DecOut n w) := by
  obtain ⟨i0, hi0, hz0, hz1, hz2⟩ := info_parts info_u8
  have HN : Hid (Lib.itoa n = if n < 0 then 45 :: Lib.decDigits n.natAbs else Lib.decDigits n.natAbs) := Lib.hid (by unfold Lib.itoa; split <;> first | rfl | (congr 1; omega))
  have HF : Hid (∀ r : Int, Lib.decDigits r.natAbs = fullD (r.tdiv 10).natAbs [UInt8.ofNat (48 + r.natAbs % 10)]) := Lib.hid fun r => by rw [abs_div]; exact fullD_first _
  have HS : Hid (∀ (r : Int) l, r ≠ 0 → fullD r.natAbs l = fullD (r.tdiv 10).natAbs (UInt8.ofNat (48 + r.natAbs % 10) :: l)) := Lib.hid fun r l h => by rw [abs_div]; exact fullD_step _ _ (by omega)
  have HL : Hid ((Lib.decDigits n.natAbs).length ≤ 20) := Lib.hid (decDigits_most 19 n.natAbs (by omega))
  have HZ : Hid (∀ l, fullD (0 : Int).natAbs l = l) := Lib.hid fun l => rfl
  have HLF : Hid (∀ r l, (l : List UInt8).length ≤ (fullD r l).length) := Lib.hid fun r l => by unfold fullD; split <;> simp
  unfold DecOut
  generalize Lib.itoa n = T at *
  have HDV : Hid (∀ r : Int, (((UInt8.ofNat (48 + r.natAbs % 10)).toNat : Nat) : Int) = 48 + (r.natAbs % 10 : Nat)) := Lib.hid fun r => by
    have h : (UInt8.ofNat (48 + r.natAbs % 10)).toNat = (48 + r.natAbs % 10) % 256 := UInt8.toNat_ofNat'
    rw [h]
    omega
  have HTM : Hid (∀ r : Int, r < 0 → r.tmod 10 = -((r.natAbs % 10 : Nat) : Int)) := Lib.hid fun r h => by
    have : r = -(r.natAbs : Int) := by omega
    rw [this, Int.neg_tmod, Int.tmod_eq_emod_of_nonneg (by omega)]
    omega
  have HTD : Hid (∀ r : Int, r < 0 → r.tdiv 10 = -((r.natAbs / 10 : Nat) : Int)) := Lib.hid fun r h => by
    have : r = -(r.natAbs : Int) := by omega
    rw [this, Int.neg_tdiv, Int.tdiv_eq_ediv_of_nonneg (by omega)]
    omega
  have HTP : Hid (∀ r : Int, 0 ≤ r → r.tdiv 10 = r / 10) := Lib.hid fun r h => Int.tdiv_eq_ediv_of_nonneg h
  go_enter Tryz.func51, Tryz.ntmps51
  go_wp2_with fail
  have B0 : Hid (Lib.OwnBuf w.heap.size 5 (.slice (some ⟨w.heap.size, 0, none⟩) 0 0) 0 [] w (w.alloc (.cells #[] 5))) := Lib.hid ⟨World.ownsRowF_of (World.ownsRow_made w #[] 0 (Nat.le_refl _) (by unfold maxLen; omega) rfl), below_al (Below.refl _ _) _, by simp⟩
  go_loopw [3, 4, 5] (fun ov rv _ wr => ∃ (l : List UInt8) (r : Int) (g cap : Nat), rv = .int .i64 r ∧ (-9223372036854775808 ≤ r ∧ r ≤ 9223372036854775807) ∧ ov = .slice (some ⟨g, 0, none⟩) l.length cap ∧ Lib.OwnBuf w.heap.size 5 (.slice (some ⟨g, 0, none⟩) l.length cap) l.length (bc l) w wr ∧ ((l = [] ∧ r = n) ∨ (l ≠ [] ∧ fullD r.natAbs l = Lib.decDigits n.natAbs)))
    (fun ov rv _ _ => (intOf rv).natAbs + (match ov with | .slice _ n _ => if n = 0 then 1 else 0 | _ => 0))
  case atStart => exact ⟨[], n, _, _, rfl, ⟨h0, h1⟩, rfl, B0.out, .inl ⟨rfl, rfl⟩⟩
  case round =>
    obtain ⟨l, r, g, cap, rfl, ⟨r0, r1⟩, rfl, hbf, hcase⟩ := hrel
    rename World => wr
    have HB := Lib.hid hbf
    have hsz := hbf.2.2
    have HBW := Lib.hid hbf.2.1
    have hlen : l.length ≤ 20 := by
      rcases hcase with ⟨rfl, _⟩ | ⟨_, hf⟩
      · simp
      · have := HLF.out r.natAbs l
        rw [hf] at this
        have := HL.out
        omega
    have HNX : Hid ((l = [] ∨ r ≠ 0) → fullD (r.tdiv 10).natAbs (UInt8.ofNat (48 + r.natAbs % 10) :: l) = Lib.decDigits n.natAbs) := Lib.hid fun h => by
      rcases hcase with ⟨rfl, rfl⟩ | ⟨hl, hf⟩
      · exact (HF.out r).symm
      · have : r ≠ 0 := h.resolve_left hl
        rw [← hf, HS.out r l this]
    have HEX : Hid (l ≠ [] → r = 0 → l = Lib.decDigits n.natAbs) := Lib.hid fun hl hr => by
      rcases hcase with ⟨h, _⟩ | ⟨_, hf⟩
      · exact absurd h hl
      · rw [← hf, hr]; rfl
    have HDVr := Lib.hid (HDV.out r)
    have HTMr := Lib.hid (HTM.out r)
    have HTDr := Lib.hid (HTD.out r)
    have HTPr := Lib.hid (HTP.out r)
    clear hbf hcase HF HS HLF HDV HTM HTD HTP
    by_cases hstop : l ≠ [] ∧ r = 0
    · obtain ⟨hl, rfl⟩ := hstop
      have HX := Lib.hid (HEX.out hl rfl)
      have hpos : 0 < l.length := List.length_pos_iff.2 hl
      have hlz : ((l.length : Int) == 0) = false := by simpa using hl
      have hcv := conv_run _ _ _ _ _ _ HB.out
      clear hl HNX HEX
      by_cases hneg : n < 0
      · have HT : Hid (T = 45 :: l) := Lib.hid (by rw [HN.out, if_pos hneg, HX.out])
        go_wp2_with (refine wpList_append_many rfl _ _ _ rfl w.heap.size 5 i0 Tryz.underlying62 hi0 hz0 hz1 hz2 (.slice (some ⟨wr.heap.size, 0, none⟩) 1 1) 1 [.int .u8 45] rfl w (own_byte wr w.heap.size hsz w HBW.out 45) ⟨g, 0, none⟩ l.length cap (bc l) rfl (bc_len l) (buf_news HB.out _) (bc_one l) (by omega) ?_; intro v2 w2 hb2; have hb3 := bf_front (b := 45) hb2 rfl; obtain ⟨g3, cap3, rfl⟩ := buf_form hb3 (by simp); have hcv3 := conv_run _ _ _ _ _ _ hb3; rw [List.length_cons] at hcv3; have HB3 := Lib.hid hb3; clear hb2 hb3)
        go_ret
        exact ⟨by rw [HT.out]; rfl, HB3.out.2.1⟩
      · have HT : Hid (T = l) := Lib.hid (by rw [HN.out, if_neg hneg, HX.out])
        go_wp2_with fail
        go_ret
        exact ⟨by rw [HT.out]; rfl, HBW.out⟩
    · have HNX' := Lib.hid (HNX.out (by rcases Classical.em (l = []) with h | h; exact .inl h; exact .inr fun h' => hstop ⟨h, h'⟩))
      have hgo : l.length = 0 ∨ r ≠ 0 := by
        rcases Classical.em (l = []) with h | h
        · exact .inl (by rw [h]; rfl)
        · exact .inr fun h' => hstop ⟨h, h'⟩
      clear hstop HNX HEX
      by_cases hpos : 0 ≤ r
      · have HTP2 := Lib.hid (HTPr.out hpos)
        have HTD2 : Hid True := Lib.hid trivial
        by_cases hlz : l.length = 0
        · have hl0 : l = [] := List.length_eq_zero_iff.1 hlz
          subst hl0
          go_wp2_with (refine wpList_append_many rfl _ _ _ rfl w.heap.size 5 i0 Tryz.underlying62 hi0 hz0 hz1 hz2 (.slice (some ⟨wr.heap.size, 0, none⟩) 1 1) 1 [.int .u8 _] rfl w (own_byte wr w.heap.size hsz w HBW.out _) ⟨g, 0, none⟩ 0 cap (bc []) rfl (bc_len _) (buf_news HB.out _) (bc_one _) (by omega) ?_; intro v2 w2 hb2; have hb3 := bf_front (b := UInt8.ofNat (48 + r.natAbs % 10)) hb2 (by rw [HDVr.out]; omega); obtain ⟨g3, cap3, rfl⟩ := buf_form hb3 (by simp); have HB3 := Lib.hid hb3; clear hb2 hb3)
          go_roundw
          case rel => exact ⟨_, r.tdiv 10, g3, cap3, by first | rfl | rw [HTP2.out] | rw [HTD2.out], by first | (rw [HTP2.out]; omega) | (rw [HTD2.out]; omega), rfl, HB3.out, .inr ⟨by simp, HNX'.out⟩⟩
          case measure => first | (simp [intOf]; omega) | (simp [intOf]; done) | (simp [intOf]; exact Nat.lt_succ_of_le (Nat.div_le_self _ _)) | (simp [intOf]; exact Nat.lt_of_lt_of_le (Nat.div_lt_self (by omega) (by decide)) (Nat.le_add_right _ _))
        · have hlz2 : ((l.length : Int) == 0) = false := by simpa using hlz
          have hr0 : r ≠ 0 := hgo.resolve_left hlz
          go_wp2_with (refine wpList_append_many rfl _ _ _ rfl w.heap.size 5 i0 Tryz.underlying62 hi0 hz0 hz1 hz2 (.slice (some ⟨wr.heap.size, 0, none⟩) 1 1) 1 [.int .u8 _] rfl w (own_byte wr w.heap.size hsz w HBW.out _) ⟨g, 0, none⟩ l.length cap (bc l) rfl (bc_len _) (buf_news HB.out _) (bc_one _) (by omega) ?_; intro v2 w2 hb2; have hb3 := bf_front (b := UInt8.ofNat (48 + r.natAbs % 10)) hb2 (by rw [HDVr.out]; omega); obtain ⟨g3, cap3, rfl⟩ := buf_form hb3 (by simp); have HB3 := Lib.hid hb3; clear hb2 hb3)
          go_roundw
          case rel => exact ⟨_, r.tdiv 10, g3, cap3, by first | rfl | rw [HTP2.out] | rw [HTD2.out], by first | (rw [HTP2.out]; omega) | (rw [HTD2.out]; omega), rfl, HB3.out, .inr ⟨by simp, HNX'.out⟩⟩
          case measure => first | (simp [intOf]; omega) | (simp [intOf]; done) | (simp [intOf]; exact Nat.lt_succ_of_le (Nat.div_le_self _ _)) | (simp [intOf]; exact Nat.lt_of_lt_of_le (Nat.div_lt_self (by omega) (by decide)) (Nat.le_add_right _ _))
      · have HTD2 := Lib.hid (HTDr.out (by omega))
        have HTP2 : Hid True := Lib.hid trivial
        have HTM2 := Lib.hid (HTMr.out (by omega))
        have hd0 : -10 < r.tmod 10 := by rw [HTM2.out]; omega
        have hd1 : r.tmod 10 ≤ 0 := by rw [HTM2.out]; omega
        by_cases hlz : l.length = 0
        · have hl0 : l = [] := List.length_eq_zero_iff.1 hlz
          subst hl0
          go_wp2_with (refine wpList_append_many rfl _ _ _ rfl w.heap.size 5 i0 Tryz.underlying62 hi0 hz0 hz1 hz2 (.slice (some ⟨wr.heap.size, 0, none⟩) 1 1) 1 [.int .u8 _] rfl w (own_byte wr w.heap.size hsz w HBW.out _) ⟨g, 0, none⟩ 0 cap (bc []) rfl (bc_len _) (buf_news HB.out _) (bc_one _) (by omega) ?_; intro v2 w2 hb2; have hb3 := bf_front (b := UInt8.ofNat (48 + r.natAbs % 10)) hb2 (by rw [HDVr.out]; have := HTM2.out; omega); obtain ⟨g3, cap3, rfl⟩ := buf_form hb3 (by simp); have HB3 := Lib.hid hb3; clear hb2 hb3)
          all_goals
            go_roundw
            case rel => exact ⟨_, r.tdiv 10, g3, cap3, by first | rfl | rw [HTP2.out] | rw [HTD2.out], by first | (rw [HTP2.out]; omega) | (rw [HTD2.out]; omega), rfl, HB3.out, .inr ⟨by simp, HNX'.out⟩⟩
            case measure => first | (simp [intOf]; omega) | (simp [intOf]; done) | (simp [intOf]; exact Nat.lt_succ_of_le (Nat.div_le_self _ _)) | (simp [intOf]; exact Nat.lt_of_lt_of_le (Nat.div_lt_self (by omega) (by decide)) (Nat.le_add_right _ _))
        · have hlz2 : ((l.length : Int) == 0) = false := by simpa using hlz
          have hr0 : r ≠ 0 := hgo.resolve_left hlz
          go_wp2_with (refine wpList_append_many rfl _ _ _ rfl w.heap.size 5 i0 Tryz.underlying62 hi0 hz0 hz1 hz2 (.slice (some ⟨wr.heap.size, 0, none⟩) 1 1) 1 [.int .u8 _] rfl w (own_byte wr w.heap.size hsz w HBW.out _) ⟨g, 0, none⟩ l.length cap (bc l) rfl (bc_len _) (buf_news HB.out _) (bc_one _) (by omega) ?_; intro v2 w2 hb2; have hb3 := bf_front (b := UInt8.ofNat (48 + r.natAbs % 10)) hb2 (by rw [HDVr.out]; have := HTM2.out; omega); obtain ⟨g3, cap3, rfl⟩ := buf_form hb3 (by simp); have HB3 := Lib.hid hb3; clear hb2 hb3)
          all_goals
            go_roundw
            case rel => exact ⟨_, r.tdiv 10, g3, cap3, by first | rfl | rw [HTP2.out] | rw [HTD2.out], by first | (rw [HTP2.out]; omega) | (rw [HTD2.out]; omega), rfl, HB3.out, .inr ⟨by simp, HNX'.out⟩⟩
            case measure => first | (simp [intOf]; omega) | (simp [intOf]; done) | (simp [intOf]; exact Nat.lt_succ_of_le (Nat.div_le_self _ _)) | (simp [intOf]; exact Nat.lt_of_lt_of_le (Nat.div_lt_self (by omega) (by decide)) (Nat.le_add_right _ _))
theorem Decimal_any (n : Int) (w : World) (h0 : -9223372036854775808 ≤ n) (h1 : n ≤ 9223372036854775807) (htab : Lib.TabIs Tryz.prog w "internal/strconv.uint64pow10" .u64 Lib.pow10Tab) : Calls Tryz.prog 38 #[.int .i64 n] w (DecOut n w) := by
  have H := Lib.hid (Tryz.strconv_FormatInt_10 n h0 h1 w htab)
  unfold DecOut
  go_enter Tryz.func38, Tryz.ntmps38
  go_wp2_with (go_at_call 59; refine H.out.mono ?_; rintro e w1 ⟨rfl, k, os, hw⟩; have HB : Hid (Below w.heap.size w w1) := Lib.hid (by rw [hw]; exact grow_below k os); clear hw)
  go_ret
  exact ⟨rfl, HB.out⟩
end Go.Proofs.YtadkpmmbnenemaaGreatDoor
