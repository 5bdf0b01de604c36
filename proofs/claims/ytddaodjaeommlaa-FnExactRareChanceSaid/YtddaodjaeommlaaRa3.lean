/-
  Levels: impl.isRare, spec.l07Levels, spec.l07Can.
-/
import Derived.Test.YtddaodjaeommlaaMt2
import Derived.Deep.RegionLaw
namespace Go.Proofs.Ytddaodjaeommlaa
open Go Go.RowKit Ieee

/-- what stands before a level -/
def prevL (i : Int) (ls : List Int) (j : Nat) : Int := (i :: ls).getD j 0
def levAt (side i : Int) (ls : List Int) (q : Nat) : Bool := decide (prevL i ls q < ls.getD q 0 ∧ ls.getD q 0 < side)
def levB (side i : Int) (ls : List Int) : Bool := (List.range ls.length).all (levAt side i ls)
def sizeB (m : Nat) : Bool := decide (1 ≤ m ∧ m ≤ 8)
theorem levB_no {side i : Int} {ls : List Int} {j : Nat} (hj : j < ls.length) (h : levAt side i ls j = false) : levB side i ls = false := by
  unfold levB
  rw [List.all_eq_false]
  exact ⟨j, List.mem_range.2 hj, by rw [h]; exact Bool.false_ne_true⟩
theorem levB_yes {side i : Int} {ls : List Int} (h : ∀ q, q < ls.length → levAt side i ls q = true) : levB side i ls = true := List.all_eq_true.2 fun q hq => h q (List.mem_range.1 hq)
def isrB (side i : Int) (xs : List Nat) (ls : List Int) (walks : Int) : Bool := validB side xs && (stateB side i && (sizeB ls.length && (levB side i ls && inB walks 1 64)))
def rareB (k a b side : Int) (xs : List Nat) (i : Int) (ls : List Int) (walks : Int) : Bool := seedB k a b && isrB side i xs ls walks

def Ch (g : Nat) (n : Int) (A : Option Addr) (m c : Nat) (W : World) : Prop := W.cell? ⟨g, 0, none⟩ = some (.int .i64 n) ∧ W.cell? ⟨g, 1, none⟩ = some (.slice A m c)
theorem Ch.keep {g : Nat} {n : Int} {A : Option Addr} {m c : Nat} {W W' : World} (h : Ch g n A m c W) (hb : Below W.heap.size W W') : Ch g n A m c W' := ⟨keepC hb h.1, keepC hb h.2⟩

set_option maxRecDepth 100000 in
set_option maxHeartbeats 1600000 in
theorem isRare_bad (side i walks : Int) (L : Nat) (A : Option Addr) (xs : List Nat) (c : Nat) (B : Option Addr) (d : Nat) (w : World) (hx : xs.length ≤ c) (hc : c ≤ 9223372036854775807) (h : Rd w w.heap.size A (fl xs)) (hbad : (validB side xs && (stateB side i && (sizeB L && inB walks 1 64))) = false) :
    Calls Try.prog 141 #[.agg #[.int .i64 side, .slice A xs.length c], .int .i64 i, .slice B L d, .int .i64 walks] w (fun e w' => e = .returned (.bool false) ∧ Below w.heap.size w w') := by
  have HV := Lib.hid fun W h => ValidChain_any side A xs c W hx hc h
  have HT1 := Lib.hid fun (hn : 1 ≤ side ∧ side ≤ 12) W => isState_any side i A xs.length c W hn
  have HW := Lib.hid fun w => within_any walks 1 64 w
  have HSIDE : Hid (validB side xs = true → 1 ≤ side ∧ side ≤ 12) := Lib.hid fun hv => by
    obtain ⟨n, hn, h1, h2, -⟩ := validB_facts hv
    omega
  clear hx hc
  have hsz : sizeB L = true → 1 ≤ L ∧ L ≤ 8 := fun hz => of_decide_eq_true hz
  have hsz' : sizeB L = false → L < 1 ∨ 8 < L := fun hz => by
    have := of_decide_eq_false hz
    omega
  generalize validB side xs = d1 at *
  generalize stateB side i = d2 at *
  generalize sizeB L = d3 at *
  generalize inB walks 1 64 = d4 at *
  have hcase : d1 = false ∨ (d1 = true ∧ d2 = false) ∨ (d1 = true ∧ d2 = true ∧ L < 1) ∨ (d1 = true ∧ d2 = true ∧ 8 < L) ∨ (d1 = true ∧ d2 = true ∧ (1 ≤ L ∧ L ≤ 8) ∧ d4 = false) := by
    cases d1 <;> cases d2 <;> cases d3 <;> cases d4 <;> simp_all <;> omega
  clear hbad hsz hsz'
  rcases hcase with rfl | ⟨rfl, rfl⟩ | ⟨rfl, rfl, hL⟩ | ⟨rfl, rfl, hL⟩ | ⟨rfl, rfl, ⟨hL, hL'⟩, rfl⟩
  all_goals
    first | (have HU1 := Lib.hid (HT1.out (HSIDE.out rfl))) | skip
    go_enter Try.func141, Try.ntmps141
    go_wp2_with fail
    generalize hW1 : World.alloc w _ = W1
    have HXq : Hid (Ch w.heap.size side A xs.length c W1) := by rw [← hW1]; exact Lib.hid (by simp [Ch, go_sem])
    have HBq : Hid (Below w.heap.size w W1) := by rw [← hW1]; exact Lib.hid (below_al (Below.refl _ _) _)
    clear hW1
    refine (HV.out _ (h.at_ HBq.out)).mono ?_
    rintro e w3 ⟨rfl, hb3⟩
    have HXq := Lib.hid (HXq.out.keep hb3)
    have HBq := Lib.hid (below_next HBq.out hb3)
    clear hb3
    obtain ⟨n0, n1⟩ := HXq.out
    go_wp2_with (first
      | (go_at_call 129; (with_reducible refine (HU1.out _).mono ?_); rintro e w4 ⟨rfl, hb4⟩; have HXq := Lib.hid (HXq.out.keep hb4); have HBq := Lib.hid (below_next HBq.out hb4); clear hb4; obtain ⟨n0, n1⟩ := HXq.out)
      | (go_at_call 96; refine (HW.out _).mono ?_; rintro e w5 ⟨rfl, m5, rfl⟩; have HBq := Lib.hid (below_drewN HBq.out m5)))
    go_ret
    exact ⟨rfl, HBq.out⟩
set_option maxRecDepth 100000 in
set_option maxHeartbeats 1600000 in
theorem isRare_ok (side i walks : Int) (ls : List Int) (A : Option Addr) (xs : List Nat) (c : Nat) (B : Option Addr) (d : Nat) (w : World) (hx : xs.length ≤ c) (hc : c ≤ 9223372036854775807) (h : Rd w w.heap.size A (fl xs)) (h' : Rd w w.heap.size B (il ls)) (hok : (validB side xs && (stateB side i && (sizeB ls.length && inB walks 1 64))) = true) :
    Calls Try.prog 141 #[.agg #[.int .i64 side, .slice A xs.length c], .int .i64 i, .slice B ls.length d, .int .i64 walks] w (fun e w' => e = .returned (.bool (levB side i ls)) ∧ Below w.heap.size w w') := by
  have HV := Lib.hid fun W h => ValidChain_any side A xs c W hx hc h
  have HW := Lib.hid fun w => within_any walks 1 64 w
  rw [Bool.and_eq_true, Bool.and_eq_true, Bool.and_eq_true] at hok
  obtain ⟨h1, h2, h3, h4⟩ := hok
  have hside : 1 ≤ side ∧ side ≤ 12 := by
    obtain ⟨n, hn, q1, q2, -⟩ := validB_facts h1
    omega
  have HT := Lib.hid fun j W => isState_any side j A xs.length c W hside
  have HT1 := Lib.hid (HT.out i)
  obtain ⟨hi0, hi1⟩ := of_decide_eq_true h2
  obtain ⟨hL1, hL2⟩ := of_decide_eq_true h3
  rw [h1] at HV
  rw [h2] at HT1
  rw [h4] at HW
  have HRD := Lib.hid h
  have HRI := Lib.hid h'
  have HLY : Hid ((∀ q, q < ls.length → levAt side i ls q = true) → levB side i ls = true) := Lib.hid levB_yes
  have HLN : Hid (∀ j, j < ls.length → levAt side i ls j = false → levB side i ls = false) := Lib.hid fun j h1 h2 => levB_no h1 h2
  clear h1 h2 h3 h4 hx hc h h'
  go_enter Try.func141, Try.ntmps141
  go_wp2_with fail
  generalize hW1 : World.alloc w _ = W1
  have HXq : Hid (Ch w.heap.size side A xs.length c W1) := by rw [← hW1]; exact Lib.hid (by simp [Ch, go_sem])
  have HBq : Hid (Below w.heap.size w W1) := by rw [← hW1]; exact Lib.hid (below_al (Below.refl _ _) _)
  clear hW1
  refine (HV.out _ (HRD.out.at_ HBq.out)).mono ?_
  rintro e w3 ⟨rfl, hb3⟩
  have HXq := Lib.hid (HXq.out.keep hb3)
  have HBq := Lib.hid (below_next HBq.out hb3)
  clear hb3
  obtain ⟨n0, n1⟩ := HXq.out
  go_wp2_with (first
    | (go_at_call 129; (with_reducible refine (HT1.out _).mono ?_); rintro e w4 ⟨rfl, hb4⟩; have HXq := Lib.hid (HXq.out.keep hb4); have HBq := Lib.hid (below_next HBq.out hb4); clear hb4; obtain ⟨n0, n1⟩ := HXq.out)
    | (go_at_call 96; refine (HW.out _).mono ?_; rintro e w5 ⟨rfl, m5, rfl⟩; have HBq := Lib.hid (below_drewN HBq.out m5)))
  go_loopw [9, 11, 39] (fun bv _ jv wr => ∃ j : Nat, j ≤ ls.length ∧ jv = .int .i64 j ∧ bv = .int .i64 (prevL i ls j) ∧ 0 ≤ prevL i ls j ∧ (∀ q, q < j → levAt side i ls q = true) ∧ Ch w.heap.size side A xs.length c wr ∧ Below w.heap.size w wr) (fun _ _ jv _ => ls.length - (intOf jv).toNat)
  case atStart => exact ⟨0, Nat.zero_le _, rfl, rfl, hi0, (fun q hq => by omega), HXq.out, HBq.out⟩
  case round =>
    obtain ⟨j, hj, rfl, rfl, hp0, hall, hch, hbw⟩ := hrel
    rename World => wr
    have HA := Lib.hid hall
    have HB := Lib.hid hbw
    have HX := Lib.hid hch
    by_cases hjl : j < ls.length
    · obtain ⟨b, off, rfl, hbb, hcl⟩ := (HRI.out.at_ hbw).ilAt hjl
      have hg1 : ls[j] = ls.getD j 0 := by rw [List.getD_eq_getElem?_getD, List.getElem?_eq_getElem hjl]; rfl
      have HLA : Hid (levAt side i ls j = decide (prevL i ls j < ls.getD j 0 ∧ ls.getD j 0 < side)) := Lib.hid rfl
      have HPL : Hid (prevL i ls (j + 1) = ls.getD j 0) := Lib.hid rfl
      rw [hg1] at hcl
      have HTj := Lib.hid (HT.out (ls.getD j 0))
      have HLNj := Lib.hid (HLN.out j hjl)
      clear hall hbw hg1
      generalize ls.getD j 0 = l at *
      generalize prevL i ls j = p at *
      obtain ⟨n0', n1'⟩ := hch
      by_cases hs : 0 ≤ l ∧ l ≤ side - 1
      · have hst : stateB side l = true := decide_eq_true hs
        rw [hst] at HTj
        clear hst
        by_cases hpl : p < l
        · have HN2 : Hid (∀ q, q < j + 1 → levAt side i ls q = true) := Lib.hid fun q hq => by
            rcases Nat.lt_or_ge q j with hl | hg
            · exact HA.out q hl
            · obtain rfl : q = j := by omega
              rw [HLA.out]
              exact decide_eq_true ⟨hpl, by omega⟩
          go_wp2_with (go_at_call 129; refine (HTj.out _).mono ?_; rintro e w4 ⟨rfl, hb4⟩; have HX4 := Lib.hid (HX.out.keep hb4); have HB4 := Lib.hid (below_next HB.out hb4); clear hb4)
          go_roundw
          case rel => exact ⟨j + 1, by omega, by go_num, by rw [HPL.out], by rw [HPL.out]; omega, HN2.out, HX4.out, HB4.out⟩
          case measure => simp [intOf]; omega
        · have HF := Lib.hid (HLNj.out (by rw [HLA.out]; exact decide_eq_false fun hh => hpl hh.1))
          go_wp2_with (go_at_call 129; refine (HTj.out _).mono ?_; rintro e w4 ⟨rfl, hb4⟩; have HB4 := Lib.hid (below_next HB.out hb4); clear hb4)
          go_ret
          rw [HF.out]
          exact ⟨rfl, HB4.out⟩
      · have hst : stateB side l = false := decide_eq_false hs
        rw [hst] at HTj
        have HF := Lib.hid (HLNj.out (by rw [HLA.out]; exact decide_eq_false fun hh => hs ⟨by omega, by omega⟩))
        clear hst
        go_wp2_with (go_at_call 129; refine (HTj.out _).mono ?_; rintro e w4 ⟨rfl, hb4⟩; have HB4 := Lib.hid (below_next HB.out hb4); clear hb4)
        go_ret
        rw [HF.out]
        exact ⟨rfl, HB4.out⟩
    · obtain rfl : j = ls.length := by omega
      have HF := Lib.hid (HLY.out HA.out)
      clear hall hbw hch
      go_wp2_with fail
      go_ret
      rw [HF.out]
      exact ⟨rfl, HB.out⟩
theorem isrB_split (side i : Int) (xs : List Nat) (ls : List Int) (walks : Int) : isrB side i xs ls walks = ((validB side xs && (stateB side i && (sizeB ls.length && inB walks 1 64))) && levB side i ls) := by
  unfold isrB
  cases validB side xs <;> cases stateB side i <;> cases sizeB ls.length <;> cases levB side i ls <;> cases inB walks 1 64 <;> rfl
theorem isRare_any (side i walks : Int) (ls : List Int) (A : Option Addr) (xs : List Nat) (c : Nat) (B : Option Addr) (d : Nat) (w : World) (hx : xs.length ≤ c) (hc : c ≤ 9223372036854775807) (h : Rd w w.heap.size A (fl xs)) (h' : Rd w w.heap.size B (il ls)) :
    Calls Try.prog 141 #[.agg #[.int .i64 side, .slice A xs.length c], .int .i64 i, .slice B ls.length d, .int .i64 walks] w (fun e w' => e = .returned (.bool (isrB side i xs ls walks)) ∧ Below w.heap.size w w') := by
  rw [isrB_split]
  cases hb : (validB side xs && (stateB side i && (sizeB ls.length && inB walks 1 64))) with
  | false => exact isRare_bad side i walks ls.length A xs c B d w hx hc h hb
  | true => exact isRare_ok side i walks ls A xs c B d w hx hc h h' hb
end Go.Proofs.Ytddaodjaeommlaa
