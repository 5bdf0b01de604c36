/-
  Going on from a state with a share: impl.Chain.goOn and spec.l07On; which states there are.
-/
import Derived.Test.YtddaodjaeommlaaSe2
import Derived.Test.YtddaodjaeommlaaVa3
namespace Go.Proofs.Ytddaodjaeommlaa
open Go Go.RowKit Ieee

def stateB (n i : Int) : Bool := inB i 0 (n - 1)
set_option maxHeartbeats 400000 in
theorem isState_any (n i : Int) (A : Option Addr) (m c : Nat) (w : World) (hn : 1 ≤ n ∧ n ≤ 12) : Calls Try.prog 129 #[.agg #[.int .i64 n, .slice A m c], .int .i64 i] w (fun e w' => e = .returned (.bool (stateB n i)) ∧ Below w.heap.size w w') := by
  have HW := Lib.hid fun w => within_any i 0 (n - 1) w
  have HR : Hid (stateB n i = inB i 0 (n - 1)) := Lib.hid rfl
  obtain ⟨n0, n1⟩ := hn
  go_enter Try.func129, Try.ntmps129
  go_wp2_with (go_at_call 96; refine (HW.out _).mono ?_; rintro e w1 ⟨rfl, m, rfl⟩)
  go_ret
  rw [HR.out]
  exact ⟨rfl, below_drewN (below_al (Below.refl _ _) _) _⟩
set_option maxHeartbeats 400000 in
theorem l07State_any (b : Nat) (side i : Int) (A : Option Addr) (xs : List Nat) (c : Nat) (w : World) (hx : xs.length ≤ 9223372036854775807) (h0 : w.cell? ⟨b, 0, none⟩ = some (.int .i64 side)) (h1 : w.cell? ⟨b, 1, none⟩ = some (.slice A xs.length c)) (h : Rd w w.heap.size A (fl xs)) :
    Calls Try.prog 125 #[.pointer (some ⟨b, 0, none⟩), .int .i64 i] w (Quiet (.bool (validB side xs && stateB side i)) w) := by
  have HI := Lib.hid (l07Is_any b side A xs c w hx h0 h1 h)
  have HW := Lib.hid fun w => l00In_any i 0 (side - 1) w
  have HR : Hid (stateB side i = inB i 0 (side - 1)) := Lib.hid rfl
  cases hv : validB side xs with
  | false =>
    rw [hv] at HI
    clear hv h
    go_enter Try.func125, Try.ntmps125
    go_wp2_with (go_at_call 95; refine HI.out.mono ?_; rintro e w1 ⟨rfl, m, rfl⟩)
    go_ret
    exact .mk _
  | true =>
    obtain ⟨n, hn, hn1, hn2, -⟩ := validB_facts hv
    have hs : 1 ≤ side ∧ side ≤ 12 := by omega
    obtain ⟨s1, s2⟩ := hs
    rw [hv] at HI
    clear hv h hn
    go_enter Try.func125, Try.ntmps125
    go_wp2_with (first
      | (go_at_call 95; refine HI.out.mono ?_; rintro e w1 ⟨rfl, m, rfl⟩)
      | (go_at_call 101; refine (HW.out _).mono ?_; rintro e w1 ⟨rfl, m2, rfl⟩))
    go_ret
    rw [HR.out]
    exact ⟨retB (by simp), _, rfl⟩

theorem hit_eq {row : List Nat} {u k : Nat} (hp : row.all partB = true) (hu : isNan single u = false) : (FloatKind.f32.format.order (fsum (row.take (k + 1))) u == some .gt) = hitB row u k := by
  have h1 : isNan single (fsum (row.take (k + 1))) = false := fsum_notNan _ fun x hx => (part_key (List.all_eq_true.1 hp x (List.mem_of_mem_take hx))).2.2.2
  exact gt_key (f := single) (by decide) h1 hu
theorem pos_eq {x : Nat} (hx : partB x = true) : (FloatKind.f32.format.order x 0 == some .gt) = decide (0 < key single x) := by
  have := gt_key (f := single) (by decide) (part_key hx).1 zero_notNan
  rw [key_zero] at this
  exact this

set_option maxRecDepth 100000 in
set_option maxHeartbeats 1600000 in
theorem goOn_any (n i u : Nat) (A : Option Addr) (xs : List Nat) (c : Nat) (w : World) (hx : xs.length ≤ c) (hc : c ≤ 9223372036854775807) (hv : validB n xs = true) (hi : i < n) (hu : isNan single u = false) (h : Rd w w.heap.size A (fl xs)) :
    Calls Try.prog 131 #[.agg #[.int .i64 n, .slice A xs.length c], .int .i64 i, .float .f32 u] w (fun e w' => e = .returned (.int .i64 (onC xs n i u)) ∧ Below w.heap.size w w') := by
  obtain ⟨n', hn', hn1, hn2, hl, hp, hrw⟩ := validB_facts hv
  obtain rfl : n = n' := by omega
  have HR := Lib.hid fun W hb => rowOf_any n i A xs c W hn1 hn2 hi hl hx hc (h.at_ hb)
  have hrp := rowAt_part (n := n) (i := i) hp
  have hrl := rowAt_len hl hi
  have HON : Hid (onC xs n i u = goF (rowAt xs n i) u 0) := Lib.hid rfl
  generalize rowAt xs n i = row at *
  have HH : Hid (∀ k, (FloatKind.f32.format.order (fsum (row.take (k + 1))) u == some .gt) = hitB row u k) := Lib.hid fun k => hit_eq hrp hu
  have HP := Lib.hid hrp
  have HL := Lib.hid hrl
  clear hv hn' hl hp hrw hu h hrp hrl hx hc
  go_enter Try.func131, Try.ntmps131
  go_wp2_with (go_at_call 100; refine (HR.out _ (below_al (Below.refl _ _) _)).mono ?_; rintro e w1 ⟨A', c', rfl, hr, hb⟩; have hb1 := below_next (below_al (Below.refl _ _) _) hb; have HB := Lib.hid hb1; clear hb hb1)
  go_loop [7, 8, 9, 10, 15] (fun s l _ _ k => ∃ j : Nat, j ≤ n ∧ k = .int .i64 j ∧ s = .float .f32 (fsum (row.take j)) ∧ l = .int .i64 (lastTo row 0 j : Nat) ∧ ∀ q, q < j → hitB row u q = false) (fun _ _ _ _ k => n - (intOf k).toNat)
  case atStart => exact ⟨0, Nat.zero_le _, rfl, rfl, rfl, fun q hq => by omega⟩
  case round =>
    obtain ⟨j, hj, rfl, rfl, rfl, hno⟩ := hrel
    have HNO := Lib.hid hno
    clear hno
    by_cases hlt : j < n
    · have hlr : j < row.length := by rw [HL.out]; exact hlt
      obtain ⟨b, off, rfl, hbb, hcl⟩ := hr.flAt hlr
      have hpx := List.all_eq_true.1 HP.out _ (List.getElem_mem hlr)
      have hrun0 := (fadd_run (fsum_notNan (row.take j) (fun x hx => (part_key (List.all_eq_true.1 HP.out x (List.mem_of_mem_take hx))).2.2.2)) (part_key hpx).2.2.2).1
      have hsn : fadd (fsum (row.take j)) row[j] = fsum (row.take (j + 1)) := (fsum_take_succ row j hlr).symm
      rw [hsn] at hrun0
      have hrun := fun w => run_float_arith (P := Try.prog) w .add 33 .f32 _ _ _ hrun0
      have hgd : row.getD j 0 = row[j] := by rw [List.getD_eq_getElem?_getD, List.getElem?_eq_getElem hlr]; rfl
      have hla : lastTo row 0 (j + 1) = if 0 < key single row[j] then j else lastTo row 0 j := by
        show (if 0 < key single (row.getD j 0) then j else lastTo row 0 j) = _
        rw [hgd]
      have hpe := pos_eq hpx
      have hhe := HH.out j
      clear hgd hrun0 hsn hpx hr
      generalize row[j] = x at *
      generalize hs' : fsum (row.take (j + 1)) = s' at *
      have HS' := Lib.hid hs'
      clear hs'
      cases hh : hitB row u j with
      | true =>
        have HF : Hid (goF row u 0 = j) := Lib.hid (goF_hit hlr HNO.out hh)
        rw [hh] at hhe
        clear hh hla hpe hlr
        go_wp2
        go_ret
        rw [HON.out, HF.out]
        exact ⟨rfl, HB.out⟩
      | false =>
        rw [hh] at hhe
        have HN2 : Hid (∀ q, q < j + 1 → hitB row u q = false) := Lib.hid fun q hq => by
          rcases Nat.lt_or_ge q j with hl | hg
          · exact HNO.out q hl
          · have : q = j := by omega
            rw [this, hh]
        clear hh hlr
        by_cases hpos : 0 < key single x
        · rw [if_pos hpos] at hla
          rw [decide_eq_true hpos] at hpe
          have HLA := Lib.hid hla
          clear hpos hla
          go_wp2
          go_round
          case rel => exact ⟨j + 1, by omega, by go_num, by rw [HS'.out], by rw [HLA.out], HN2.out⟩
          case measure => simp [intOf]; omega
        · rw [if_neg hpos] at hla
          rw [decide_eq_false hpos] at hpe
          have HLA := Lib.hid hla
          clear hpos hla
          go_wp2
          go_round
          case rel => exact ⟨j + 1, by omega, by go_num, by rw [HS'.out], by rw [HLA.out], HN2.out⟩
          case measure => simp [intOf]; omega
    · obtain rfl : j = n := by omega
      have HF : Hid (goF row u 0 = lastTo row 0 j) := Lib.hid (by
        have := goF_none (row := row) (u := u) (start := 0) (fun q hq => HNO.out q (by rw [HL.out] at hq; exact hq))
        rw [HL.out] at this
        exact this)
      go_wp2
      go_ret
      rw [HON.out, HF.out]
      exact ⟨rfl, HB.out⟩
set_option maxRecDepth 100000 in
set_option maxHeartbeats 1600000 in
theorem l07On_any (b n i u : Nat) (A : Option Addr) (xs : List Nat) (c : Nat) (w : World) (hv : validB n xs = true) (hi : i < n) (hu : isNan single u = false) (h0 : w.cell? ⟨b, 0, none⟩ = some (.int .i64 n)) (h1 : w.cell? ⟨b, 1, none⟩ = some (.slice A xs.length c)) (h : Rd w w.heap.size A (fl xs)) :
    Calls Try.prog 127 #[.pointer (some ⟨b, 0, none⟩), .int .i64 i, .float .f32 u] w (Quiet (.int .i64 (onC xs n i u)) w) := by
  obtain ⟨n', hn', hn1, hn2, hl, hp, hrw⟩ := validB_facts hv
  obtain rfl : n = n' := by omega
  have hrp := rowAt_part (n := n) (i := i) hp
  have hrl := rowAt_len hl hi
  have HON : Hid (onC xs n i u = goF (rowAt xs n i) u i) := Lib.hid (goF_same hp hl hrw hi)
  have hix : ∀ k, k < n → i * n + k < xs.length := fun k hk => by rw [hl]; exact idx_lt hi hk
  have hget : ∀ k (hk : k < n) (hr : k < (rowAt xs n i).length), (rowAt xs n i)[k] = xs[i * n + k]'(hix k hk) := fun k hk hr => rowAt_get hl hi hk hr
  have hnn : n * n ≤ 144 := Nat.mul_le_mul hn2 hn2
  have hin : i * n + n ≤ n * n := by
    have := idx_lt (n := n) (i := i) (k := n - 1) hi (by omega)
    omega
  have wq : IntKind.i64.wrap ((i : Int) * (n : Int)) = ((i * n : Nat) : Int) := by rw [show (i : Int) * (n : Int) = ((i * n : Nat) : Int) by push_cast; rfl]; exact IntWalk.i64_in _ (by omega)
  generalize rowAt xs n i = row at *
  have HG : Hid (∀ k, k < n → ∃ hr : k < row.length, ∃ bb off, A = some ⟨bb, off, none⟩ ∧ w.cell? ⟨bb, off + (i * n + k), none⟩ = some (.float .f32 row[k])) := Lib.hid fun k hk => by
    have hr : k < row.length := by omega
    obtain ⟨bb, off, hA, -, hcl⟩ := h.flAt (hix k hk)
    exact ⟨hr, bb, off, hA, by rw [hcl, hget k hk hr]⟩
  have HH : Hid (∀ k, (FloatKind.f32.format.order (fsum (row.take (k + 1))) u == some .gt) = hitB row u k) := Lib.hid fun k => hit_eq hrp hu
  have HP := Lib.hid hrp
  have HL := Lib.hid hrl
  have hlx : n * n = xs.length := hl.symm
  have hxl : i * n + n ≤ xs.length := by omega
  have hxl2 : xs.length ≤ 144 := by omega
  clear hv hn' hl hp hrw hu h hrp hrl hget hix hlx hnn hin
  generalize i * n = q at *
  generalize xs.length = m at *
  go_enter Try.func127, Try.ntmps127
  go_wp2
  go_loopw [7, 8, 9, 10] (fun s l k _ wr => ∃ j t : Nat, j ≤ n ∧ k = .int .i64 j ∧ s = .float .f32 (fsum (row.take j)) ∧ l = .int .i64 (lastTo row i j : Nat) ∧ (∀ q, q < j → hitB row u q = false) ∧ wr = w.drewN t) (fun _ _ k _ _ => n - (intOf k).toNat)
  case atStart => exact ⟨0, 0, Nat.zero_le _, rfl, rfl, rfl, (fun q hq => by omega), rfl⟩
  case round =>
    obtain ⟨j, t, hj, rfl, rfl, rfl, hno, rfl⟩ := hrel
    have HNO := Lib.hid hno
    clear hno
    by_cases hlt : j < n
    · obtain ⟨hlr, bb, off, rfl, hcl⟩ := HG.out j hlt
      have hpx := List.all_eq_true.1 HP.out _ (List.getElem_mem hlr)
      have hrun0 := (fadd_run (fsum_notNan (row.take j) (fun x hx => (part_key (List.all_eq_true.1 HP.out x (List.mem_of_mem_take hx))).2.2.2)) (part_key hpx).2.2.2).1
      have hsn : fadd (fsum (row.take j)) row[j] = fsum (row.take (j + 1)) := (fsum_take_succ row j hlr).symm
      rw [hsn] at hrun0
      have hrun := fun w => run_float_arith (P := Try.prog) w .add 33 .f32 _ _ _ hrun0
      have hgd : row.getD j 0 = row[j] := by rw [List.getD_eq_getElem?_getD, List.getElem?_eq_getElem hlr]; rfl
      have hla : lastTo row i (j + 1) = if 0 < key single row[j] then j else lastTo row i j := by
        show (if 0 < key single (row.getD j 0) then j else lastTo row i j) = _
        rw [hgd]
      have hpe := pos_eq hpx
      have hhe := HH.out j
      clear hgd hrun0 hsn hpx
      generalize row[j] = x at *
      generalize hs' : fsum (row.take (j + 1)) = s' at *
      have HS' := Lib.hid hs'
      clear hs'
      cases hh : hitB row u j with
      | true =>
        have HF : Hid (goF row u i = j) := Lib.hid (goF_hit hlr HNO.out hh)
        rw [hh] at hhe
        clear hh hla hpe hlr
        go_wp2
        go_quiet (fail)
        go_wp2
        go_ret
        rw [HON.out, HF.out]
        exact ⟨rfl, _, rfl⟩
      | false =>
        rw [hh] at hhe
        have HN2 : Hid (∀ q, q < j + 1 → hitB row u q = false) := Lib.hid fun q hq => by
          rcases Nat.lt_or_ge q j with hl | hg
          · exact HNO.out q hl
          · have : q = j := by omega
            rw [this, hh]
        clear hh hlr
        by_cases hpos : 0 < key single x
        · rw [if_pos hpos] at hla
          rw [decide_eq_true hpos] at hpe
          have HLA := Lib.hid hla
          clear hpos hla
          go_wp2
          go_quiet (fail)
          go_wp2
          go_roundw
          case rel => exact ⟨j + 1, _, by omega, by go_num, by rw [HS'.out], by rw [HLA.out], HN2.out, rfl⟩
          case measure => simp [intOf]; omega
        · rw [if_neg hpos] at hla
          rw [decide_eq_false hpos] at hpe
          have HLA := Lib.hid hla
          clear hpos hla
          go_wp2
          go_quiet (fail)
          go_wp2
          go_roundw
          case rel => exact ⟨j + 1, _, by omega, by go_num, by rw [HS'.out], by rw [HLA.out], HN2.out, rfl⟩
          case measure => simp [intOf]; omega
    · obtain rfl : j = n := by omega
      have HF : Hid (goF row u i = lastTo row i j) := Lib.hid (by
        have := goF_none (row := row) (u := u) (start := i) (fun q hq => HNO.out q (by rw [HL.out] at hq; exact hq))
        rw [HL.out] at this
        exact this)
      go_wp2
      go_ret
      rw [HON.out, HF.out]
      exact .mk _
end Go.Proofs.Ytddaodjaeommlaa
