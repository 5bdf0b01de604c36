/-
  Walks from the past: slices.Reverse on single numbers; impl.Chain.endOf.
-/
import Derived.Test.YtddaodjaeommlaaMt1
import Derived.Test.YtddaodjaeommlaaRun
namespace Go.Proofs.Ytddaodjaeommlaa
open Go Go.RowKit Ieee
attribute [local go_sem] run_store_float

/-- the first shares -/
def uL (k a b : Int) (t : Nat) : List Nat := (List.range t).map (uT k a b)
theorem uL_len (k a b : Int) (t : Nat) : (uL k a b t).length = t := by simp [uL]
theorem uL_succ (k a b : Int) (t : Nat) : uL k a b (t + 1) = uL k a b t ++ [uT k a b t] := by
  unfold uL
  rw [List.range_succ, List.map_append]
  rfl
theorem uL_nn (k a b : Int) (t : Nat) : ∀ u ∈ uL k a b t, isNan single u = false := fun u hu => by
  unfold uL at hu
  rw [List.mem_map] at hu
  obtain ⟨q, -, rfl⟩ := hu
  exact (nU_fin _ _ _).2
/-- where one ends with shares -/
def runP (xs : List Nat) (n i : Nat) (ys : List Nat) : Nat := ys.foldl (onC xs n) i
theorem runP_succ {xs : List Nat} {n i : Nat} {ys : List Nat} {s : Nat} (h : s < ys.length) : runP xs n i (ys.take (s + 1)) = onC xs n (runP xs n i (ys.take s)) ys[s] := by
  unfold runP
  rw [List.take_succ_eq_append_getElem h, List.foldl_append]
  rfl
theorem runP_lt {xs : List Nat} {n : Nat} (hl : xs.length = n * n) : ∀ (ys : List Nat) (i : Nat), i < n → runP xs n i ys < n := by
  intro ys
  unfold runP
  induction ys with
  | nil => exact fun i hi => hi
  | cons y ys ih => exact fun i hi => ih _ (onC_lt hl hi)
/-- all first states end where the one before ends -/
def sameB (xs : List Nat) (n : Nat) (ys : List Nat) (m : Nat) : Bool := (List.range m).all fun i => i == 0 || runP xs n i ys == runP xs n (i - 1) ys
theorem sameB_succ (xs : List Nat) (n : Nat) (ys : List Nat) (m : Nat) : sameB xs n ys (m + 1) = (sameB xs n ys m && (m == 0 || runP xs n m ys == runP xs n (m - 1) ys)) := by
  unfold sameB
  rw [List.range_succ, List.all_append]
  simp
theorem sameB_false {xs : List Nat} {n : Nat} {ys : List Nat} {m : Nat} (h : sameB xs n ys m = false) (hm : m ≤ n) : sameB xs n ys n = false := by
  unfold sameB at *
  rw [List.all_eq_false] at h ⊢
  obtain ⟨i, hi, hb⟩ := h
  exact ⟨i, List.mem_range.2 (by have := List.mem_range.1 hi; omega), hb⟩
/-- where all end, or -1 -/
def endV (xs : List Nat) (n : Nat) (ys : List Nat) : Int := if sameB xs n ys n = true then ((runP xs n (n - 1) ys : Nat) : Int) else -1
def lastE (xs : List Nat) (n : Nat) (ys : List Nat) (i : Nat) : Int := if i = 0 then -1 else ((runP xs n (i - 1) ys : Nat) : Int)

set_option maxRecDepth 100000 in
set_option maxHeartbeats 3200000 in
theorem endOf_any (n : Nat) (A : Option Addr) (xs : List Nat) (c : Nat) (B : Option Addr) (ys : List Nat) (d : Nat) (w : World) (hx : xs.length ≤ c) (hc : c ≤ 9223372036854775807) (hv : validB n xs = true) (hy : ys.length ≤ 1048576) (hnn : ∀ u ∈ ys, isNan single u = false) (h : Rd w w.heap.size A (fl xs)) (h' : Rd w w.heap.size B (fl ys)) :
    Calls Try.prog 133 #[.agg #[.int .i64 n, .slice A xs.length c], .slice B ys.length d] w (fun e w' => e = .returned (.int .i64 (endV xs n ys)) ∧ Below w.heap.size w w') := by
  obtain ⟨n', hn', n1, n2, hl, hp, hrw⟩ := validB_facts hv
  obtain rfl : n = n' := by omega
  have HGO : Hid (∀ j u W, j < n → isNan single u = false → Below w.heap.size w W → Calls Try.prog 131 #[.agg #[.int .i64 n, .slice A xs.length c], .int .i64 (j : Nat), .float .f32 u] W (fun e w' => e = .returned (.int .i64 (onC xs n j u)) ∧ Below W.heap.size W w')) := Lib.hid fun j u W hj hu hW => goOn_any n j u A xs c W hx hc hv hj hu (h.at_ hW)
  have HRL : Hid (∀ zs i, i < n → runP xs n i zs < n) := Lib.hid fun zs i hi => runP_lt hl zs i hi
  have HRS : Hid (∀ i s (hs : s < ys.length), runP xs n i (ys.take (s + 1)) = onC xs n (runP xs n i (ys.take s)) ys[s]) := Lib.hid fun i s hs => runP_succ hs
  have HNN := Lib.hid hnn
  have HB := Lib.hid h'
  have HLE : Hid (∀ i, lastE xs n ys (i + 1) = (runP xs n i ys : Nat)) := Lib.hid fun i => by unfold lastE; rw [if_neg (by omega)]; rfl
  have HEV : Hid (endV xs n ys = if sameB xs n ys n = true then ((runP xs n (n - 1) ys : Nat) : Int) else -1) := Lib.hid rfl
  clear hn' hl hp hrw hx hc hv hnn h h'
  go_enter Try.func133, Try.ntmps133
  go_wp2_with fail
  generalize hW1 : World.alloc w _ = W1
  have c0 : W1.cell? ⟨w.heap.size, 0, none⟩ = some (.int .i64 n) := by rw [← hW1]; simp [go_sem]
  have c1 : W1.cell? ⟨w.heap.size, 1, none⟩ = some (.slice A xs.length c) := by rw [← hW1]; simp [go_sem]
  have HB1 : Hid (Below w.heap.size w W1) := by rw [← hW1]; exact Lib.hid (below_al (Below.refl _ _) _)
  clear hW1
  have C0 := Lib.hid c0
  have C1 := Lib.hid c1
  clear c0 c1
  go_loopw [5, 12] (fun e i wr => ∃ j : Nat, j ≤ n ∧ i = .int .i64 j ∧ e = .int .i64 (lastE xs n ys j) ∧ sameB xs n ys j = true ∧ Below W1.heap.size W1 wr) (fun _ i _ => n - (intOf i).toNat)
  case atStart => exact ⟨0, Nat.zero_le _, rfl, rfl, rfl, Below.refl _ _⟩
  case round =>
    obtain ⟨j, hj, rfl, rfl, hsame, hbw⟩ := hrel
    rename_i wr
    have HS := Lib.hid hsame
    have HBW := Lib.hid hbw
    clear hsame hbw
    by_cases hlt : j < n
    · go_wp2_with fail
      go_loopw [7, 9, 18] (fun o _ i W => ∃ s : Nat, s ≤ ys.length ∧ i = .int .i64 s ∧ o = .int .i64 (runP xs n j (ys.take s) : Nat) ∧ Below W1.heap.size W1 W) (fun _ _ i _ => ys.length - (intOf i).toNat)
      case atStart => exact ⟨0, Nat.zero_le _, rfl, rfl, HBW.out⟩
      case round =>
        obtain ⟨s, hs, rfl, rfl, hb⟩ := hrel
        rename_i W
        have HBB := Lib.hid hb
        have d0 := keepC hb C0.out
        have d1 := keepC hb C1.out
        have hk := below_next HB1.out hb
        clear hb
        by_cases hst : s < ys.length
        · obtain ⟨bb, off, rfl, hbb, hcl⟩ := (HB.out.at_ hk).flAt hst
          have hu := HNN.out _ (List.getElem_mem hst)
          have hrs := HRS.out j s hst
          have hpl := HRL.out (ys.take s) j hlt
          generalize ys[s] = u at *
          have HRS1 := Lib.hid hrs
          have HU := Lib.hid hu
          have HK := Lib.hid hk
          clear hrs hu hk
          go_wp2_with (go_at_call 131; refine (HGO.out _ _ _ hpl HU.out HK.out).mono ?_; rintro e w8 ⟨rfl, hb8⟩; have HB8 := Lib.hid (below_next HBB.out hb8); clear hb8)
          go_roundw
          case rel => exact ⟨s + 1, by omega, by go_num, by rw [HRS1.out], HB8.out⟩
          case measure => simp [intOf]; omega
        · obtain rfl : s = ys.length := by omega
          rw [List.take_length]
          have hss := sameB_succ xs n ys j
          rw [HS.out, Bool.true_and] at hss
          have hle := HLE.out j
          by_cases hj0 : j = 0
          · subst hj0
            rw [show ((0 : Nat) == 0) = true from rfl, Bool.true_or] at hss
            have HSS := Lib.hid hss
            have HLEj := Lib.hid hle
            clear hss hle hk
            go_wp2_with fail
            go_roundw
            case rel => exact ⟨1, by omega, rfl, by rw [HLEj.out], HSS.out, HBB.out⟩
            case measure => simp [intOf]; omega
          · have hl0 : lastE xs n ys j = (runP xs n (j - 1) ys : Nat) := by unfold lastE; rw [if_neg hj0]
            have hjj : (j == 0) = false := by simp [hj0]
            rw [hjj, Bool.false_or] at hss
            rw [hl0]
            generalize runP xs n (j - 1) ys = p0 at *
            generalize hp1 : runP xs n j ys = p1 at *
            have HP1 := Lib.hid hp1
            clear hp1 hl0 hjj
            by_cases hpp : p1 = p0
            · have hne : ((p1 : Int) != (p0 : Int)) = false := by rw [hpp]; simp
              have HSS : Hid (sameB xs n ys (j + 1) = true) := Lib.hid (by rw [hss, hpp]; simp)
              have HLEj := Lib.hid hle
              clear hss hle hk hpp
              go_wp2_with fail
              go_roundw
              case rel => exact ⟨j + 1, by omega, by go_num, by rw [HLEj.out], HSS.out, HBB.out⟩
              case measure => simp [intOf]; omega
            · have hne : ((p1 : Int) != (p0 : Int)) = true := by simp; omega
              have HSS : Hid (sameB xs n ys n = false) := Lib.hid (sameB_false (m := j + 1) (by rw [hss]; simpa using hpp) (by omega))
              have HK := Lib.hid hk
              clear hss hle hk hpp
              go_wp2_with fail
              go_ret
              rw [HEV.out, HSS.out, if_neg (by decide)]
              exact ⟨rfl, HK.out⟩
    · obtain rfl : j = n := by omega
      have hlE : lastE xs j ys j = (runP xs j (j - 1) ys : Nat) := by unfold lastE; rw [if_neg (by omega)]
      rw [hlE]
      go_wp2_with fail
      go_ret
      rw [HEV.out, HS.out, if_pos rfl]
      exact ⟨rfl, below_next HB1.out HBW.out⟩
end Go.Proofs.Ytddaodjaeommlaa
