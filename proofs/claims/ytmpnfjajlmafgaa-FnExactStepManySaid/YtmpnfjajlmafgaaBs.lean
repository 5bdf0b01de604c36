/-
  impl.byShare's comparison, and slices.SortStableFunc by it.
-/
import Derived.Test.YtmpnfjajlmafgaaCm
import Derived.Test.YtmpnfjajlmafgaaSk
import Derived.Test.YtmpnfjajlmafgaaVal
namespace Go.Proofs.Ytmpnfjajlmafgaa
open Go Go.RowKit Go.Sort Ieee

/-- the key by which the indices of a list of shares rise: the value, then the index -/
def keyI (xs : List Nat) (i : Nat) : Nat := (key single (xs.getD i 0)).toNat * 64 + i
def cfI (xs : List Nat) (x y : Nat) : Int := cmpI (xs.getD x 0) (xs.getD y 0)
theorem getD_part {xs : List Nat} (hp : xs.all partB = true) {i : Nat} (hi : i < xs.length) : partB (xs.getD i 0) = true := by
  rw [List.getD_eq_getElem?_getD, List.getElem?_eq_getElem hi]
  exact List.all_eq_true.1 hp _ (List.getElem_mem hi)
theorem cmpI_neg {x y : Nat} (hx : partB x = true) (hy : partB y = true) : cmpI x y < 0 ↔ (key single x).toNat < (key single y).toNat := by
  have h1 := lt_key (f := single) (by decide) (part_key hx).1 (part_key hy).1
  have k1 := (part_key hx).2.1
  have k2 := (part_key hy).2.1
  unfold cmpI
  by_cases h : single.order x y = some .lt
  · rw [if_pos h]
    rw [h] at h1
    have h2 := of_decide_eq_true h1.symm
    constructor
    · intro _; omega
    · intro _; omega
  · rw [if_neg h]
    have h2 : ¬ key single x < key single y := of_decide_eq_false (by rw [← h1]; simpa using h)
    constructor
    · intro h3
      exfalso
      split at h3 <;> omega
    · intro h3; omega
theorem keyOf_parts {xs : List Nat} (hp : xs.all partB = true) (hl : xs.length ≤ 64) : KeyOf (keyI xs) (cfI xs) xs.length := fun x y hx hy => by
  have h := cmpI_neg (getD_part hp hx) (getD_part hp (show y < xs.length by omega))
  unfold keyI cfI
  constructor
  · intro h1
    have := h.1 h1
    omega
  · intro h1
    have : ¬ _ := fun h2 => h1 (h.2 h2)
    omega
set_option maxRecDepth 100000 in
set_option maxHeartbeats 1600000 in
theorem byShare1_any (A : Option Addr) (xs : List Nat) (c bx x y : Nat) (w : World) (hp : xs.all partB = true) (hx : x < xs.length) (hy : y < xs.length) (hb : w.cell? ⟨bx, 0, none⟩ = some (.slice A xs.length c)) (h : Rd w w.heap.size A (fl xs)) :
    Calls Try.prog 81 #[.int .i64 x, .int .i64 y, .pointer (some ⟨bx, 0, none⟩)] w (Quiet (.int .i64 (cfI xs x y)) w) := by
  obtain ⟨b, off, rfl, hbl, c1⟩ := h.flAt hx
  obtain ⟨b', off', e, -, c2⟩ := h.flAt hy
  cases e
  have HC := Lib.hid fun w => Compare_any (xs.getD x 0) (xs.getD y 0) (part_key (getD_part hp hx)).1 (part_key (getD_part hp hy)).1 w
  have e1 : xs[x] = xs.getD x 0 := by rw [List.getD_eq_getElem?_getD, List.getElem?_eq_getElem hx]; rfl
  have e2 : xs[y] = xs.getD y 0 := by rw [List.getD_eq_getElem?_getD, List.getElem?_eq_getElem hy]; rfl
  rw [e1] at c1
  rw [e2] at c2
  unfold cfI
  clear h hp e1 e2
  have hxi : (x : Int) < (xs.length : Int) := by omega
  have hyi : (y : Int) < (xs.length : Int) := by omega
  generalize xs.getD x 0 = u at *
  generalize xs.getD y 0 = v at *
  generalize xs.length = n at *
  go_enter Try.func81, Try.ntmps81
  go_wp2_with fail
  go_quiet (refine Calls.quiet_of (HC.out _))
  go_wp2_with fail
  go_ret
  exact ⟨rfl, _, rfl⟩
/-- the sort of the indices 0 .. n - 1 by a list of shares -/
theorem SortStable_any (A : Option Addr) (xs : List Nat) (c blk cap bx : Nat) (d : Array Nat) (w : World) (hp : xs.all partB = true) (hl : xs.length ≤ 64) (hd : d.size = xs.length) (h0 : ∀ p, p < d.size → d[p]! = p) (hH : Holds eN w blk 0 d)
    (hb : w.cell? ⟨bx, 0, none⟩ = some (.slice A xs.length c)) (hbx : bx ≠ blk) (h : Rd w blk A (fl xs)) (hlt : blk < w.heap.size) :
    Calls Try.prog 80 #[.slice (some ⟨blk, 0, none⟩) d.size cap, shF bx] w (fun e w' => e = .returned (.tuple #[]) ∧ ∃ d' : Array Nat, Blk (keyI xs) d' 0 d.size ∧ Same 0 d.size d d' ∧ RW w blk 0 d d' w') := by
  have hC : ShCmp w blk 0 bx d (cfI xs) := fun dk W x y hW hx hy => by
    obtain ⟨hh, hs, k, rfl⟩ := hW
    refine byShare1_any A xs c bx x y _ hp (by omega) (by omega) ?_ ?_
    · show (putRow eN w blk 0 dk).cell? _ = _
      rw [cell?_putRow_other _ _ _ _ _ _ (.inl hbx)]
      exact hb
    · refine Rd.more (Rd.keep (w' := (putRow eN w blk 0 dk).drewN k) h fun p hp' => ?_) ?_
      · show (putRow eN w blk 0 dk).cell? _ = _
        exact cell?_putRow_other _ _ _ _ _ _ (.inl (by omega))
      · show blk ≤ (putRow eN w blk 0 dk).heap.size
        rw [size_putRow]
        exact Nat.le_of_lt hlt
  have HS := Lib.hid (stable_any (keyI xs) (cfI xs) blk 0 cap bx d d w w hC (by rw [hd]; exact keyOf_parts hp hl) (by omega) (RW.start hH) h0)
  clear hC hp h0 hH hb h hd
  unfold shF at HS ⊢
  generalize hn : d.size = n at *
  generalize keyI xs = K at *
  go_enter Try.func80, Try.ntmps80
  go_wp2_with (go_at_call 95; refine HS.out.mono ?_; rintro e w1 ⟨rfl, hx9⟩; have H9 := Lib.hid hx9; clear hx9)
  go_end0
  exact ⟨rfl, H9.out⟩
end Go.Proofs.Ytmpnfjajlmafgaa
