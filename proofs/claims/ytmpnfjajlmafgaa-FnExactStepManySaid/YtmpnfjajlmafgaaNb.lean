/-
  impl.byShare: the indices of a list of shares, in ascending order of the shares.
-/
import Derived.Test.YtmpnfjajlmafgaaNh
namespace Go.Proofs.Ytmpnfjajlmafgaa
open Go Go.RowKit Go.Sort

theorem RW.below {w W : World} {blk off B : Nat} {d dk : Array Nat} (h : RW w blk off d dk W) (hB : B ≤ blk) : Below B w W := by
  obtain ⟨hh, hz, k, rfl⟩ := h
  have h1 : Below B w (putRow eN w blk off dk) := ⟨rfl, rfl, rfl, by rw [size_putRow]; exact Nat.le_refl _, fun j hj => by
    show (putRow eN w blk off dk).heap[j]? = _
    unfold putRow mapBlock
    dsimp only
    rw [Array.getElem?_modify, if_neg (by omega)]⟩
  exact below_drewN h1 k
set_option maxRecDepth 100000 in
set_option maxHeartbeats 1600000 in
theorem byShare_any (A : Option Addr) (xs : List Nat) (c : Nat) (w : World) (hp : xs.all partB = true) (hl : 1 ≤ xs.length ∧ xs.length ≤ 64) (h : Rd w w.heap.size A (fl xs)) :
    Calls Try.prog 59 #[.slice A xs.length c] w (fun e w' => ∃ (g c' : Nat) (d' : Array Nat), e = .returned (.slice (some ⟨g, 0, none⟩) xs.length c') ∧ w.heap.size ≤ g ∧ g < w'.heap.size ∧ Blk (keyI xs) d' 0 xs.length ∧ Same 0 xs.length (Array.range xs.length) d' ∧ (∀ p, p < xs.length → w'.cell? ⟨g, p, none⟩ = some (.int .i64 (d'[p]! : Nat))) ∧ Below w.heap.size w w') := by
  have HN := Lib.hid fun W => numbersFrom_any xs.length hl W
  have HS : Hid (∀ (g c' : Nat) (W : World), w.heap.size + 1 ≤ g → g < W.heap.size → Below w.heap.size w W → W.cell? ⟨w.heap.size, 0, none⟩ = some (.slice A xs.length c) → Holds eN W g 0 (Array.range xs.length) → Calls Try.prog 80 #[.slice (some ⟨g, 0, none⟩) xs.length c', .func (.func 81) #[] #[.pointer (some ⟨w.heap.size, 0, none⟩)]] W (fun e w' => e = .returned (.tuple #[]) ∧ ∃ d' : Array Nat, Blk (keyI xs) d' 0 xs.length ∧ Same 0 xs.length (Array.range xs.length) d' ∧ RW W g 0 (Array.range xs.length) d' w')) := Lib.hid fun g c' W h1 h2 h3 h4 h5 => by
    have hz : (Array.range xs.length).size = xs.length := by simp
    have := SortStable_any A xs c g c' w.heap.size (Array.range xs.length) W hp hl.2 hz (fun p hp' => range_at (by omega)) h5 h4 (by omega) ((h.below h3).more (by omega)) h2
    rw [hz] at this
    exact this
  have hw : IntKind.i64.wrap ((xs.length : Int) - 1) = (xs.length : Int) - 1 := IntWalk.i64_in _ (by omega)
  have y0 : (w.alloc (.cells #[.slice A xs.length c] 35)).cell? ⟨w.heap.size, 0, none⟩ = some (.slice A xs.length c) := by
    rw [World.cell?_alloc_new]
    rfl
  have HB := Lib.hid (below_al (Below.refl w.heap.size w) (.cells #[.slice A xs.length c] 35))
  have hsz : Hid ((w.alloc (.cells #[.slice A xs.length c] 35)).heap.size = w.heap.size + 1) := Lib.hid (by simp)
  have hmf : ∀ (fn : Fn) (first cap : Array Value) (w : World), (Instr.makeFunc fn first cap).run Try.prog w = .ok (.func fn first cap) w := fun _ _ _ _ => rfl
  have HL := Lib.hid hl
  clear h hp hl
  generalize keyI xs = K at *
  generalize xs.length = n at *
  go_enter Try.func59, Try.ntmps59
  go_upto_region 1 with fail
  generalize World.alloc w _ = W1 at *
  have Y0 := Lib.hid y0
  go_wp2_with (first
    | (go_at_call 79; refine (HN.out _).mono ?_; rintro e w1 ⟨A2, c2, rfl, ho2, hb2⟩; obtain ⟨g, rfl, hg1, hg2, hg3⟩ := own_holds ho2 HL.out.1; have G1 := Lib.hid hg1; have G2 := Lib.hid hg2; have G3 := Lib.hid hg3; have B2 := Lib.hid hb2; clear ho2 hb2 hg1 hg2 hg3)
    | (go_at_call 80; refine (HS.out g c2 _ (by have h1 := G1.out; have h2 := hsz.out; omega) G2.out (HB.out.trans (B2.out.mono (by have h2 := hsz.out; omega))) (keepC B2.out Y0.out) G3.out).mono ?_; rintro e w2 ⟨rfl, d', hd1, hd2, hd3⟩; have D1 := Lib.hid hd1; have D2 := Lib.hid hd2; have D3 := Lib.hid hd3; clear hd1 hd2 hd3))
  go_ret
  have h1 := G1.out
  have h2 := hsz.out
  have hb3 := (HB.out.trans (B2.out.mono (by omega)))
  refine ⟨g, c2, d', rfl, by omega, ?_, D1.out, D2.out, fun p hp => ?_, hb3.trans (D3.out.below (by omega))⟩
  · have := (D3.out.below (B := 0) (Nat.zero_le _)).size
    have := G2.out
    omega
  · have := D3.out.cell (p := p) (by simpa using hp)
    rw [Nat.zero_add] at this
    exact this
end Go.Proofs.Ytmpnfjajlmafgaa
