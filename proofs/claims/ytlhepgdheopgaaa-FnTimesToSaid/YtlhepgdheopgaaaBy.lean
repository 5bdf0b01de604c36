/-
  Chains that a function tells: impl.chainBy at each of its closures.
-/
import Derived.Test.YtlhepgdheopgaaaVa3
import Derived.Test.YtlhepgdheopgaaaCh
import Derived.Deep.AppendLies
import Derived.Deep.RegionLaw
import Derived.Deep.RegionHeld3
namespace Go.Proofs.Ytlhepgdheopgaaa
open Go Go.RowKit Ieee

theorem frozen_far {w w' : World} {row : Option Nat} (h : w.grownBy w' row) {p : Addr} (hp : p.block < w.heap.size) (hne : some p.block ≠ row) {b : Bool} (hf : w.frozen? p = b) : w'.frozen? p = b :=
  (World.frozen?_of_block (w := w) (h.block p.block hp hne)).trans hf
theorem frozen_alloc {w : World} {o : Obj} {p : Addr} (hp : p.block < w.heap.size) : (w.alloc o).frozen? p = w.frozen? p :=
  World.frozen?_of_block (w := w) (Below.heap_alloc w o p.block hp)
/-- the rows that a function tells, one behind the other -/
def tabTo (n : Nat) (f : Nat → Nat → Nat) (m : Nat) : List Nat := (List.range m).map fun p => f (p / n) (p % n)
def tab (n : Nat) (f : Nat → Nat → Nat) : List Nat := tabTo n f (n * n)
theorem tabTo_len (n m : Nat) (f : Nat → Nat → Nat) : (tabTo n f m).length = m := by simp [tabTo]
theorem tab_len (n : Nat) (f : Nat → Nat → Nat) : (tab n f).length = n * n := tabTo_len n (n * n) f
theorem tab_succ (n : Nat) (f : Nat → Nat → Nat) {i k : Nat} (hk : k < n) : tabTo n f (i * n + k + 1) = tabTo n f (i * n + k) ++ [f i k] := by
  unfold tabTo
  rw [List.range_succ, List.map_append]
  have h1 : (i * n + k) / n = i := by rw [Nat.mul_comm, Nat.mul_add_div (by omega), Nat.div_eq_of_lt hk, Nat.add_zero]
  have h2 : (i * n + k) % n = k := by rw [Nat.mul_comm, Nat.mul_add_mod, Nat.mod_eq_of_lt hk]
  simp only [List.map_cons, List.map_nil, h1, h2]

/-- what a function gives that returns a chain and whether there is one: the chain if it is valid, of memory of its own -/
def ChainRes (w : World) (n : Nat) (xs : List Nat) (e : Ending) (w' : World) : Prop :=
  Below w.heap.size w w' ∧
  ((validB n xs = false ∧ e = .returned (.tuple #[.agg #[.int .i64 0, .slice none 0 0], .bool false])) ∨
   (validB n xs = true ∧ ∃ A c, e = .returned (.tuple #[.agg #[.int .i64 n, .slice A xs.length c], .bool true]) ∧ w'.ownsRow w.heap.size 31 1 (.slice A xs.length c) xs.length (fl xs)))

/-- the rounds of chainBy: W1 the world ahead of them, G the heap's size when the call began -/
def CB (W1 : World) (G n : Nat) (f : Nat → Nat → Nat) (m : Nat) (wr : World) : Prop :=
  ∃ A c, Below (G + 1) W1 wr ∧ G + 2 ≤ wr.heap.size ∧ wr.cell? ⟨G + 1, 0, none⟩ = some (.int .i64 n) ∧ wr.cell? ⟨G + 1, 1, none⟩ = some (.slice A m c) ∧ (∀ o, wr.frozen? ⟨G + 1, o, none⟩ = false) ∧
    wr.ownsRow (G + 2) 31 1 (.slice A m c) m (fl (tabTo n f m))

theorem own_cap {w : World} {base : Nat} {e : TypeId} {size n c : Nat} {A : Option Addr} {vs : List Value} (h : w.ownsRow base e size (.slice A n c) n vs) : n ≤ c ∧ c ≤ 9223372036854775807 := by
  rcases h.2 with ⟨hv, hn⟩ | ⟨g, cap, cur, hv, _, _, h1, h2, _⟩
  · cases hv; exact ⟨by omega, by omega⟩
  · cases hv; exact ⟨h1, by unfold maxLen at h2; omega⟩

theorem CB_step {W1 wr w2 w3 : World} {G n m c x g cap : Nat} {A : Option Addr} {f : Nat → Nat → Nat} {o : Obj}
    (hbw : Below (G + 1) W1 wr) (hsz : G + 2 ≤ wr.heap.size) (c0 : wr.cell? ⟨G + 1, 0, none⟩ = some (.int .i64 n)) (c1 : wr.cell? ⟨G + 1, 1, none⟩ = some (.slice A m c))
    (hfr : ∀ o, wr.frozen? ⟨G + 1, o, none⟩ = false) (hown : wr.ownsRow (G + 2) 31 1 (.slice A m c) m (fl (tabTo n f m))) (hk2 : Below wr.heap.size wr w2)
    (hgrow : (w2.alloc o).grownBy w3 (Value.slice A m c).ownBlock)
    (hown3 : w3.ownsRow (G + 2) 31 1 (.slice (some ⟨g, 0, none⟩) (m + 1) cap) (m + 1) (fl (tabTo n f m) ++ [.float .f32 x])) (hx : tabTo n f (m + 1) = tabTo n f m ++ [x]) :
    w3.cell? ⟨G + 1, 1, none⟩ = some (.slice A m c) ∧ (∀ o, w3.frozen? ⟨G + 1, o, none⟩ = false) ∧ CB W1 G n f (m + 1) (w3.setCell ⟨G + 1, 1, none⟩ (.slice (some ⟨g, 0, none⟩) (m + 1) cap)) := by
  have hs2 := hk2.size
  have hne : some (G + 1) ≠ (Value.slice A m c).ownBlock := fun h => by
    have := (hown.lt _ h.symm).1
    omega
  have hk3 : Below wr.heap.size wr (w2.alloc o) := hk2.alloc hs2 o
  have hb3 : Below (G + 2) wr w3 := Below.grown (hk3.mono hsz) hgrow (by simp; omega) (fun j hj => (hown.lt _ hj).1)
  have hc : ∀ i, w3.cell? ⟨G + 1, i, none⟩ = wr.cell? ⟨G + 1, i, none⟩ := fun i => hb3.cell (show G + 1 < G + 2 by omega)
  have hf : ∀ i, w3.frozen? ⟨G + 1, i, none⟩ = false := fun i => (hb3.frozen (show G + 1 < G + 2 by omega)).trans (hfr i)
  have h1 := (hc 1).trans c1
  refine ⟨h1, hf, some ⟨g, 0, none⟩, cap, (hbw.trans (hb3.mono (by omega))).setCell (Nat.le_refl _) _, ?_, ?_, ?_, ?_, ?_⟩
  · have := hb3.size
    simp [World.setCell]
    omega
  · exact ((World.cell?_setCell_other _ _ _ _ (by simp)).trans (hc 0)).trans c0
  · exact World.cell?_setCell_same _ _ _ h1
  · intro o; rw [World.frozen?_setCell]; exact hf o
  · rw [hx]
    have := ownsRow_setCell_below hown3 (a := ⟨G + 1, 1, none⟩) (show G + 1 < G + 2 by omega) (.slice (some ⟨g, 0, none⟩) (m + 1) cap)
    simpa [fl] using this

set_option maxRecDepth 100000 in
set_option maxHeartbeats 3200000 in
theorem chainByRing (n : Nat) (p0 p1 p2 p3 : Value) (f : Nat → Nat → Nat) (w : World) (hn : 1 ≤ n) (hn2 : n ≤ 12)
    (hg : ∀ W, Below w.heap.size w W → ∀ i k : Nat, i < n → k < n → Calls Try.prog 62 #[.int .i64 i, .int .i64 k, p0, p1, p2, p3] W (fun e W' => e = .returned (.float .f32 (f i k)) ∧ Below W.heap.size W W')) :
    Calls Try.prog 37 #[.int .i64 n, .func (.func 62) #[] #[p0, p1, p2, p3]] w (ChainRes w n (tab n f)) := by
  obtain ⟨i0, hi0, hz0, hz1, hz2⟩ := info_parts info_f32
  have HG := Lib.hid hg
  clear hg
  have HV := Lib.hid fun A xs c w (hx : xs.length ≤ c) (hc : c ≤ 9223372036854775807) h => ValidChain_any n A xs c w hx hc h
  have hnn : n * n ≤ 144 := Nat.mul_le_mul hn2 hn2
  go_enter Try.func37, Try.ntmps37
  go_wp2_with fail
  generalize hW1 : ((w.alloc (.cells #[.int .i64 0, .slice none 0 0] 26)).alloc (.cells #[.int .i64 n, .slice none 0 0] 26)) = W1
  have s1 : W1.heap.size = w.heap.size + 2 := by rw [← hW1]; simp
  have k0 : W1.cell? ⟨w.heap.size, 0, none⟩ = some (.int .i64 0) := by rw [← hW1]; simp [go_sem]
  have k1 : W1.cell? ⟨w.heap.size, 1, none⟩ = some (.slice none 0 0) := by rw [← hW1]; simp [go_sem]
  have k2 : W1.cell? ⟨w.heap.size + 1, 0, none⟩ = some (.int .i64 n) := by rw [← hW1]; simp [go_sem]
  have k3 : W1.cell? ⟨w.heap.size + 1, 1, none⟩ = some (.slice none 0 0) := by rw [← hW1]; simp [go_sem]
  have f0 : ∀ o, W1.frozen? ⟨w.heap.size, o, none⟩ = false := fun o => by rw [← hW1]; simp [go_sem]
  have f1 : ∀ o, W1.frozen? ⟨w.heap.size + 1, o, none⟩ = false := fun o => by rw [← hW1]; simp [go_sem]
  have B1 : Below w.heap.size w W1 := by rw [← hW1]; exact ((Below.refl _ _).alloc (Nat.le_refl _) _).alloc (by simp) _
  have S1 := Lib.hid s1
  have K0 := Lib.hid k0
  have K1 := Lib.hid k1
  have F0 := Lib.hid f0
  have HB1 := Lib.hid B1
  have START : Hid (CB W1 w.heap.size n f 0 W1) := ⟨none, 0, Below.refl _ _, by rw [s1]; exact Nat.le_refl _, k2, k3, f1, World.ownsRow_nil _ _ _ _⟩
  clear hW1 s1 k0 k1 k2 k3 f0 f1 B1
  go_loopw [7, 12] (fun _ i wr => ∃ k : Nat, k ≤ n ∧ i = .int .i64 k ∧ CB W1 w.heap.size n f (k * n) wr) (fun _ i _ => n - (intOf i).toNat)
  case atStart => exact ⟨0, Nat.zero_le _, rfl, by rw [Nat.zero_mul]; exact START.out⟩
  case round =>
    obtain ⟨k, hk, rfl, hcb⟩ := hrel
    have HCB := Lib.hid hcb
    clear hcb
    by_cases hlt : k < n
    · go_wp2_with fail
      go_loopw [8, 16] (fun _ i wr => ∃ j : Nat, j ≤ n ∧ i = .int .i64 j ∧ CB W1 w.heap.size n f (k * n + j) wr) (fun _ i _ => n - (intOf i).toNat)
      case atStart => exact ⟨0, Nat.zero_le _, rfl, HCB.out⟩
      case round =>
        obtain ⟨j, hj, rfl, hcj⟩ := hrel
        by_cases hjt : j < n
        · rename_i wr
          obtain ⟨A, c, hbw, hsz, c0, c1, hfr, hown⟩ := hcj
          have hp : k * n + j < n * n := idx_lt hlt hjt
          have hf := tab_succ n f (i := k) (k := j) hjt
          have HF := Lib.hid hf
          have HBW := Lib.hid hbw
          have hcall := HG.out
          clear hf hbw
          have hMk : Hid (∀ W, Below wr.heap.size wr W → W.cell? ⟨w.heap.size + 1, 0, none⟩ = some (.int .i64 n) ∧ W.cell? ⟨w.heap.size + 1, 1, none⟩ = some (.slice A (k * n + j) c)) := fun W hW => ⟨keepC hW c0, keepC hW c1⟩
          have HGC : Hid (∀ W, Below wr.heap.size wr W → Calls Try.prog 62 #[.int .i64 k, .int .i64 j, p0, p1, p2, p3] W (fun e W' => e = .returned (.float .f32 (f k j)) ∧ Below W.heap.size W W')) := fun W hW => HG.out W ((HB1.out.trans (HBW.out.mono (by omega))).trans (hW.mono (by have := HBW.out.size; have := S1.out; omega))) k j hlt hjt
          clear hcall
          generalize hpq : k * n + j = p at *
          have HPQ := Lib.hid hpq
          clear hpq
          go_wp2_with fail
          go_region_law (first
            | (have hkk := hk2
               refine step_append_lies _ (by rfl) _ _ _ (by rfl) (w.heap.size + 2) 31 i0 _ 1 4 Try.underlying24 hi0 hz0 hz1 hz2 rfl (by omega) (.slice A p c) p (fl (tabTo n f p)) (by rfl) ((own_below hown hk2).alloc _) ⟨w2.heap.size, 0, none⟩ 1 1 [.float .f32 (f k j)] (by rfl) (by rfl) (World.news_of_block (cs := #[.float .f32 (f k j)]) (t := 31) (fr := (0, 0)) (heap_alloc_new w2 _)) (by simp [Value.oneCell']) (by omega) (by unfold maxLen; omega) (by omega) (by simp; have := hk2.size; omega) (w2.heap.size + 1) (by simp) ?_
               intro g cap w3 hown3 hgrow hat hlt
               have hX3 := CB_step HBW.out hsz c0 c1 hfr hown hk2 hgrow hown3 HF.out
               obtain ⟨c3, f3, hcb3⟩ := hX3
               have HX := Lib.hid hcb3
               clear hcb3)
            | (go_simp; go_at_call 62; refine (HGC.out _ (Below.refl _ _).drew).mono ?_; rintro e w2 ⟨rfl, hb2⟩; have hk2 : Below wr.heap.size wr w2 := Below.trans (Below.refl _ _).drew hb2; have cc1 : w2.cell? ⟨w.heap.size + 1, 1, none⟩ = some (.slice A p c) := keepC hk2 c1; have cc2 : (w2.alloc (.cells #[.float .f32 (f k j)] 31)).cell? ⟨w.heap.size + 1, 1, none⟩ = some (.slice A p c) := keepC (hk2.alloc hk2.size _) c1))
          all_goals
            go_wp2_with fail
            go_roundw
            case rel => exact ⟨j + 1, by omega, by go_num, by rw [← Nat.add_assoc, HPQ.out]; exact HX.out⟩
            case measure => simp [intOf]; omega
        · have hje : j = n := by omega
          subst hje
          have HCJ := Lib.hid hcj
          clear hcj
          go_wp2_with fail
          go_roundw
          case rel => exact ⟨k + 1, by omega, by go_num, by rw [Nat.add_mul, Nat.one_mul]; exact HCJ.out⟩
          case measure => simp [intOf]; omega
    · rename_i wr
      have hke : n = k := by omega
      subst hke
      obtain ⟨A, c, hbw, hsz, c0, c1, hfr, hown⟩ := HCB.out
      have HV : Hid (∀ W, Below wr.heap.size wr W → Calls Try.prog 20 #[.agg #[.int .i64 n, .slice A (n * n) c]] W (fun e w' => e = .returned (.bool (validB n (tab n f))) ∧ Below W.heap.size W w')) := fun W hW => by
        have h1 : (tab n f).length = n * n := tab_len n f
        have h2 := own_cap hown
        have h := ValidChain_any n A (tab n f) c W (by rw [h1]; exact h2.1) h2.2 ((Rd.of_own hown).next (Nat.le_refl _) hW)
        rw [h1] at h
        exact h
      have g0 : wr.cell? ⟨w.heap.size, 0, none⟩ = some (.int .i64 0) := (hbw.cell (show w.heap.size < w.heap.size + 1 by omega)).trans K0.out
      have g1 : wr.cell? ⟨w.heap.size, 1, none⟩ = some (.slice none 0 0) := (hbw.cell (show w.heap.size < w.heap.size + 1 by omega)).trans K1.out
      have gf : ∀ o, wr.frozen? ⟨w.heap.size, o, none⟩ = false := fun o => (hbw.frozen (show w.heap.size < w.heap.size + 1 by omega)).trans (F0.out o)
      have hbwr : Below w.heap.size w wr := HB1.out.trans (hbw.mono (by omega))
      have HBR := Lib.hid hbwr
      have HOWN := Lib.hid hown
      have HSZ := Lib.hid hsz
      clear hbwr hown hbw hsz
      cases hvb : validB n (tab n f)
      · have HVB := Lib.hid hvb
        rw [hvb] at HV
        clear hvb
        go_wp2_with (go_at_call 20; refine (HV.out _ (by first | exact Below.refl _ _ | exact (Below.refl _ _).drew)).mono ?_; rintro e w5 ⟨rfl, hb5⟩; have hk5 : Below wr.heap.size wr w5 := hb5; have z0 : w5.cell? ⟨w.heap.size, 0, none⟩ = some (.int .i64 0) := keepC hk5 g0; have z1 : w5.cell? ⟨w.heap.size, 1, none⟩ = some (.slice none 0 0) := keepC hk5 g1; have zf : ∀ o, w5.frozen? ⟨w.heap.size, o, none⟩ = false := fun o => (hk5.frozen (p := ⟨_, o, none⟩) (lt_of_cell (a := ⟨w.heap.size, 0, none⟩) g0)).trans (gf o); have y0 : w5.cell? ⟨w.heap.size + 1, 0, none⟩ = some (.int .i64 n) := keepC hk5 c0; have y1 : w5.cell? ⟨w.heap.size + 1, 1, none⟩ = some (.slice A (n * n) c) := keepC hk5 c1)
        have hB : Below w.heap.size w w5 := HBR.out.trans (hk5.mono (by have := HSZ.out; omega))
        refine bodyPost_ret (v := .tuple #[.agg #[.int .i64 0, .slice none 0 0], .bool false]) (by simp [results, Try.results37, go_sem, z0, z1]) rfl ⟨(hB.setCell (Nat.le_refl _) _).setCell (Nat.le_refl _) _, .inl ⟨HVB.out, rfl⟩⟩
      · have HVB := Lib.hid hvb
        rw [hvb] at HV
        clear hvb
        go_wp2_with (go_at_call 20; refine (HV.out _ (by first | exact Below.refl _ _ | exact (Below.refl _ _).drew)).mono ?_; rintro e w5 ⟨rfl, hb5⟩; have hk5 : Below wr.heap.size wr w5 := hb5; have z0 : w5.cell? ⟨w.heap.size, 0, none⟩ = some (.int .i64 0) := keepC hk5 g0; have z1 : w5.cell? ⟨w.heap.size, 1, none⟩ = some (.slice none 0 0) := keepC hk5 g1; have zf : ∀ o, w5.frozen? ⟨w.heap.size, o, none⟩ = false := fun o => (hk5.frozen (p := ⟨_, o, none⟩) (lt_of_cell (a := ⟨w.heap.size, 0, none⟩) g0)).trans (gf o); have y0 : w5.cell? ⟨w.heap.size + 1, 0, none⟩ = some (.int .i64 n) := keepC hk5 c0; have y1 : w5.cell? ⟨w.heap.size + 1, 1, none⟩ = some (.slice A (n * n) c) := keepC hk5 c1)
        have hB : Below w.heap.size w w5 := HBR.out.trans (hk5.mono (by have := HSZ.out; omega))
        have hO := ownsRow_setCell_below (ownsRow_setCell_below (own_below HOWN.out hk5) (a := ⟨w.heap.size, 0, none⟩) (show w.heap.size < w.heap.size + 2 by omega) (.int .i64 n)) (a := ⟨w.heap.size, 1, none⟩) (show w.heap.size < w.heap.size + 2 by omega) (.slice A (n * n) c)
        refine bodyPost_ret (v := .tuple #[.agg #[.int .i64 n, .slice A (n * n) c], .bool true]) (by simp [results, Try.results37, go_sem, z0, z1]) rfl ⟨(hB.setCell (Nat.le_refl _) _).setCell (Nat.le_refl _) _, .inr ⟨HVB.out, A, c, by rw [tab_len], ?_⟩⟩
        rw [tab_len]
        exact own_base hO (by omega)


end Go.Proofs.Ytlhepgdheopgaaa

