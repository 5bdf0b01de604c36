/-
  Walks to far states: what a walk does; impl.Chain.reach.
-/
import Derived.Test.YtddaodjaeommlaaMt2
import Derived.Test.YtddaodjaeommlaaRaf
namespace Go.Proofs.Ytddaodjaeommlaa
open Go Go.RowKit Ieee

/-- a walk from a state with the shares from T on -/
def pR (xs : List Nat) (n : Nat) (k a b : Int) (T i : Nat) : Nat → Nat
  | 0 => i
  | m + 1 => onC xs n (pR xs n k a b T i m) (uT k a b (T + m))
theorem pR_lt {xs : List Nat} {n : Nat} {k a b : Int} {T i : Nat} (hl : xs.length = n * n) (hi : i < n) : ∀ m, pR xs n k a b T i m < n := by
  intro m
  induction m with
  | zero => exact hi
  | succ m ih => exact onC_lt hl ih
def stopB (lv p m : Nat) : Bool := decide (lv ≤ p) || ((decide (0 < m) && p == 0) || m == 64)
/-- how many shares a walk takes -/
def reachM (xs : List Nat) (n : Nat) (k a b : Int) (lv T i : Nat) : Nat := ((List.range 65).find? fun m => stopB lv (pR xs n k a b T i m) m).getD 64
theorem reachM_is {xs : List Nat} {n : Nat} {k a b : Int} {lv T i m : Nat} (hm : m ≤ 64) (h0 : ∀ q, q < m → stopB lv (pR xs n k a b T i q) q = false) (h1 : stopB lv (pR xs n k a b T i m) m = true) : reachM xs n k a b lv T i = m := by
  have : (List.range 65).find? (fun m => stopB lv (pR xs n k a b T i m) m) = some m := by
    rw [List.find?_range_eq_some]
    exact ⟨h1, List.mem_range.2 (by omega), fun j hj => by rw [h0 j hj]; rfl⟩
  unfold reachM
  rw [this]
  rfl
/-- where it comes to; -1 if not to the level -/
def reachE (xs : List Nat) (n : Nat) (k a b : Int) (lv T i : Nat) : Int := if lv ≤ pR xs n k a b T i (reachM xs n k a b lv T i) then ((pR xs n k a b T i (reachM xs n k a b lv T i) : Nat) : Int) else -1
theorem reachE_is {xs : List Nat} {n : Nat} {k a b : Int} {lv T i m p : Nat} (hm : reachM xs n k a b lv T i = m) (hp : pR xs n k a b T i m = p) : reachE xs n k a b lv T i = if lv ≤ p then (p : Int) else -1 := by
  unfold reachE
  rw [hm, hp]

/-- the boxes of a chain, of a seed, and of a seed that is to be given -/
def Cx (g : Nat) (k a b n : Int) (A : Option Addr) (m c : Nat) (W : World) : Prop :=
  W.cell? ⟨g, 0, none⟩ = some (.int .i64 n) ∧ W.cell? ⟨g, 1, none⟩ = some (.slice A m c) ∧ SdAt W (g + 1) k a b ∧ SdAt W (g + 1 + 1) 0 0 0
theorem Cx.keep {g : Nat} {k a b n : Int} {A : Option Addr} {m c : Nat} {W W' : World} (h : Cx g k a b n A m c W) (hb : Below W.heap.size W W') : Cx g k a b n A m c W' :=
  ⟨keepC hb h.1, keepC hb h.2.1, h.2.2.1.keep hb, h.2.2.2.keep hb⟩
theorem Cx.lt {g : Nat} {k a b n : Int} {A : Option Addr} {m c : Nat} {W : World} (h : Cx g k a b n A m c W) : g + 2 < W.heap.size := lt_of_cell (a := ⟨g + 1 + 1, 0, none⟩) h.2.2.2.1
theorem Cx.set {g : Nat} {k a b n : Int} {A : Option Addr} {m c : Nat} {W : World} (h : Cx g k a b n A m c W) (k' a' b' : Int) : Cx g k' a' b' n A m c (((W.setCell ⟨g + 1, 0, none⟩ (.int .i64 k')).setCell ⟨g + 1, 1, none⟩ (.int .u64 a')).setCell ⟨g + 1, 2, none⟩ (.int .u64 b')) := by
  have hg : W.grownBy (((W.setCell ⟨g + 1, 0, none⟩ (.int .i64 k')).setCell ⟨g + 1, 1, none⟩ (.int .u64 a')).setCell ⟨g + 1, 2, none⟩ (.int .u64 b')) (some (g + 1)) := grown_set (grown_set (grown_set (grown_refl W _) 0 _) 1 _) 2 _
  have hl := h.lt
  have hn : some g ≠ some (g + 1) := fun e => by injection e with e; omega
  exact ⟨(hg.cell_far ⟨g, 0, none⟩ (show g < W.heap.size by omega) hn).trans h.1, (hg.cell_far ⟨g, 1, none⟩ (show g < W.heap.size by omega) hn).trans h.2.1, h.2.2.1.set k' a' b', h.2.2.2.far hg (by omega)⟩

def reachOut (xs : List Nat) (n : Nat) (k a b : Int) (lv T i : Nat) (w : World) (e : Ending) (w' : World) : Prop :=
  e = .returned (.tuple #[.agg #[.int .i64 k, .int .u64 (sdT k a b (T + reachM xs n k a b lv T i)).1, .int .u64 (sdT k a b (T + reachM xs n k a b lv T i)).2], .int .i64 (reachE xs n k a b lv T i)]) ∧ Below w.heap.size w w'
theorem reach_out {xs : List Nat} {n : Nat} {k a b a' b' : Int} {lv T i m : Nat} {r : Int} {w w' : World} (hm : reachM xs n k a b lv T i = m) (hr : reachE xs n k a b lv T i = r) (hs : sdT k a b (T + m) = (a', b')) (hb : Below w.heap.size w w') : reachOut xs n k a b lv T i w (.returned (.tuple #[.agg #[.int .i64 k, .int .u64 a', .int .u64 b'], .int .i64 r])) w' := by
  unfold reachOut
  rw [hm, hs, hr]
  exact ⟨rfl, hb⟩

set_option maxRecDepth 100000 in
set_option maxHeartbeats 6400000 in
theorem reach_any (k a b : Int) (n i lv T : Nat) (A : Option Addr) (xs : List Nat) (c : Nat) (w : World) (hk : kindB k) (hx : xs.length ≤ c) (hc : c ≤ 9223372036854775807) (hv : validB n xs = true) (hi : i < n) (hlv : lv ≤ 64) (h : Rd w w.heap.size A (fl xs)) :
    Calls Try.prog 163 #[.agg #[.int .i64 n, .slice A xs.length c], .agg #[.int .i64 k, .int .u64 (sdT k a b T).1, .int .u64 (sdT k a b T).2], .int .i64 i, .int .i64 lv] w (reachOut xs n k a b lv T i w) := by
  obtain ⟨n', hn', n1, n2, hl, hp, hrw⟩ := validB_facts hv
  obtain rfl : n = n' := by omega
  have HSH : Hid (∀ t w, Calls Try.prog 130 #[.agg #[.int .i64 k, .int .u64 (sdT k a b t).1, .int .u64 (sdT k a b t).2]] w (ShareOut k (sdT k a b t).1 (sdT k a b t).2 w)) := Lib.hid fun t w => share_any k _ _ hk w
  have HGO : Hid (∀ j u W, j < n → isNan single u = false → Below w.heap.size w W → Calls Try.prog 131 #[.agg #[.int .i64 n, .slice A xs.length c], .int .i64 (j : Nat), .float .f32 u] W (fun e w' => e = .returned (.int .i64 (onC xs n j u)) ∧ Below W.heap.size W w')) := Lib.hid fun j u W hj hu hW => goOn_any n j u A xs c W hx hc hv hj hu (h.at_ hW)
  have HSD : Hid (∀ t, nA k (sdT k a b t).1 (sdT k a b t).2 = (sdT k a b (t + 1)).1 ∧ nB k (sdT k a b t).1 (sdT k a b t).2 = (sdT k a b (t + 1)).2 ∧ nU k (sdT k a b t).1 (sdT k a b t).2 = uT k a b t) := Lib.hid fun t => ⟨rfl, rfl, rfl⟩
  have HUN : Hid (∀ t, isNan single (uT k a b t) = false) := Lib.hid fun t => (nU_fin _ _ _).2
  have HPS : Hid (∀ m, pR xs n k a b T i (m + 1) = onC xs n (pR xs n k a b T i m) (uT k a b (T + m))) := Lib.hid fun m => rfl
  have HPL : Hid (∀ m, pR xs n k a b T i m < n) := Lib.hid fun m => pR_lt hl hi m
  have HP0 : Hid (pR xs n k a b T i 0 = i) := Lib.hid rfl
  have HRM : Hid (∀ m, m ≤ 64 → (∀ q, q < m → stopB lv (pR xs n k a b T i q) q = false) → stopB lv (pR xs n k a b T i m) m = true → reachM xs n k a b lv T i = m) := Lib.hid fun m h1 h2 h3 => reachM_is h1 h2 h3
  have HRE : Hid (∀ m p, reachM xs n k a b lv T i = m → pR xs n k a b T i m = p → reachE xs n k a b lv T i = if lv ≤ p then (p : Int) else -1) := Lib.hid fun m p h1 h2 => reachE_is h1 h2
  clear hn' hl hp hrw hx hc hv h hk
  unfold ShareOut at HSH
  generalize hs0 : sdT k a b T = s0 at *
  have HS0 := Lib.hid hs0
  clear hs0
  obtain ⟨a0, b0⟩ := s0
  go_enter Try.func163, Try.ntmps163
  go_wp2_with fail
  generalize hW1 : World.alloc (World.alloc (World.alloc w _) _) _ = W1
  have hx1 : Cx w.heap.size k a0 b0 n A xs.length c W1 := by rw [← hW1]; simp [Cx, SdAt, go_sem]
  have HB1 : Hid (Below w.heap.size w W1) := by rw [← hW1]; exact Lib.hid (below_al (below_al (below_al (Below.refl _ _) _) _) _)
  clear hW1
  have HX1 := Lib.hid hx1
  clear hx1
  go_loopw [2, 10, 11] (fun f md _ wr => ∃ m : Nat, m ≤ 64 ∧ md = .int .i64 m ∧ f = .int .i64 (pR xs n k a b T i m : Nat) ∧ (∀ q, q < m → stopB lv (pR xs n k a b T i q) q = false) ∧ Cx w.heap.size k (sdT k a b (T + m)).1 (sdT k a b (T + m)).2 n A xs.length c wr ∧ Below w.heap.size w wr) (fun _ md _ _ => 64 - (intOf md).toNat)
  case atStart => exact ⟨0, by omega, rfl, by rw [HP0.out], (fun q hq => by omega), by rw [Nat.add_zero, HS0.out]; exact HX1.out, HB1.out⟩
  case round =>
    obtain ⟨m, hm, rfl, rfl, hno, hcx, hbw⟩ := hrel
    rename World => wr
    have HX := Lib.hid hcx
    have HB := Lib.hid hbw
    have HNO := Lib.hid hno
    have hlt := HX.out.lt
    obtain ⟨n0, n1', ⟨s0, s1, s2, sf⟩, ⟨z0, z1, z2, zf⟩⟩ := hcx
    clear hbw hno
    have hpl := HPL.out m
    have HRMm := Lib.hid (HRM.out m hm HNO.out)
    have HREm := Lib.hid (HRE.out m)
    have HPSm := Lib.hid (HPS.out m)
    obtain ⟨q1, q2, q3⟩ := HSD.out (T + m)
    have hsh := HSH.out (T + m)
    rw [q1, q2, q3] at hsh
    have HSHt := Lib.hid hsh
    have HU := Lib.hid (HUN.out (T + m))
    clear q1 q2 q3 hsh
    generalize hst : sdT k a b (T + m) = st at *
    generalize hst' : sdT k a b (T + m + 1) = st' at *
    have HSA := Lib.hid hst
    have HST := Lib.hid hst'
    clear hst hst'
    obtain ⟨aT, bT⟩ := st
    obtain ⟨a', b'⟩ := st'
    generalize uT k a b (T + m) = u at *
    generalize hp : pR xs n k a b T i m = p at *
    have HP := Lib.hid hp
    clear hp
    by_cases hlp : lv ≤ p
    · have hM := HRMm.out (by unfold stopB; rw [decide_eq_true hlp]; rfl)
      have HM := Lib.hid hM
      have HE := Lib.hid ((HREm.out p hM rfl).trans (if_pos hlp))
      clear hM
      go_wp2_with fail
      have hX7 := HX.out.2.2.2.set k aT bT
      have hB7 := below_set (below_set (below_set HB.out ⟨w.heap.size + 1 + 1, 0, none⟩ (.int .i64 k) (by simp; omega)) ⟨w.heap.size + 1 + 1, 1, none⟩ (.int .u64 aT) (by simp; omega)) ⟨w.heap.size + 1 + 1, 2, none⟩ (.int .u64 bT) (by simp; omega)
      generalize World.setCell (World.setCell (World.setCell _ _ _) _ _) _ _ = W7 at hX7 hB7 ⊢
      clear s0 s1 s2 sf n0 n1' z0 z1 z2 zf
      obtain ⟨y0, y1, y2, -⟩ := hX7
      refine bodyPost_ret (v := .tuple #[.agg #[.int .i64 k, .int .u64 aT, .int .u64 bT], .int .i64 (p : Int)]) (by simp [results, Try.results163, go_sem, y0, y1, y2]) rfl (reach_out HM.out HE.out HSA.out hB7)
    · by_cases hst : (0 < m ∧ p = 0) ∨ m = 64
      · have hM := HRMm.out (by
          unfold stopB
          rcases hst with ⟨h1, h2⟩ | h2
          · rw [decide_eq_true h1, h2]; simp
          · rw [h2]; simp)
        have HM := Lib.hid hM
        have HE := Lib.hid ((HREm.out p hM rfl).trans (if_neg hlp))
        clear hM
        have hcase : (0 < m ∧ p = 0) ∨ (m = 64 ∧ p ≠ 0) := by omega
        clear hst
        rcases hcase with ⟨h1, rfl⟩ | ⟨rfl, h2⟩
        all_goals
          first | (have hp0 : ((p : Int) == 0) = false := by simp; omega) | skip
          go_wp2_with fail
          have hX7 := HX.out.2.2.2.set k aT bT
          have hB7 := below_set (below_set (below_set HB.out ⟨w.heap.size + 1 + 1, 0, none⟩ (.int .i64 k) (by simp; omega)) ⟨w.heap.size + 1 + 1, 1, none⟩ (.int .u64 aT) (by simp; omega)) ⟨w.heap.size + 1 + 1, 2, none⟩ (.int .u64 bT) (by simp; omega)
          generalize World.setCell (World.setCell (World.setCell _ _ _) _ _) _ _ = W7 at hX7 hB7 ⊢
          clear s0 s1 s2 sf n0 n1' z0 z1 z2 zf
          obtain ⟨y0, y1, y2, -⟩ := hX7
          refine bodyPost_ret (v := .tuple #[.agg #[.int .i64 k, .int .u64 aT, .int .u64 bT], .int .i64 (-1)]) (by simp [results, Try.results163, go_sem, y0, y1, y2]) rfl (reach_out HM.out HE.out HSA.out hB7)
      · have HN2 : Hid (∀ q, q < m + 1 → stopB lv (pR xs n k a b T i q) q = false) := Lib.hid fun q hq => by
          rcases Nat.lt_or_ge q m with hl | hg
          · exact HNO.out q hl
          · obtain rfl : q = m := by omega
            rw [HP.out]
            unfold stopB
            rw [decide_eq_false hlp]
            have : ¬ (0 < q ∧ p = 0) := fun h => hst (.inl h)
            have h64 : ¬ q = 64 := fun h => hst (.inr h)
            simp
            omega
        have hm64 : m < 64 := by omega
        have hmm : ((m : Int) == 64) = false := by simp; omega
        have hcase : m = 0 ∨ (0 < m ∧ p ≠ 0) := by omega
        clear hst
        rcases hcase with rfl | ⟨h1, h2⟩
        all_goals
          first | (have hp0 : ((p : Int) == 0) = false := by simp; omega) | skip
          go_wp2_with (go_at_call 130; refine (HSHt.out _).mono ?_; rintro e w6 ⟨rfl, hb6⟩; have HX6 := Lib.hid (HX.out.keep hb6); have HB6 := Lib.hid (below_next HB.out hb6); clear hb6 s0 s1 s2 sf n0 n1' z0 z1 z2 zf; obtain ⟨n0, n1', ⟨s0, s1, s2, sf⟩, ⟨z0, z1, z2, zf⟩⟩ := HX6.out)
          have hX7 := HX6.out.set k a' b'
          have hB7 := below_set (below_set (below_set HB6.out ⟨w.heap.size + 1, 0, none⟩ (.int .i64 k) (by simp)) ⟨w.heap.size + 1, 1, none⟩ (.int .u64 a') (by simp)) ⟨w.heap.size + 1, 2, none⟩ (.int .u64 b') (by simp)
          generalize World.setCell (World.setCell (World.setCell _ _ _) _ _) _ _ = W7 at hX7 hB7 ⊢
          refine (HGO.out p u W7 hpl HU.out hB7).mono ?_
          rintro e w8 ⟨rfl, hb8⟩
          have HX8 := Lib.hid (hX7.keep hb8)
          have HB8 := Lib.hid (below_next hB7 hb8)
          clear hX7 hB7 hb8 s0 s1 s2 sf n0 n1' z0 z1 z2 zf
          go_wp2_with fail
          go_roundw
          case rel => exact ⟨_, by omega, by first | go_num | rfl, by rw [HPSm.out], HN2.out, by rw [← Nat.add_assoc, HST.out]; exact HX8.out, HB8.out⟩
          case measure => first | (simp [intOf]; done) | (simp [intOf]; omega)
end Go.Proofs.Ytddaodjaeommlaa
