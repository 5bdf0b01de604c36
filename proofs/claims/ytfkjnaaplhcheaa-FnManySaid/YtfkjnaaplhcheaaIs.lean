/-
  slices.insertionSortCmpFunc of indices, by impl.byShare's comparison: a stable sort of a stretch.
-/
import Derived.Test.YtfkjnaaplhcheaaSw
import Derived.BigQuiet
namespace Go.Proofs.Ytfkjnaaplhcheaa
open Go Go.RowKit Go.Sort

/-- the comparison sees the values; of two indices the greater one stands behind where the values are equal -/
def KeyOf (K : Nat → Nat) (cf : Nat → Nat → Int) (N : Nat) : Prop := ∀ x y, x < N → y < x → (cf x y < 0 → K x < K y) ∧ (¬ cf x y < 0 → K y < K x)
/-- the inner loop of an insertion: the number at j is on its way down -/
structure InsJ (K : Nat → Nat) (a i j : Nat) (d0 dj : Array Nat) : Prop where
  m : Same a (i + 1) d0 dj
  s : ∀ p q, a ≤ p → p < q → q ≤ i → p ≠ j → q ≠ j → K dj[p]! < K dj[q]!
  u : ∀ q, j < q → q ≤ i → K dj[j]! < K dj[q]!
  x : ∀ p, a ≤ p → p < j → dj[p]! < dj[j]!
theorem InsJ.start {K : Nat → Nat} {a i : Nat} {d0 : Array Nat} (h : Srt K d0 a i) (hx : ∀ p, a ≤ p → p < i → d0[p]! < d0[i]!) : InsJ K a i i d0 d0 :=
  ⟨Same.refl _ _ _, fun p q h1 h2 h3 h4 h5 => h p q h1 h2 (by omega), fun q h1 h2 => by omega, hx⟩
theorem InsJ.step {K : Nat → Nat} {a i j : Nat} {d0 dj : Array Nat} (h : InsJ K a i (j + 1) d0 dj) (ha : a ≤ j) (hi : j + 1 ≤ i) (hs : i < dj.size) (hk : K dj[j + 1]! < K dj[j]!) : InsJ K a i j d0 (swp dj (j + 1) j) := by
  have g := fun k => swp_at dj (i := j + 1) (j := j) (by omega) (by omega) k
  have gj : (swp dj (j + 1) j)[j]! = dj[j + 1]! := by rw [g, if_neg (by omega), if_pos rfl]
  have g1 : (swp dj (j + 1) j)[j + 1]! = dj[j]! := by rw [g, if_pos rfl]
  have go' : ∀ k, k ≠ j → k ≠ j + 1 → (swp dj (j + 1) j)[k]! = dj[k]! := fun k h1 h2 => by rw [g, if_neg h2, if_neg h1]
  refine ⟨h.m.trans (swp_same (by omega) (by omega) ⟨by omega, by omega⟩ ⟨by omega, by omega⟩), fun p q h1 h2 h3 h4 h5 => ?_, fun q h1 h2 => ?_, fun p h1 h2 => ?_⟩
  · by_cases hp : p = j + 1
    · subst hp
      rw [g1, go' q h5 (by omega)]
      exact h.s j q ha (by omega) h3 (by omega) (by omega)
    · by_cases hq : q = j + 1
      · subst hq
        rw [g1, go' p h4 hp]
        exact h.s p j h1 (by omega) (by omega) (by omega) (by omega)
      · rw [go' p h4 hp, go' q h5 hq]
        exact h.s p q h1 h2 h3 hp hq
  · rw [gj]
    by_cases hq : q = j + 1
    · subst hq
      rw [g1]
      exact hk
    · rw [go' q (by omega) hq]
      exact h.u q (by omega) h2
  · rw [gj, go' p (by omega) (by omega)]
    exact h.x p h1 (by omega)
theorem InsJ.stop {K : Nat → Nat} {a i j : Nat} {d0 dj : Array Nat} (h : InsJ K a i j d0 dj) (hj : a < j → K dj[j - 1]! < K dj[j]!) : Srt K dj a (i + 1) := fun p q h1 h2 h3 => by
  by_cases hp : p = j
  · subst hp
    exact h.u q h2 (by omega)
  · by_cases hq : q = j
    · subst hq
      by_cases hpq : p = q - 1
      · rw [hpq]
        exact hj (by omega)
      · exact Nat.lt_trans (h.s p (q - 1) h1 (by omega) (by omega) hp (by omega)) (hj (by omega))
    · exact h.s p q h1 h2 (by omega) hp hq
/-- the outer loop -/
structure InsO (K : Nat → Nat) (a b i : Nat) (d0 di : Array Nat) : Prop where
  m : Same a b d0 di
  s : Srt K di a i
  x : ∀ p q, a ≤ p → p < i → i ≤ q → q < b → di[p]! < di[q]!
  y : ∀ p q, i ≤ p → p < q → q < b → di[p]! < di[q]!
theorem InsO.start {K : Nat → Nat} {a b : Nat} {d0 : Array Nat} (h : ∀ p q, a ≤ p → p < q → q < b → d0[p]! < d0[q]!) : InsO K a b (a + 1) d0 d0 :=
  ⟨Same.refl _ _ _, fun p q h1 h2 h3 => by omega, fun p q h1 h2 h3 h4 => h p q h1 (by omega) h4, fun p q h1 h2 h3 => h p q (by omega) h2 h3⟩
theorem InsO.begin {K : Nat → Nat} {a b i : Nat} {d0 di : Array Nat} (h : InsO K a b i d0 di) (hi : i < b) : InsJ K a i i di di := InsJ.start h.s fun p h1 h2 => h.x p i h1 h2 (Nat.le_refl _) hi
theorem InsO.next {K : Nat → Nat} {a b i j : Nat} {d0 di dj : Array Nat} (h : InsO K a b i d0 di) (hi : i < b) (hj : InsJ K a i j di dj) (hk : a < j → K dj[j - 1]! < K dj[j]!) : InsO K a b (i + 1) d0 dj := by
  refine ⟨h.m.trans (hj.m.wide (Nat.le_refl _) (by omega)), hj.stop hk, fun p q h1 h2 h3 h4 => ?_, fun p q h1 h2 h3 => ?_⟩
  · rw [hj.m.2.2 q (by omega)]
    exact hj.m.all (P := fun z => z < di[q]!) (fun p h1 h2 => by
      by_cases hp : p < i
      · exact h.x p q h1 hp (by omega) h4
      · obtain rfl : p = i := by omega
        exact h.y p q (Nat.le_refl _) (by omega) h4) p h1 h2
  · rw [hj.m.2.2 p (by omega), hj.m.2.2 q (by omega)]
    exact h.y p q (by omega) h2 h3

/-- impl.byShare's comparison, bound to the list's box -/
def shF (bx : Nat) : Value := .func (.func 100) #[] #[.pointer (some ⟨bx, 0, none⟩)]
/-- in every world of the sort it compares two indices -/
def ShCmp (w : World) (blk off bx : Nat) (d : Array Nat) (cf : Nat → Nat → Int) : Prop := ∀ (dk : Array Nat) (W : World) (x y : Nat), RW w blk off d dk W → x < d.size → y < d.size →
  Calls Try.prog 100 #[.int .i64 x, .int .i64 y, .pointer (some ⟨bx, 0, none⟩)] W (Quiet (.int .i64 (cf x y)) W)
set_option maxRecDepth 100000 in
set_option maxHeartbeats 3200000 in
theorem insertion_any (K : Nat → Nat) (cf : Nat → Nat → Int) (blk off cap a b bx : Nat) (d d0 : Array Nat) (w W : World) (h : RW w blk off d d0 W) (hC : ShCmp w blk off bx d cf) (hK : KeyOf K cf d.size)
    (hab : a ≤ b) (hb : b ≤ d.size) (hsz : d.size ≤ 1048576) (hasc : ∀ p q, a ≤ p → p < q → q < b → d0[p]! < d0[q]!) (hbd : ∀ p, a ≤ p → p < b → d0[p]! < d.size) :
    Calls Try.prog 132 #[.slice (some ⟨blk, off, none⟩) d.size cap, .int .i64 a, .int .i64 b, shF bx] W (fun e w' => e = .returned (.tuple #[]) ∧ ∃ d' : Array Nat, Srt K d' a b ∧ Same a b d0 d' ∧ RW w blk off d d' w') := by
  have H0 : Hid (InsO K a b (a + 1) d0 d0 ∧ RW w blk off d d0 W) := Lib.hid ⟨InsO.start hasc, h⟩
  have HC := Lib.hid hC
  have HK := Lib.hid hK
  have HB := Lib.hid hbd
  clear h hC hK hasc hbd
  have w1 : IntKind.i64.wrap ((a : Int) + 1) = ((a + 1 : Nat) : Int) := by rw [show (a : Int) + 1 = ((a + 1 : Nat) : Int) by push_cast; rfl]; exact IntWalk.i64_in _ (by omega)
  unfold shF
  go_enter Try.func132, Try.ntmps132
  go_wp2
  go_loopw [8] (fun iv wr => ∃ (i : Nat) (di : Array Nat), i ≤ b + 1 ∧ a < i ∧ iv = .int .i64 i ∧ InsO K a b i d0 di ∧ RW w blk off d di wr) (fun iv _ => b - (intOf iv).toNat)
  case atStart => exact ⟨a + 1, d0, by omega, by omega, rfl, H0.out.1, H0.out.2⟩
  case round =>
    clear H0 w1
    obtain ⟨i, di, hib, hai, rfl, ho, hw⟩ := hrel
    rename World => wq
    have HO := Lib.hid ho
    have HW := Lib.hid hw
    clear ho hw
    by_cases hlt : i < b
    · have J0 := Lib.hid (HO.out.begin hlt)
      have hltz : (i : Int) < (b : Int) := by omega
      go_wp2
      go_loopw [9] (fun jv wr => ∃ (j : Nat) (dj : Array Nat), j ≤ i ∧ a ≤ j ∧ jv = .int .i64 j ∧ InsJ K a i j di dj ∧ RW w blk off d dj wr) (fun jv _ => (intOf jv).toNat)
      case atStart => exact ⟨i, di, Nat.le_refl _, by omega, rfl, J0.out, HW.out⟩
      case round =>
        clear J0 HW
        obtain ⟨j, dj, hji, haj, rfl, hj, hw⟩ := hrel
        rename World => wz
        have HJ := Lib.hid hj
        by_cases hja : a < j
        · obtain ⟨jp, rfl⟩ : ∃ jp, j = jp + 1 := ⟨j - 1, by omega⟩
          have c1 := hw.cell (p := jp + 1) (by omega)
          have c2 := hw.cell (p := jp) (by omega)
          have f1 := hw.frozen (p := jp + 1) (by omega)
          have f2 := hw.frozen (p := jp) (by omega)
          have BD : Hid (dj[jp + 1]! < d.size ∧ dj[jp]! < d.size ∧ dj[jp]! < dj[jp + 1]!) := Lib.hid (by
            have hbw : ∀ p, a ≤ p → p < i + 1 → dj[p]! < d.size := hj.m.all (P := fun z => z < d.size) fun p h1 h2 => HO.out.m.all (P := fun z => z < d.size) HB.out p h1 (by omega)
            exact ⟨hbw _ (by omega) (by omega), hbw _ (by omega) (by omega), hj.x jp (by omega) (by omega)⟩)
          have HCX : Hid (∀ n, Calls Try.prog 100 #[.int .i64 ((dj[jp + 1]! : Nat) : Int), .int .i64 ((dj[jp]! : Nat) : Int), .pointer (some ⟨bx, 0, none⟩)] (wz.drewN n) (Quiet (.int .i64 (cf dj[jp + 1]! dj[jp]!)) (wz.drewN n))) := Lib.hid fun n => HC.out dj _ _ _ (hw.drewN n) BD.out.1 BD.out.2.1
          have SW := Lib.hid fun n => (hw.drewN n).swap (i := jp + 1) (j := jp) (by omega) (by omega) rfl rfl
          have HWN := Lib.hid fun n => hw.drewN n
          have HKX := Lib.hid (HK.out dj[jp + 1]! dj[jp]! BD.out.1 BD.out.2.2)
          have HSZ := Lib.hid hw.s
          clear hj hw
          have hwp : IntKind.i64.wrap (((jp + 1 : Nat) : Int) - 1) = (jp : Int) := by rw [show ((jp + 1 : Nat) : Int) - 1 = (jp : Int) by omega]; exact IntWalk.i64_in _ (by omega)
          have jz : ((jp + 1 : Nat) : Int) < (d.size : Int) := by omega
          have jz1 : (jp : Int) < (d.size : Int) := by omega
          have hjaz : (a : Int) < ((jp + 1 : Nat) : Int) := by omega
          by_cases hlv : cf dj[jp + 1]! dj[jp]! < 0
          · have J9 := Lib.hid (HJ.out.step (by omega) hji (by rw [HSZ.out]; omega) (HKX.out.1 hlv))
            have hpq : jp + 1 ≠ jp := by omega
            have hqp : jp ≠ jp + 1 := by omega
            clear HKX BD HJ HWN
            generalize dj[jp + 1]! = x at *
            generalize dj[jp]! = y at *
            generalize hp1 : jp + 1 = p1 at *
            have HP1 := Lib.hid hp1
            clear hp1
            go_wp2_with fail
            go_quiet (refine Calls.quiet_of (HCX.out _))
            have c1' : (wz.drewN nq).cell? ⟨blk, off + p1, none⟩ = some (.int .i64 (x : Nat)) := c1
            have c2' : (wz.drewN nq).cell? ⟨blk, off + jp, none⟩ = some (.int .i64 (y : Nat)) := c2
            have f1' : (wz.drewN nq).frozen? ⟨blk, off + p1, none⟩ = false := f1
            have f2' : (wz.drewN nq).frozen? ⟨blk, off + jp, none⟩ = false := f2
            have SW' := Lib.hid (SW.out nq)
            clear c1 c2 f1 f2 SW HCX hlv
            generalize wz.drewN nq = wy at *
            go_wp2_with fail
            go_region
            generalize World.setCell (World.setCell wy _ _) _ _ = w9 at *
            generalize w9.drew = w8 at *
            go_wp2_with fail
            go_roundw
            case rel => exact ⟨jp, _, by have := HP1.out; omega, by have := HP1.out; omega, by go_num, J9.out, SW'.out⟩
            case measure => have := HP1.out; simp [intOf]; omega
          · have O9 := Lib.hid (HO.out.next hlt HJ.out (fun _ => by rw [Nat.add_sub_cancel]; exact HKX.out.2 hlv))
            clear HKX BD HJ SW HO f1 f2
            generalize dj[jp + 1]! = x at *
            generalize dj[jp]! = y at *
            generalize hp1 : jp + 1 = p1 at *
            have HP1 := Lib.hid hp1
            clear hp1
            go_wp2_with fail
            go_quiet (refine Calls.quiet_of (HCX.out _))
            have HW9 := Lib.hid (HWN.out nq)
            clear c1 c2 HCX HWN
            generalize wz.drewN nq = wy at *
            go_wp2_with fail
            go_roundw
            case rel => exact ⟨i + 1, _, by omega, by omega, by go_num, O9.out, HW9.out⟩
            case measure => simp [intOf]; omega
        · obtain rfl : j = a := by omega
          have O9 := Lib.hid (HO.out.next hlt HJ.out (fun h => absurd h (Nat.lt_irrefl _)))
          have HWN := Lib.hid fun n => hw.drewN n
          clear hj hw HJ HO
          go_wp2_with fail
          go_quiet (fail)
          have HW9 := Lib.hid (HWN.out nq)
          clear HWN
          generalize wz.drewN nq = wy at *
          go_wp2_with fail
          go_roundw
          case rel => exact ⟨i + 1, _, by omega, by omega, by go_num, O9.out, HW9.out⟩
          case measure => simp [intOf]; omega
    · have hltz : ¬ (i : Int) < (b : Int) := by omega
      go_wp2
      go_end0
      exact ⟨rfl, di, fun p q h1 h2 h3 => HO.out.s p q h1 h2 (by omega), HO.out.m, HW.out⟩
end Go.Proofs.Ytfkjnaaplhcheaa
