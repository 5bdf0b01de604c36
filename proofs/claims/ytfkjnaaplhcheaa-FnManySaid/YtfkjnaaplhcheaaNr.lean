/-
  impl.RatioStop of bits at 0.25 and 0.5, from -1 to 1: where the walk first leaves.
-/
import Derived.Test.YtfkjnaaplhcheaaNp
namespace Go.Proofs.Ytfkjnaaplhcheaa
open Go Go.RowKit Ieee

def geF (x y : Nat) : Bool := FloatKind.f32.format.order x y == some .gt || FloatKind.f32.format.order x y == some .eq
def leF (x y : Nat) : Bool := FloatKind.f32.format.order x y == some .lt || FloatKind.f32.format.order x y == some .eq
theorem rs_conc : ([3212836864, 1065353216].all (isFin single)) = true ∧ FloatKind.f32.format.order 3212836864 1065353216 = some .lt := by decide +kernel
/-- where a walk first leaves -/
def StopAt (L : List Nat) (at_ : Nat) (side : Int) : Prop := at_ ≤ L.length ∧ (∀ i, i < at_ → geF (L.getD i 0) 1065353216 = false ∧ leF (L.getD i 0) 3212836864 = false) ∧ ((at_ = L.length ∧ side = 0) ∨ (at_ < L.length ∧ side = 1 ∧ geF (L.getD at_ 0) 1065353216 = true) ∨ (at_ < L.length ∧ side = -1 ∧ leF (L.getD at_ 0) 3212836864 = true))
set_option maxRecDepth 100000 in
set_option maxHeartbeats 1600000 in
theorem RatioStop_ok (A : Option Addr) (bs : List Bool) (c : Nat) (w : World) (h1 : 1 ≤ bs.length) (h2 : bs.length ≤ 256) (h : Rd w w.heap.size A (bol bs)) (hf : (rwL bs).all (isFin single) = true) :
    Calls Try.prog 31 #[.slice A bs.length c, .float .f32 1048576000, .float .f32 1056964608, .float .f32 3212836864, .float .f32 1065353216] w (fun e w' => ∃ at_ side, StopAt (rwL bs) at_ side ∧ e = .returned (.tuple #[.int .i64 (at_ : Nat), .int .i64 side, .bool true]) ∧ Below w.heap.size w w') := by
  have HW := Lib.hid (RatioWalk_ok A bs c w h1 h2 h hf)
  obtain ⟨hpp, ho⟩ := rs_conc
  have HP : Hid (∀ A' c' W, Rd W W.heap.size A' (fl [3212836864, 1065353216]) → Calls Try.prog 68 #[.slice A' 2 c'] W (Quiet (.bool true) W)) := Lib.hid fun A' c' W hr => by
    have := areFinite_any A' [3212836864, 1065353216] c' W (by decide) hr
    rw [hpp] at this
    exact this
  have HTWO : Hid (∀ W : World, Rd (W.alloc (.cells #[.float .f32 3212836864, .float .f32 1065353216] 50)) (W.alloc (.cells #[.float .f32 3212836864, .float .f32 1065353216] 50)).heap.size (some ⟨W.heap.size, 0, none⟩) (fl [3212836864, 1065353216])) := Lib.hid fun W => by
    have h4 : (W.alloc (.cells #[.float .f32 3212836864, .float .f32 1065353216] 50)).ownsRow W.heap.size 50 1 (.slice (some ⟨W.heap.size, 0, none⟩) 2 2) 2 (fl [3212836864, 1065353216]) := ⟨rfl, .inr ⟨W.heap.size, 2, _, rfl, Nat.le_refl _, heap_alloc_new W _, Nat.le_refl _, by unfold maxLen; omega, rfl, rfl⟩⟩
    exact Rd.of_own h4
  have hl : (rwL bs).length = bs.length := by simp [rwL]
  have HRC : Hid (∀ A' W, Rd W W.heap.size A' (fl (rwL bs)) → ∀ i, i < bs.length → ∃ b off, A' = some ⟨b, off, none⟩ ∧ W.cell? ⟨b, off + i, none⟩ = some (.float .f32 ((rwL bs).getD i 0))) := Lib.hid fun A' W hr i hi => by
    obtain ⟨b, off, e, hb, hc⟩ := hr.flAt (by omega : i < (rwL bs).length)
    refine ⟨b, off, e, ?_⟩
    rw [hc, List.getD_eq_getElem?_getD, List.getElem?_eq_getElem (by omega)]
    rfl
  unfold StopAt
  rw [hl]
  clear h hf hpp
  generalize rwL bs = PL at *
  clear hl
  generalize hx : (fun i => PL.getD i 0) = xv at *
  have hx' : ∀ i, PL.getD i 0 = xv i := fun i => by rw [← hx]
  simp only [hx'] at HRC ⊢
  clear hx hx'
  generalize bs.length = n at *
  go_enter Try.func31, Try.ntmps31
  go_upto_region 4 with (first
    | (go_at_call 30; refine HW.out.mono ?_; rintro e w1 ⟨A1, c1, rfl, ho1, hb1⟩; have B1 := Lib.hid hb1; have R1 := Lib.hid (Rd.of_own ho1); clear hb1 ho1)
    | (go_at_call 68; refine (HP.out _ _ _ (HTWO.out _)).mono ?_; rintro e w2 ⟨rfl, q, rfl⟩))
  have B3 := Lib.hid (below_dn (below_next B1.out (below_al (Below.refl w1.heap.size w1) (.cells #[.float .f32 3212836864, .float .f32 1065353216] 50))) q)
  have R3 := Lib.hid (R1.out.at_ (below_dn (below_al (Below.refl w1.heap.size w1) (.cells #[.float .f32 3212836864, .float .f32 1065353216] 50)) q))
  generalize World.drewN _ q = w3 at *
  clear HW HP HTWO B1 R1
  go_wp2_with fail
  go_loopw [41] (fun iv wr => ∃ i : Nat, i ≤ n ∧ iv = .int .i64 (i : Nat) ∧ (∀ j, j < i → geF (xv j) 1065353216 = false ∧ leF (xv j) 3212836864 = false) ∧ w3 = wr) (fun iv _ => n - (intOf iv).toNat)
  case atStart => exact ⟨0, by omega, rfl, fun j hj => by omega, rfl⟩
  case round =>
    obtain ⟨i, hi, rfl, hall, hwr⟩ := hrel
    subst hwr
    have HALL := Lib.hid hall
    clear hall
    by_cases hlt : i < n
    · obtain ⟨b, off, rfl, hc⟩ := HRC.out _ _ R3.out i hlt
      have HX : Hid (∀ j, j < i + 1 → geF (xv i) 1065353216 = false → leF (xv i) 3212836864 = false → geF (xv j) 1065353216 = false ∧ leF (xv j) 3212836864 = false) := Lib.hid fun j hj e1 e2 => by
        by_cases hji : j < i
        · exact HALL.out j hji
        · obtain rfl : j = i := by omega
          exact ⟨e1, e2⟩
      cases hg : geF (xv i) 1065353216 with
      | true =>
        have hg2 := hg
        unfold geF at hg2
        have HG := Lib.hid hg
        clear hg
        go_wp2_with fail
        go_ret3
        exact ⟨i, 1, ⟨by omega, HALL.out, .inr (.inl ⟨hlt, rfl, HG.out⟩)⟩, rfl, B3.out⟩
      | false =>
        have hg2 := hg
        unfold geF at hg2
        have HG := Lib.hid hg
        clear hg
        cases hs : leF (xv i) 3212836864 with
        | true =>
          have hs2 := hs
          unfold leF at hs2
          have HS := Lib.hid hs
          clear hs
          go_wp2_with fail
          go_ret3
          exact ⟨i, -1, ⟨by omega, HALL.out, .inr (.inr ⟨hlt, rfl, HS.out⟩)⟩, rfl, B3.out⟩
        | false =>
          have hs2 := hs
          unfold leF at hs2
          have HS := Lib.hid hs
          clear hs
          go_wp2_with fail
          go_roundw
          case rel => exact ⟨i + 1, by omega, by go_num, fun j hj => HX.out j hj HG.out HS.out, by first | rfl | trivial⟩
          case measure => simp [intOf]; omega
    · obtain rfl : i = n := by omega
      go_wp2_with fail
      go_ret3
      exact ⟨i, 0, ⟨Nat.le_refl _, HALL.out, .inl ⟨rfl, rfl⟩⟩, rfl, B3.out⟩
end Go.Proofs.Ytfkjnaaplhcheaa
