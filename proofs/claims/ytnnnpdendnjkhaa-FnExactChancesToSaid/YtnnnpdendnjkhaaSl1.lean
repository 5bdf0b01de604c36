/-
  Sizes of whatever numbers; areFinite; rows of single numbers in memory that are stored into and swapped.
-/
import Derived.Test.YtnnnpdendnjkhaaSl0
import Derived.Test.YtnnnpdendnjkhaaFb
import Derived.Test.YtnnnpdendnjkhaaOut
namespace Go.Proofs.Ytnnnpdendnjkhaa
open Go Go.RowKit Ieee
attribute [local go_sem] run_store_float

set_option maxHeartbeats 400000 in
theorem absolute_all (x : Nat) (w : World) : Calls Try.prog 54 #[.float .f32 x] w (Quiet (.float .f32 (absA x)) w) := by
  cases hl : (FloatKind.f32.format.order x 0 == some .lt) with
  | true =>
    have HF : Hid (absA x = Op.negFloat .f32 x) := Lib.hid (by unfold absA; rw [if_pos hl])
    have hu : ∀ w, (Op.unary .neg (.float .f32 x)).run Try.prog w = .ok (.float .f32 (Op.negFloat .f32 x)) w := fun _ => rfl
    go_enter Try.func54, Try.ntmps54
    go_wp2
    go_ret
    rw [HF.out]
    exact .mk0
  | false =>
    have HF : Hid (absA x = x) := Lib.hid (by unfold absA; rw [if_neg (by rw [hl]; simp)])
    go_enter Try.func54, Try.ntmps54
    go_wp2
    go_ret
    rw [HF.out]
    exact .mk0
set_option maxHeartbeats 400000 in
theorem l07Size_all (x : Nat) (w : World) : Calls Try.prog 49 #[.float .f32 x] w (Quiet (.float .f32 (sizA x)) w) := by
  cases hl : (FloatKind.f32.format.order x 0 == some .lt || FloatKind.f32.format.order x 0 == some .eq) with
  | true =>
    have HF : Hid (sizA x = fsub 0 x) := Lib.hid (by unfold sizA; rw [if_pos hl])
    have hs : floatBits .sub .f32 0 x = some (fsub 0 x) := by
      have hn : isNan single x = false := by
        cases hn : isNan single x with
        | false => rfl
        | true =>
          rw [order_nan_left (f := FloatKind.f32.format) 0 hn] at hl
          simp at hl
      show single.sub 0 x = some (fsub 0 x)
      cases hf : isFin single x with
      | true => exact (fsub_run zero_notNan hf).1
      | false =>
        unfold fsub
        have hz : single.read 0 = .number false 0 (-149) := by decide +kernel
        rcases read_notNan hn with ⟨m, e, hr⟩ | hr
        · exfalso
          unfold isFin at hf
          rw [hr] at hf
          simp at hf
        · unfold Format.sub
          rw [hz, hr]
          rfl
    have e1 := fun w => run_float_arith (P := Try.prog) w .sub 42 .f32 _ _ _ hs
    clear hs
    go_enter Try.func49, Try.ntmps49
    go_wp2
    go_ret
    rw [HF.out]
    exact .mk0
  | false =>
    have HF : Hid (sizA x = x) := Lib.hid (by unfold sizA; rw [if_neg (by rw [hl]; simp)])
    go_enter Try.func49, Try.ntmps49
    go_wp2
    go_ret
    rw [HF.out]
    exact .mk0

set_option maxHeartbeats 400000 in
theorem areFinite1_any (x : Nat) (w : World) : Calls Try.prog 86 #[.float .f32 x] w (Quiet (.bool (!isFin single x)) w) := by
  have HC := Lib.hid fun W => IsFinite_any x W
  generalize isFin single x = b at *
  go_enter Try.func86, Try.ntmps86
  go_wp2_with (go_at_call 50; refine (HC.out _).mono ?_; rintro e w' ⟨rfl, n, rfl⟩)
  go_ret
  exact .mk _
set_option maxHeartbeats 400000 in
theorem areFinite_any (A : Option Addr) (xs : List Nat) (c : Nat) (w : World) (hx : xs.length ≤ 9223372036854775807) (h : Rd w w.heap.size A (fl xs)) :
    Calls Try.prog 83 #[.slice A xs.length c] w (Quiet (.bool (xs.all (isFin single))) w) := by
  have HC := Lib.hid fun w h => ContainsFunc_fl 86 (.inr (.inl rfl)) (fun x => !isFin single x) areFinite1_any A xs c w hx h
  have HA : Hid ((!xs.any fun x => !isFin single x) = xs.all (isFin single)) := Lib.hid (by
    rw [List.any_eq_not_all_not, Bool.not_not]
    congr 1
    funext x
    rw [Bool.not_not])
  go_enter Try.func83, Try.ntmps83
  go_wp2_with (go_at_call 67; refine (HC.out _ h).mono ?_; rintro e w' ⟨rfl, n, rfl⟩)
  go_ret
  exact ⟨retB HA.out, n, rfl⟩

/-- rows of n + 1 numbers each, handed about by a row of slices -/
structure MR (W : World) (base n R : Nat) (bl cp : Nat → Nat) (g : Nat → Nat → Nat) : Prop where
  o : ∀ r, r < n → W.cell? ⟨R, r, none⟩ = some (.slice (some ⟨bl r, 0, none⟩) (n + 1) (cp r))
  fo : ∀ r, r < n → W.frozen? ⟨R, r, none⟩ = false
  c : ∀ r c, r < n → c ≤ n → W.cell? ⟨bl r, c, none⟩ = some (.float .f32 (g r c))
  fc : ∀ r c, r < n → c ≤ n → W.frozen? ⟨bl r, c, none⟩ = false
  ne : ∀ r, r < n → bl r ≠ R
  inj : ∀ r s, r < n → s < n → bl r = bl s → r = s
  loR : 0 < n → base ≤ R
  lo : ∀ r, r < n → base ≤ bl r
variable {W W' : World} {base n R : Nat} {bl cp : Nat → Nat} {g : Nat → Nat → Nat}
theorem MR.lt (h : MR W base n R bl cp g) {r : Nat} (hr : r < n) : bl r < W.heap.size := lt_of_cell (a := ⟨bl r, 0, none⟩) (h.c r 0 hr (Nat.zero_le _))
theorem MR.ltR (h : MR W base n R bl cp g) {r : Nat} (hr : r < n) : R < W.heap.size := lt_of_cell (a := ⟨R, r, none⟩) (h.o r hr)
theorem MR.keep (h : MR W base n R bl cp g) (hb : Below W.heap.size W W') : MR W' base n R bl cp g :=
  ⟨fun r hr => keepC hb (h.o r hr), fun r hr => (hb.frozen (p := ⟨R, r, none⟩) (h.ltR hr)).trans (h.fo r hr), fun r c hr hc => keepC hb (h.c r c hr hc), fun r c hr hc => (hb.frozen (p := ⟨bl r, c, none⟩) (h.lt hr)).trans (h.fc r c hr hc), h.ne, h.inj, h.loR, h.lo⟩
theorem MR.drewN (h : MR W base n R bl cp g) (m : Nat) : MR (W.drewN m) base n R bl cp g := ⟨h.o, h.fo, h.c, h.fc, h.ne, h.inj, h.loR, h.lo⟩
theorem MR.set (h : MR W base n R bl cp g) {r c : Nat} (hr : r < n) (hc : c ≤ n) (v : Nat) : MR (W.setCell ⟨bl r, c, none⟩ (.float .f32 v)) base n R bl cp (setM g r c v) := by
  refine ⟨fun s hs => ?_, fun s hs => ?_, fun s d hs hd => ?_, fun s d hs hd => ?_, h.ne, h.inj, h.loR, h.lo⟩
  · rw [World.cell?_setCell_other _ _ _ _ (fun e => h.ne r hr (by injection e))]
    exact h.o s hs
  · rw [World.frozen?_setCell]
    exact h.fo s hs
  · unfold setM
    by_cases he : s = r ∧ d = c
    · rw [if_pos he, he.1, he.2]
      exact World.cell?_setCell_same _ _ _ (h.c r c hr hc)
    · rw [if_neg he, World.cell?_setCell_other _ _ _ _ (fun e => he (by
        injection e with e1 e2
        exact ⟨(h.inj r s hr hs e1).symm, e2.symm⟩))]
      exact h.c s d hs hd
  · rw [World.frozen?_setCell]
    exact h.fc s d hs hd
def swapN (f : Nat → Nat) (k p : Nat) : Nat → Nat := fun r => if r = k then f p else if r = p then f k else f r
theorem MR.swap (h : MR W base n R bl cp g) {k p : Nat} (hk : k < n) (hp : p < n) :
    MR ((W.setCell ⟨R, k, none⟩ (.slice (some ⟨bl p, 0, none⟩) (n + 1) (cp p))).setCell ⟨R, p, none⟩ (.slice (some ⟨bl k, 0, none⟩) (n + 1) (cp k))) base n R (swapN bl k p) (swapN cp k p) (swapM g k p) := by
  have hsw : ∀ s, s < n → ∃ t, t < n ∧ swapN bl k p s = bl t ∧ swapN cp k p s = cp t ∧ ∀ c, swapM g k p s c = g t c := by
    intro s hs
    unfold swapN swapM
    by_cases h1 : s = k
    · exact ⟨p, hp, by rw [if_pos h1], by rw [if_pos h1], fun c => by rw [if_pos h1]⟩
    · by_cases h2 : s = p
      · exact ⟨k, hk, by rw [if_neg h1, if_pos h2], by rw [if_neg h1, if_pos h2], fun c => by rw [if_neg h1, if_pos h2]⟩
      · exact ⟨s, hs, by rw [if_neg h1, if_neg h2], by rw [if_neg h1, if_neg h2], fun c => by rw [if_neg h1, if_neg h2]⟩
  have hok := h.o k hk
  have hop : (W.setCell ⟨R, k, none⟩ (.slice (some ⟨bl p, 0, none⟩) (n + 1) (cp p))).cell? ⟨R, p, none⟩ = some (.slice (some ⟨bl p, 0, none⟩) (n + 1) (cp p)) := by
    by_cases hkp : k = p
    · subst hkp
      exact World.cell?_setCell_same _ _ _ hok
    · rw [World.cell?_setCell_other _ _ _ _ (fun e => hkp (by injection e))]
      exact h.o p hp
  refine ⟨fun s hs => ?_, fun s hs => ?_, fun s d hs hd => ?_, fun s d hs hd => ?_, fun s hs => ?_, fun s t hs ht e => ?_, h.loR, fun s hs => ?_⟩
  · by_cases h2 : s = p
    · subst h2
      rw [World.cell?_setCell_same _ _ _ hop]
      unfold swapN
      by_cases h1 : s = k
      · rw [if_pos h1, if_pos h1, h1]
      · rw [if_neg h1, if_pos rfl, if_neg h1, if_pos rfl]
    · rw [World.cell?_setCell_other _ _ _ _ (fun e => h2 (by injection e with _ e2; exact e2.symm))]
      by_cases h1 : s = k
      · subst h1
        rw [World.cell?_setCell_same _ _ _ hok]
        unfold swapN
        rw [if_pos rfl, if_pos rfl]
      · rw [World.cell?_setCell_other _ _ _ _ (fun e => h1 (by injection e with _ e2; exact e2.symm))]
        unfold swapN
        rw [if_neg h1, if_neg h2, if_neg h1, if_neg h2]
        exact h.o s hs
  · rw [World.frozen?_setCell, World.frozen?_setCell]
    exact h.fo s hs
  · obtain ⟨t, ht, e1, e2, e3⟩ := hsw s hs
    rw [e1, e3, World.cell?_setCell_other _ _ _ _ (fun e => h.ne t ht (by injection e with e1; exact e1.symm)), World.cell?_setCell_other _ _ _ _ (fun e => h.ne t ht (by injection e with e1; exact e1.symm))]
    exact h.c t d ht hd
  · obtain ⟨t, ht, e1, e2, e3⟩ := hsw s hs
    rw [e1, World.frozen?_setCell, World.frozen?_setCell]
    exact h.fc t d ht hd
  · obtain ⟨t, ht, e1, e2, e3⟩ := hsw s hs
    rw [e1]
    exact h.ne t ht
  · unfold swapN at e
    by_cases a1 : s = k
    · rw [if_pos a1] at e
      by_cases b1 : t = k
      · omega
      · rw [if_neg b1] at e
        by_cases b2 : t = p
        · rw [if_pos b2] at e
          have := h.inj _ _ hp hk e
          omega
        · rw [if_neg b2] at e
          have := h.inj _ _ hp ht e
          omega
    · rw [if_neg a1] at e
      by_cases a2 : s = p
      · rw [if_pos a2] at e
        by_cases b1 : t = k
        · rw [if_pos b1] at e
          have := h.inj _ _ hk hp e
          omega
        · rw [if_neg b1] at e
          by_cases b2 : t = p
          · omega
          · rw [if_neg b2] at e
            have := h.inj _ _ hk ht e
            omega
      · rw [if_neg a2] at e
        by_cases b1 : t = k
        · rw [if_pos b1] at e
          have := h.inj _ _ hs hp e
          omega
        · rw [if_neg b1] at e
          by_cases b2 : t = p
          · rw [if_pos b2] at e
            have := h.inj _ _ hs hk e
            omega
          · rw [if_neg b2] at e
            exact h.inj _ _ hs ht e
  · obtain ⟨t, ht, e1, e2, e3⟩ := hsw s hs
    rw [e1]
    exact h.lo t ht
end Go.Proofs.Ytnnnpdendnjkhaa
