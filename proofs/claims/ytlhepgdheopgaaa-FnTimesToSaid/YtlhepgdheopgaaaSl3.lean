/-
  Sizes of whatever numbers; areFinite; rows of single numbers in memory that are stored into and swapped.
  impl.solveRows: rows that are solved by elimination with pivots.
  spec.l07Solve: the same rows, one behind another in one list, their right sides in another one.
-/
import Derived.Test.YtlhepgdheopgaaaSl0
import Derived.Test.YtlhepgdheopgaaaFb
import Derived.Test.YtlhepgdheopgaaaOut
import Derived.Test.YtlhepgdheopgaaaRin3
import Derived.BigRegion
import Derived.BigQuiet
import Derived.Deep.RegionHeld3
import Derived.Deep.DeepCutAuto
import Derived.Test.YtlhepgdheopgaaaSro
namespace Go.Proofs.Ytlhepgdheopgaaa
open Go Go.RowKit Ieee
attribute [local go_sem] run_store_float

set_option maxHeartbeats 400000 in
theorem absolute_all (x : Nat) (w : World) : Calls Try.prog 39 #[.float .f32 x] w (Quiet (.float .f32 (absA x)) w) := by
  cases hl : (FloatKind.f32.format.order x 0 == some .lt) with
  | true =>
    have HF : Hid (absA x = Op.negFloat .f32 x) := Lib.hid (by unfold absA; rw [if_pos hl])
    have hu : ∀ w, (Op.unary .neg (.float .f32 x)).run Try.prog w = .ok (.float .f32 (Op.negFloat .f32 x)) w := fun _ => rfl
    go_enter Try.func39, Try.ntmps39
    go_wp2
    go_ret
    rw [HF.out]
    exact .mk0
  | false =>
    have HF : Hid (absA x = x) := Lib.hid (by unfold absA; rw [if_neg (by rw [hl]; simp)])
    go_enter Try.func39, Try.ntmps39
    go_wp2
    go_ret
    rw [HF.out]
    exact .mk0
set_option maxHeartbeats 400000 in
theorem l07Size_all (x : Nat) (w : World) : Calls Try.prog 45 #[.float .f32 x] w (Quiet (.float .f32 (sizA x)) w) := by
  cases hl : (FloatKind.f32.format.order x 0 == some .lt || FloatKind.f32.format.order x 0 == some .eq) with
  | true =>
    have HF : Hid (sizA x = fsub 0 x) := Lib.hid (by unfold sizA; rw [if_pos hl])
    have hs : floatBits .sub .f32 0 x = some (fsub 0 x) := by
      have hn : isNan single x = false := by
        cases hn : isNan single x with
        | false => rfl
        | true =>
          rw [order_nan_left (f := FloatKind.f32.format) 0 hn] at hl
          simp at hl
      show single.sub 0 x = some (fsub 0 x)
      cases hf : isFin single x with
      | true => exact (fsub_run zero_notNan hf).1
      | false =>
        unfold fsub
        have hz : single.read 0 = .number false 0 (-149) := by decide +kernel
        rcases read_notNan hn with ⟨m, e, hr⟩ | hr
        · exfalso
          unfold isFin at hf
          rw [hr] at hf
          simp at hf
        · unfold Format.sub
          rw [hz, hr]
          rfl
    have e1 := fun w => run_float_arith (P := Try.prog) w .sub 31 .f32 _ _ _ hs
    clear hs
    go_enter Try.func45, Try.ntmps45
    go_wp2
    go_ret
    rw [HF.out]
    exact .mk0
  | false =>
    have HF : Hid (sizA x = x) := Lib.hid (by unfold sizA; rw [if_neg (by rw [hl]; simp)])
    go_enter Try.func45, Try.ntmps45
    go_wp2
    go_ret
    rw [HF.out]
    exact .mk0

set_option maxHeartbeats 400000 in
theorem areFinite1_any (x : Nat) (w : World) : Calls Try.prog 94 #[.float .f32 x] w (Quiet (.bool (!isFin single x)) w) := by
  have HC := Lib.hid fun W => IsFinite_any x W
  generalize isFin single x = b at *
  go_enter Try.func94, Try.ntmps94
  go_wp2_with (go_at_call 40; refine (HC.out _).mono ?_; rintro e w' ⟨rfl, n, rfl⟩)
  go_ret
  exact .mk _
set_option maxHeartbeats 400000 in
theorem areFinite_any (A : Option Addr) (xs : List Nat) (c : Nat) (w : World) (hx : xs.length ≤ 9223372036854775807) (h : Rd w w.heap.size A (fl xs)) :
    Calls Try.prog 89 #[.slice A xs.length c] w (Quiet (.bool (xs.all (isFin single))) w) := by
  have HC := Lib.hid fun w h => ContainsFunc_fl 94 (.inr (.inl rfl)) (fun x => !isFin single x) areFinite1_any A xs c w hx h
  have HA : Hid ((!xs.any fun x => !isFin single x) = xs.all (isFin single)) := Lib.hid (by
    rw [List.any_eq_not_all_not, Bool.not_not]
    congr 1
    funext x
    rw [Bool.not_not])
  go_enter Try.func89, Try.ntmps89
  go_wp2_with (go_at_call 58; refine (HC.out _ h).mono ?_; rintro e w' ⟨rfl, n, rfl⟩)
  go_ret
  exact ⟨retB HA.out, n, rfl⟩

/-- rows of n + 1 numbers each, handed about by a row of slices -/
structure MR (W : World) (base n R : Nat) (bl cp : Nat → Nat) (g : Nat → Nat → Nat) : Prop where
  o : ∀ r, r < n → W.cell? ⟨R, r, none⟩ = some (.slice (some ⟨bl r, 0, none⟩) (n + 1) (cp r))
  fo : ∀ r, r < n → W.frozen? ⟨R, r, none⟩ = false
  c : ∀ r c, r < n → c ≤ n → W.cell? ⟨bl r, c, none⟩ = some (.float .f32 (g r c))
  fc : ∀ r c, r < n → c ≤ n → W.frozen? ⟨bl r, c, none⟩ = false
  ne : ∀ r, r < n → bl r ≠ R
  inj : ∀ r s, r < n → s < n → bl r = bl s → r = s
  loR : 0 < n → base ≤ R
  lo : ∀ r, r < n → base ≤ bl r
variable {W W' : World} {base n R : Nat} {bl cp : Nat → Nat} {g : Nat → Nat → Nat}
theorem MR.lt (h : MR W base n R bl cp g) {r : Nat} (hr : r < n) : bl r < W.heap.size := lt_of_cell (a := ⟨bl r, 0, none⟩) (h.c r 0 hr (Nat.zero_le _))
theorem MR.ltR (h : MR W base n R bl cp g) {r : Nat} (hr : r < n) : R < W.heap.size := lt_of_cell (a := ⟨R, r, none⟩) (h.o r hr)
theorem MR.keep (h : MR W base n R bl cp g) (hb : Below W.heap.size W W') : MR W' base n R bl cp g :=
  ⟨fun r hr => keepC hb (h.o r hr), fun r hr => (hb.frozen (p := ⟨R, r, none⟩) (h.ltR hr)).trans (h.fo r hr), fun r c hr hc => keepC hb (h.c r c hr hc), fun r c hr hc => (hb.frozen (p := ⟨bl r, c, none⟩) (h.lt hr)).trans (h.fc r c hr hc), h.ne, h.inj, h.loR, h.lo⟩
theorem MR.drewN (h : MR W base n R bl cp g) (m : Nat) : MR (W.drewN m) base n R bl cp g := ⟨h.o, h.fo, h.c, h.fc, h.ne, h.inj, h.loR, h.lo⟩
theorem MR.set (h : MR W base n R bl cp g) {r c : Nat} (hr : r < n) (hc : c ≤ n) (v : Nat) : MR (W.setCell ⟨bl r, c, none⟩ (.float .f32 v)) base n R bl cp (setM g r c v) := by
  refine ⟨fun s hs => ?_, fun s hs => ?_, fun s d hs hd => ?_, fun s d hs hd => ?_, h.ne, h.inj, h.loR, h.lo⟩
  · rw [World.cell?_setCell_other _ _ _ _ (fun e => h.ne r hr (by injection e))]
    exact h.o s hs
  · rw [World.frozen?_setCell]
    exact h.fo s hs
  · unfold setM
    by_cases he : s = r ∧ d = c
    · rw [if_pos he, he.1, he.2]
      exact World.cell?_setCell_same _ _ _ (h.c r c hr hc)
    · rw [if_neg he, World.cell?_setCell_other _ _ _ _ (fun e => he (by
        injection e with e1 e2
        exact ⟨(h.inj r s hr hs e1).symm, e2.symm⟩))]
      exact h.c s d hs hd
  · rw [World.frozen?_setCell]
    exact h.fc s d hs hd
def swapN (f : Nat → Nat) (k p : Nat) : Nat → Nat := fun r => if r = k then f p else if r = p then f k else f r
theorem MR.swap (h : MR W base n R bl cp g) {k p : Nat} (hk : k < n) (hp : p < n) :
    MR ((W.setCell ⟨R, k, none⟩ (.slice (some ⟨bl p, 0, none⟩) (n + 1) (cp p))).setCell ⟨R, p, none⟩ (.slice (some ⟨bl k, 0, none⟩) (n + 1) (cp k))) base n R (swapN bl k p) (swapN cp k p) (swapM g k p) := by
  have hsw : ∀ s, s < n → ∃ t, t < n ∧ swapN bl k p s = bl t ∧ swapN cp k p s = cp t ∧ ∀ c, swapM g k p s c = g t c := by
    intro s hs
    unfold swapN swapM
    by_cases h1 : s = k
    · exact ⟨p, hp, by rw [if_pos h1], by rw [if_pos h1], fun c => by rw [if_pos h1]⟩
    · by_cases h2 : s = p
      · exact ⟨k, hk, by rw [if_neg h1, if_pos h2], by rw [if_neg h1, if_pos h2], fun c => by rw [if_neg h1, if_pos h2]⟩
      · exact ⟨s, hs, by rw [if_neg h1, if_neg h2], by rw [if_neg h1, if_neg h2], fun c => by rw [if_neg h1, if_neg h2]⟩
  have hok := h.o k hk
  have hop : (W.setCell ⟨R, k, none⟩ (.slice (some ⟨bl p, 0, none⟩) (n + 1) (cp p))).cell? ⟨R, p, none⟩ = some (.slice (some ⟨bl p, 0, none⟩) (n + 1) (cp p)) := by
    by_cases hkp : k = p
    · subst hkp
      exact World.cell?_setCell_same _ _ _ hok
    · rw [World.cell?_setCell_other _ _ _ _ (fun e => hkp (by injection e))]
      exact h.o p hp
  refine ⟨fun s hs => ?_, fun s hs => ?_, fun s d hs hd => ?_, fun s d hs hd => ?_, fun s hs => ?_, fun s t hs ht e => ?_, h.loR, fun s hs => ?_⟩
  · by_cases h2 : s = p
    · subst h2
      rw [World.cell?_setCell_same _ _ _ hop]
      unfold swapN
      by_cases h1 : s = k
      · rw [if_pos h1, if_pos h1, h1]
      · rw [if_neg h1, if_pos rfl, if_neg h1, if_pos rfl]
    · rw [World.cell?_setCell_other _ _ _ _ (fun e => h2 (by injection e with _ e2; exact e2.symm))]
      by_cases h1 : s = k
      · subst h1
        rw [World.cell?_setCell_same _ _ _ hok]
        unfold swapN
        rw [if_pos rfl, if_pos rfl]
      · rw [World.cell?_setCell_other _ _ _ _ (fun e => h1 (by injection e with _ e2; exact e2.symm))]
        unfold swapN
        rw [if_neg h1, if_neg h2, if_neg h1, if_neg h2]
        exact h.o s hs
  · rw [World.frozen?_setCell, World.frozen?_setCell]
    exact h.fo s hs
  · obtain ⟨t, ht, e1, e2, e3⟩ := hsw s hs
    rw [e1, e3, World.cell?_setCell_other _ _ _ _ (fun e => h.ne t ht (by injection e with e1; exact e1.symm)), World.cell?_setCell_other _ _ _ _ (fun e => h.ne t ht (by injection e with e1; exact e1.symm))]
    exact h.c t d ht hd
  · obtain ⟨t, ht, e1, e2, e3⟩ := hsw s hs
    rw [e1, World.frozen?_setCell, World.frozen?_setCell]
    exact h.fc t d ht hd
  · obtain ⟨t, ht, e1, e2, e3⟩ := hsw s hs
    rw [e1]
    exact h.ne t ht
  · unfold swapN at e
    by_cases a1 : s = k
    · rw [if_pos a1] at e
      by_cases b1 : t = k
      · omega
      · rw [if_neg b1] at e
        by_cases b2 : t = p
        · rw [if_pos b2] at e
          have := h.inj _ _ hp hk e
          omega
        · rw [if_neg b2] at e
          have := h.inj _ _ hp ht e
          omega
    · rw [if_neg a1] at e
      by_cases a2 : s = p
      · rw [if_pos a2] at e
        by_cases b1 : t = k
        · rw [if_pos b1] at e
          have := h.inj _ _ hk hp e
          omega
        · rw [if_neg b1] at e
          by_cases b2 : t = p
          · omega
          · rw [if_neg b2] at e
            have := h.inj _ _ hk ht e
            omega
      · rw [if_neg a2] at e
        by_cases b1 : t = k
        · rw [if_pos b1] at e
          have := h.inj _ _ hs hp e
          omega
        · rw [if_neg b1] at e
          by_cases b2 : t = p
          · rw [if_pos b2] at e
            have := h.inj _ _ hs hk e
            omega
          · rw [if_neg b2] at e
            exact h.inj _ _ hs ht e
  · obtain ⟨t, ht, e1, e2, e3⟩ := hsw s hs
    rw [e1]
    exact h.lo t ht
end Go.Proofs.Ytlhepgdheopgaaa

namespace Go.Proofs.Ytlhepgdheopgaaa
open Go Go.RowKit Ieee
attribute [local go_sem] run_store_float

theorem op_runs {P : Program} (op : BinOp) (hop : op = .add ∨ op = .sub ∨ op = .mul ∨ op = .quo) (t : TypeId) {x x' : Nat} (hx : sameN x x') : ∃ (nd : Nat → World → Nat) (dm : Nat → Nat), (∀ y y' w, sameN y y' → sameN (nd y w) (can op x' y')) ∧ ∀ y w, (binOp op t (.float .f32 x) (.float .f32 y)).run P w = .ok (.float .f32 (nd y w)) (w.drewN (dm y)) :=
  ⟨fun y w => opv op x y w, fun y => opn op x y, fun _ _ w h => sameN_op hop hx h w, fun y w => run_opv op hop t x y w⟩
theorem op_run {P : Program} (op : BinOp) (hop : op = .add ∨ op = .sub ∨ op = .mul ∨ op = .quo) (t : TypeId) {x x' y y' : Nat} (hx : sameN x x') (hy : sameN y y') : ∃ (nd : World → Nat) (dm : Nat), (∀ w, sameN (nd w) (can op x' y')) ∧ ∀ w, (binOp op t (.float .f32 x) (.float .f32 y)).run P w = .ok (.float .f32 (nd w)) (w.drewN dm) :=
  ⟨fun w => opv op x y w, opn op x y, fun w => sameN_op hop hx hy w, fun w => run_opv op hop t x y w⟩
theorem MR.swapCell {W : World} {base n R : Nat} {bl cp : Nat → Nat} {g : Nat → Nat → Nat} (h : MR W base n R bl cp g) {k p : Nat} (hk : k < n) (hp : p < n) :
    (W.setCell ⟨R, k, none⟩ (.slice (some ⟨bl p, 0, none⟩) (n + 1) (cp p))).cell? ⟨R, p, none⟩ = some (.slice (some ⟨bl p, 0, none⟩) (n + 1) (cp p)) := by
  by_cases hkp : k = p
  · subst hkp
    exact World.cell?_setCell_same _ _ _ (h.o k hk)
  · rw [World.cell?_setCell_other _ _ _ _ (fun e => hkp (by injection e))]
    exact h.o p hp
theorem MR.far {W : World} {base n R : Nat} {bl cp : Nat → Nat} {g : Nat → Nat → Nat} (h : MR W base n R bl cp g) (a : Addr) (v : Value) (hf : ∀ r, r < n → a.block ≠ R ∧ a.block ≠ bl r) : MR (W.setCell a v) base n R bl cp g :=
  ⟨fun r hr => (World.cell?_setCell_other _ _ _ _ (fun e => (hf r hr).1 (by rw [e]))).trans (h.o r hr), fun r hr => (by rw [World.frozen?_setCell]; exact h.fo r hr), fun r c hr hc => (World.cell?_setCell_other _ _ _ _ (fun e => (hf r hr).2 (by rw [e]))).trans (h.c r c hr hc), fun r c hr hc => (by rw [World.frozen?_setCell]; exact h.fc r c hr hc), h.ne, h.inj, h.loR, h.lo⟩
/-- what solving gives: numbers of the call's own, and whether there are some -/
def svOut (S : Option (List Nat)) (base : Nat) (w : World) : Ending → World → Prop := fun e w' =>
  ∃ A c ys, e = .returned (.tuple #[.slice A ys.length c, .bool S.isSome]) ∧ (∀ xs, S = some xs → ys = xs) ∧ (∀ a, A = some a → base ≤ a.block) ∧ Rd w' w'.heap.size A (fl ys) ∧ Below base w w'
theorem svOut_none {S : Option (List Nat)} {base : Nat} {w w' : World} (h : S = none) (hb : Below base w w') : svOut S base w (.returned (.tuple #[.slice none 0 0, .bool false])) w' := by
  subst h
  exact ⟨none, 0, [], rfl, fun xs h => (by cases h), fun a h => (by cases h), Rd.nil, hb⟩
set_option maxRecDepth 100000 in
set_option maxHeartbeats 3200000 in
theorem solveRows_any (n R cap base : Nat) (bl cp : Nat → Nat) (g C0 : Nat → Nat → Nat) (w : World) (hn : n ≤ 12) (hcap : n ≤ cap ∧ cap ≤ 9223372036854775807) (hm : MR w base n R bl cp g) (hs : sameM n g C0) (hbase : base ≤ w.heap.size) :
    Calls Try.prog 80 #[.slice (some ⟨R, 0, none⟩) n cap] w (svOut (solM C0 n) base w) := by
  obtain ⟨i0, hi0, hz0, hz1, hz2⟩ := info_parts info_f32
  have hmk := run_make_row (P := Try.prog) 24 31 i0 (.float .f32 0) Try.underlying24 hi0 hz0 hz1 rfl .i64 .i64 n (by rw [hz2]; omega) (by omega)
  have HA := Lib.hid fun x W => absolute_all x W
  have START := Lib.hid (show MR w base n R bl cp g ∧ sameM n g C0 ∧ Below base w w from ⟨hm, hs, Below.refl _ _⟩)
  have HBAD : Hid (∀ k C, k < n → stageM C0 n k = some C → badP (C (bestM C k (n - k)) k) = true → solM C0 n = none) := Lib.hid fun k C hk h hb => sol_none (stage_bad h hb hk)
  have HGOOD : Hid (∀ k C, stageM C0 n k = some C → badP (C (bestM C k (n - k)) k) = false → stageM C0 n (k + 1) = some (elimM (swapM C k (bestM C k (n - k))) k n (k + 1))) := Lib.hid fun k C h hb => stage_good h hb
  have HSOME : Hid (∀ C, stageM C0 n n = some C → solM C0 n = if ((List.range n).map (backM C n n)).all (isFin single) = true then some ((List.range n).map (backM C n n)) else none) := Lib.hid fun C h => sol_some h
  have HST0 : Hid (stageM C0 n 0 = some C0) := Lib.hid rfl
  have HFIN := Lib.hid fun A xs c W h h' => areFinite_any A xs c W h h'
  obtain ⟨c1, c2⟩ := hcap
  clear hm hs hi0 hz0 hz1 hz2
  generalize stageM C0 n = stg at *
  generalize solM C0 n = sol at *
  go_enter Try.func80, Try.ntmps80
  go_wp2_with fail
  go_loopw [21] (fun kv wr => ∃ (k : Nat) (bl cp : Nat → Nat) (g C : Nat → Nat → Nat), k ≤ n ∧ kv = .int .i64 k ∧ stg k = some C ∧ MR wr base n R bl cp g ∧ sameM n g C ∧ Below base w wr) (fun kv _ => n - (intOf kv).toNat)
  case atStart => exact ⟨0, bl, cp, g, C0, Nat.zero_le _, rfl, HST0.out, START.out.1, START.out.2.1, START.out.2.2⟩
  case round =>
    clear START HST0
    clear bl cp g
    obtain ⟨k, bl, cp, g, C, hk, rfl, hst, hm, hs, hb⟩ := hrel
    rename World => wr
    have M := Lib.hid hm
    have S := Lib.hid hs
    have B := Lib.hid hb
    have ST := Lib.hid hst
    clear hm hs hb hst
    by_cases hkn : k < n
    · have HBL : Hid (∀ j, k + j ≤ n → bestM g k j < n ∧ k ≤ bestM g k j) := Lib.hid fun j hj => bestM_lt hkn j hj
      have HBS : Hid (∀ j, bestM g k (j + 1) = if bigB (g (k + j) k) (g (bestM g k j) k) = true then k + j else bestM g k j) := Lib.hid fun j => rfl
      have HB0 : Hid (bestM g k 0 = k) := Lib.hid rfl
      have HBB : Hid (∀ x y, (FloatKind.f32.format.order (absA x) (absA y) == some .gt) = bigB x y) := Lib.hid fun x y => rfl
      go_wp2_with fail
      go_loopw [6, 7] (fun bv rv wk => ∃ j m : Nat, k + j ≤ n ∧ rv = .int .i64 ((k + j : Nat) : Int) ∧ bv = .int .i64 ((bestM g k j : Nat) : Int) ∧ wk = wr.drewN m) (fun _ rv _ => n - (intOf rv).toNat)
      case atStart => exact ⟨0, 0, by omega, rfl, by rw [HB0.out], rfl⟩
      case round =>
        obtain ⟨j, m, hj, rfl, rfl, rfl⟩ := hrel
        have M' := Lib.hid (M.out.drewN m)
        generalize hWW : wr.drewN m = W at *
        have HWW := Lib.hid hWW
        clear hWW
        by_cases hjn : k + j < n
        · obtain ⟨p1, p2⟩ := HBL.out j hj
          have HBS' := Lib.hid (HBS.out j)
          generalize bestM g k j = p at *
          have x0 := M'.out.o (k + j) hjn
          have x1 := M'.out.o p p1
          have x2 := M'.out.c (k + j) k hjn (by omega)
          have x3 := M'.out.c p k p1 (by omega)
          have hbb := HBB.out (g (k + j) k) (g p k)
          generalize hr : k + j = r at *
          have HR := Lib.hid hr
          have hrk : (r : Int) < (n : Int) := by omega
          have hpn : (p : Int) < (n : Int) := by omega
          have hkn1 : (k : Int) < ((n + 1 : Nat) : Int) := by omega
          clear hr
          generalize hc : bestM g k (j + 1) = p' at *
          have HC := Lib.hid hc
          clear hc
          generalize g r k = gr at *
          generalize g p k = gp at *
          cases hbig : bigB gr gp with
          | true =>
            rw [hbig] at hbb
            have HP : Hid (p' = r) := Lib.hid (by rw [HBS'.out, if_pos hbig])
            clear HBS' hbig
            go_wp2_with fail
            go_quiet ((go_at_call 39; first | exact quiet_one (HA.out _ _) | exact quiet_add (HA.out _ _)))
            go_wp2_with fail
            go_roundw
            case rel => exact ⟨j + 1, _, by have := HR.out; omega, by rw [← HR.out]; go_num, by rw [HC.out, HP.out], by rw [← HWW.out]; simp only [World.drewN_drewN]; rfl⟩
            case measure => simp [intOf]; omega
          | false =>
            rw [hbig] at hbb
            have HP : Hid (p' = p) := Lib.hid (by rw [HBS'.out, if_neg (by rw [hbig]; simp)])
            clear HBS' hbig
            go_wp2_with fail
            go_quiet ((go_at_call 39; first | exact quiet_one (HA.out _ _) | exact quiet_add (HA.out _ _)))
            go_wp2_with fail
            go_roundw
            case rel => exact ⟨j + 1, _, by have := HR.out; omega, by rw [← HR.out]; go_num, by rw [HC.out, HP.out], by rw [← HWW.out]; simp only [World.drewN_drewN]; rfl⟩
            case measure => simp [intOf]; omega
        · have hjk : j = n - k := by omega
          obtain ⟨p1, p2⟩ := HBL.out j hj
          have HBC : Hid (bestM C k (n - k) = bestM g k j) := Lib.hid (by rw [hjk]; exact (bestM_same S.out hkn _ (by omega)).symm)
          have HPV : Hid (badP (g (bestM g k j) k) = badP (C (bestM C k (n - k)) k)) := Lib.hid (by rw [HBC.out]; exact badP_same (S.out _ _ p1 (by omega)))
          have HBAD' := Lib.hid (HBAD.out k C hkn ST.out)
          have HGOOD' := Lib.hid (HGOOD.out k C ST.out)
          have HBW := Lib.hid (below_drewN B.out m)
          rw [HWW.out] at HBW
          rw [← HPV.out, HBC.out] at HGOOD'
          rw [← HPV.out] at HBAD'
          clear HBL HBS HB0 HBB HBAD HGOOD HPV HBC hjk ST
          generalize bestM g k j = p at *
          have hkn' : (k : Int) < (n : Int) := by omega
          have hpn : (p : Int) < (n : Int) := by omega
          have hkn1 : (k : Int) < ((n + 1 : Nat) : Int) := by omega
          have x1 := M'.out.o p p1
          have x3 := M'.out.c p k p1 (by omega)
          have hbp : badP (g p k) = ((FloatKind.f32.format.order (g p k) 0 == some .eq) || (FloatKind.f32.format.order (g p k) (g p k) != some .eq)) := rfl
          cases hz : (FloatKind.f32.format.order (g p k) 0 == some .eq) with
          | true =>
            rw [hz, Bool.true_or] at hbp
            have HN := Lib.hid (HBAD'.out hbp)
            clear hbp HBAD' HGOOD'
            generalize g p k = gp at *
            go_wp2_with fail
            refine bodyPost_ret (v := .tuple #[.slice none 0 0, .bool false]) (by simp [results, Try.results80, go_sem]) rfl ?_
            exact svOut_none HN.out HBW.out
          | false =>
            cases hq : (FloatKind.f32.format.order (g p k) (g p k) != some .eq) with
            | true =>
              rw [hz, hq] at hbp
              have HN := Lib.hid (HBAD'.out hbp)
              clear hbp HBAD' HGOOD'
              generalize g p k = gp at *
              go_wp2_with fail
              refine bodyPost_ret (v := .tuple #[.slice none 0 0, .bool false]) (by simp [results, Try.results80, go_sem]) rfl ?_
              exact svOut_none HN.out HBW.out
            | false =>
              rw [hz, hq] at hbp
              have HST := Lib.hid (HGOOD'.out hbp)
              clear hbp HBAD' HGOOD'
              have x0 := M'.out.o k hkn
              have f0 := M'.out.fo k hkn
              have f1 := M'.out.fo p p1
              have x5 := M'.out.swapCell hkn p1
              have HSM := Lib.hid (swapM_same S.out hkn p1)
              have HSW := Lib.hid (M'.out.swap hkn p1)
              have HBX : Hid (∀ b o v, base ≤ b → Below base w (W.setCell ⟨b, o, none⟩ v)) := Lib.hid fun b o v h => HBW.out.setCell h v
              have HBR := Lib.hid (M'.out.loR (by omega))
              generalize g p k = gp at *
              go_wp2_with fail
              go_region
              generalize hW2 : World.drew _ = W2
              have M2 : Hid (MR W2 base n R (swapN bl k p) (swapN cp k p) (swapM g k p)) := by rw [← hW2]; exact Lib.hid (HSW.out.drewN 1)
              have B2 : Hid (Below base w W2) := by rw [← hW2]; exact Lib.hid (below_drewN ((HBW.out.setCell HBR.out _).setCell HBR.out _) 1)
              clear hW2 HSW HBX HBW x0 x1 x3 x5 f0 f1 hz hq M S B M' HWW
              have HE0 := Lib.hid (elimM_start (swapM C k p) k)
              generalize swapN bl k p = bl2 at *
              generalize swapN cp k p = cp2 at *
              generalize swapM g k p = g2 at *
              generalize swapM C k p = C2 at *
              have HL0 : Hid (sameM n g2 (elimM C2 k (k + 1) (k + 1))) := Lib.hid (by rw [HE0.out]; exact HSM.out)
              have hk1 : (k : Int) + 1 ≤ (n : Int) := by omega
              have hk2 : (k : Int) + 1 ≤ (cap : Int) := by omega
              have hk3 : k + 1 ≤ n := hkn
              have hk4 : k + 1 ≤ cap := by omega
              have hwk : IntKind.i64.wrap ((k : Int) + 1) = ((k + 1 : Nat) : Int) := by rw [show (k : Int) + 1 = ((k + 1 : Nat) : Int) by push_cast; rfl]; exact IntWalk.i64_in _ (by omega)
              clear HE0 HSM
              by_cases hlast : cap = k + 1
              · have h0 : ¬ ((0 : Int) < (n : Int) - ((k : Int) + 1)) := by omega
                have hn1 : n = k + 1 := by omega
                have HL1 : Hid (sameM n g2 (elimM C2 k n (k + 1))) := Lib.hid fun a b ha hb => by
                  have := HL0.out a b ha hb
                  have e : elimM C2 k n (k + 1) = elimM C2 k (k + 1) (k + 1) := congrArg (fun z => elimM C2 k z (k + 1)) hn1
                  rw [e]
                  exact this
                have hl2 : (cap = k + 1) = True := eq_true hlast
                have HN1 := Lib.hid hn1
                clear HL0 hn1 hlast
                go_wp2_with fail
                go_loopw [82] (fun iv wq => iv = .int .i64 0 ∧ wq = W2) (fun iv _ => 0)
                case atStart => exact ⟨rfl, rfl⟩
                case round =>
                  obtain ⟨rfl, rfl⟩ := hrel
                  go_wp2_with fail
                  go_roundw
                  case rel => exact ⟨k + 1, bl2, cp2, g2, _, hk3, by go_num, HST.out, M2.out, HL1.out, B2.out⟩
                  case measure => have := HN1.out; simp [intOf]; omega
              · go_wp2_with fail
                go_loopw [82] (fun iv wq => ∃ (i : Nat) (g3 : Nat → Nat → Nat), k + 1 + i ≤ n ∧ iv = .int .i64 i ∧ MR wq base n R bl2 cp2 g3 ∧ sameM n g3 (elimM C2 k (k + 1 + i) (k + 1)) ∧ Below base w wq) (fun iv _ => n - (intOf iv).toNat)
                case atStart => exact ⟨0, g2, hk3, rfl, M2.out, HL0.out, B2.out⟩
                case round =>
                  clear M2 HL0 B2 g2
                  obtain ⟨i, g3, hi, rfl, hm3, hs3, hb3⟩ := hrel
                  rename World => wq
                  have M3 := Lib.hid hm3
                  have S3 := Lib.hid hs3
                  have B3 := Lib.hid hb3
                  clear hm3 hs3 hb3
                  by_cases hin : k + 1 + i < n
                  · have y0 := M3.out.o (k + 1 + i) hin
                    have y1 := M3.out.c (k + 1 + i) k hin (by omega)
                    have y2 := M3.out.o k hkn
                    have y3 := M3.out.c k k hkn (by omega)
                    have s1 := S3.out (k + 1 + i) k hin (by omega)
                    have s2 := S3.out k k hkn (by omega)
                    rw [elimM_left] at s1
                    rw [elimM_low] at s2
                    obtain ⟨nd, dm, hnd, hrun⟩ := op_run (P := Try.prog) .quo (by simp) 31 s1 s2
                    have HND := Lib.hid hnd
                    have HEH := Lib.hid fun c => elimM_here C2 k (k + 1 + i) c
                    have HEL := Lib.hid fun c d => elimM_low C2 k (k + 1 + i) c d
                    have HFM : Hid (facM C2 k (k + 1 + i) = can .quo (C2 (k + 1 + i) k) (C2 k k)) := Lib.hid rfl
                    clear hnd s1 s2
                    go_wp2_with fail
                    go_region
                    have HF := Lib.hid (HND.out wq.drew)
                    generalize nd wq.drew = f at *
                    rw [← HFM.out] at HF
                    have M4 : Hid (MR (wq.drewN (1 + dm)) base n R bl2 cp2 g3) := Lib.hid (M3.out.drewN _)
                    have B4 : Hid (Below base w (wq.drewN (1 + dm))) := Lib.hid (below_drewN B3.out _)
                    generalize wq.drewN (1 + dm) = W4 at *
                    clear HND hrun y0 y1 y2 y3 M3 B3 HFM nd
                    have HBW : Hid (∀ W b o v, Below base w W → base ≤ b → Below base w (W.setCell ⟨b, o, none⟩ v)) := Lib.hid fun W b o v h hb => h.setCell hb v
                    go_wp2_with fail
                    go_loopw [12] (fun cv wc => ∃ (c : Nat) (g4 : Nat → Nat → Nat), k + 1 + c ≤ n + 1 ∧ cv = .int .i64 ((k + 1 + c : Nat) : Int) ∧ MR wc base n R bl2 cp2 g4 ∧ sameM n g4 (elimM C2 k (k + 1 + i) (k + 1 + c)) ∧ Below base w wc) (fun cv _ => n + 1 - (intOf cv).toNat)
                    case atStart => exact ⟨0, g3, by omega, rfl, M4.out, S3.out, B4.out⟩
                    case round =>
                      clear M4 S3 B4
                      obtain ⟨c, g4, hc, rfl, hm4, hs4, hb4⟩ := hrel
                      rename World => wc
                      have M5 := Lib.hid hm4
                      have S5 := Lib.hid hs4
                      have B5 := Lib.hid hb4
                      clear hm4 hs4 hb4
                      by_cases hcn : k + 1 + c ≤ n
                      · have y0 := M5.out.c (k + 1 + i) (k + 1 + c) hin hcn
                        have y1 := M5.out.fc (k + 1 + i) (k + 1 + c) hin hcn
                        have y2 := M5.out.o k hkn
                        have y3 := M5.out.c k (k + 1 + c) hkn hcn
                        have s1 := S5.out (k + 1 + i) (k + 1 + c) hin hcn
                        have s2 := S5.out k (k + 1 + c) hkn hcn
                        rw [HEH.out] at s1
                        rw [HEL.out] at s2
                        have HLO := Lib.hid (M5.out.lo (k + 1 + i) hin)
                        obtain ⟨nd, dm2, hnd, hrun⟩ := op_run (P := Try.prog) .mul (by simp) 31 HF.out s2
                        obtain ⟨ne, de, hne, hrun2⟩ := op_runs (P := Try.prog) .sub (by simp) 31 s1
                        have HSET : Hid (∀ W v, MR W base n R bl2 cp2 g4 → sameN v (can .sub (C2 (k + 1 + i) (k + 1 + c)) (can .mul (facM C2 k (k + 1 + i)) (C2 k (k + 1 + c)))) → MR (W.setCell ⟨bl2 (k + 1 + i), k + 1 + c, none⟩ (.float .f32 v)) base n R bl2 cp2 (setM g4 (k + 1 + i) (k + 1 + c) v) ∧ sameM n (setM g4 (k + 1 + i) (k + 1 + c) v) (elimM C2 k (k + 1 + i) (k + 1 + c + 1))) := Lib.hid fun W v hm hv => ⟨hm.set hin hcn v, elimM_step S5.out (by omega) (by omega) hv⟩
                        have HNE : Hid (∀ w1 w2, sameN (ne (nd w1) w2) (can .sub (C2 (k + 1 + i) (k + 1 + c)) (can .mul (facM C2 k (k + 1 + i)) (C2 k (k + 1 + c))))) := Lib.hid fun w1 w2 => hne _ _ w2 (hnd w1)
                        clear s1 s2 hnd hne
                        generalize g4 (k + 1 + i) (k + 1 + c) = gv at *
                        generalize g4 k (k + 1 + c) = gk at *
                        generalize hcc : k + 1 + c = cc at *
                        have HCC := Lib.hid hcc
                        have hcc2 : (cc : Int) ≤ (n : Int) := by omega
                        have hcc3 : (cc : Int) < ((n + 1 : Nat) : Int) := by omega
                        clear hcc
                        go_wp2_with fail
                        go_region
                        have HQ := HSET.out _ _ (M5.out.drewN (1 + dm2 + de (nd wc.drew))) (HNE.out wc.drew (wc.drewN (1 + dm2)))
                        generalize hW6 : World.setCell _ _ _ = W6
                        have B6 : Hid (Below base w W6) := by rw [← hW6]; exact Lib.hid (HBW.out _ _ _ _ (below_drewN B5.out _) HLO.out)
                        rw [hW6] at HQ
                        have Q6 := Lib.hid HQ
                        clear HQ hW6 HSET HNE hrun hrun2 y0 y1 y2 y3 HLO
                        go_wp2_with fail
                        go_roundw
                        case rel => exact ⟨c + 1, _, by have := HCC.out; omega, by rw [← HCC.out]; go_num, Q6.out.1, by rw [← Nat.add_assoc, HCC.out]; exact Q6.out.2, B6.out⟩
                        case measure => have := HCC.out; simp [intOf]; omega
                      · have HS7 : Hid (sameM n g4 (elimM C2 k (k + 1 + (i + 1)) (k + 1))) := Lib.hid fun a b ha hb => by
                          rw [← Nat.add_assoc, ← elimM_row C2 k (k + 1 + i) n a b hb, show n + 1 = k + 1 + c by omega]
                          exact S5.out a b ha hb
                        have hcc1 : k + 1 + c = n + 1 := by omega
                        rw [hcc1]
                        have hcc2 : ¬ (((n + 1 : Nat) : Int) ≤ (n : Int)) := by omega
                        go_wp2_with fail
                        go_roundw
                        case rel => exact ⟨i + 1, g4, by omega, by go_num, M5.out, HS7.out, B5.out⟩
                        case measure => simp [intOf]; omega
                  · have hin2 : k + 1 + i = n := by omega
                    have HS8 : Hid (sameM n g3 (elimM C2 k n (k + 1))) := by
                      have := S3.out
                      rw [hin2] at this
                      exact Lib.hid this
                    have hin3 : ¬ ((i : Int) < (n : Int) - ((k : Int) + 1)) := by omega
                    go_wp2_with fail
                    go_roundw
                    case rel => exact ⟨k + 1, bl2, cp2, g3, _, hk3, by go_num, HST.out, M3.out, HS8.out, B3.out⟩
                    case measure => simp [intOf]; omega
    · obtain rfl : n = k := by omega
      have HSOL := Lib.hid (HSOME.out C ST.out)
      have hsz := B.out.size
      have HB0 : Hid (base ≤ wr.heap.size) := Lib.hid (by omega)
      clear HSOME HBAD HGOOD HA
      go_upto_region 26 with fail
      generalize hW1 : World.alloc wr _ = W1
      have R1 : Hid (W1.rowIs wr.heap.size 31 n (fun i => .float .f32 (backM C n 0 i))) := by rw [← hW1]; exact Lib.hid (World.rowIs_made wr (.float .f32 0) n _)
      have M1 : Hid (MR W1 base n R bl cp g) := by rw [← hW1]; exact Lib.hid (M.out.keep (below_al (Below.refl _ _) _))
      have B1 : Hid (Below base w W1) := by rw [← hW1]; exact Lib.hid (B.out.alloc HB0.out _)
      have HX : Hid (∀ r, r < n → wr.heap.size ≠ R ∧ wr.heap.size ≠ bl r) := Lib.hid fun r hr => ⟨by have := M.out.ltR hr; omega, by have := M.out.lt hr; omega⟩
      clear hW1 M B hmk hsz
      generalize wr.heap.size = X at *
      go_wp2_with fail
      go_loopw [14] (fun kv wq => ∃ (j : Nat) (x : Nat → Nat), j ≤ n ∧ kv = .int .i64 ((n : Int) - 1 - (j : Int)) ∧ MR wq base n R bl cp g ∧ wq.rowIs X 31 n (fun i => .float .f32 (x i)) ∧ sameX n x (backM C n j) ∧ Below base w wq) (fun kv _ => (intOf kv + 1).toNat)
      case atStart => exact ⟨0, backM C n 0, Nat.zero_le _, by simp, M1.out, R1.out, fun i _ => sameN.refl _, B1.out⟩
      case round =>
        clear M1 R1 B1
        obtain ⟨j, x, hj, rfl, hm, hx, hs, hb⟩ := hrel
        rename World => wq
        have M := Lib.hid hm
        have RX := Lib.hid hx
        have SX := Lib.hid hs
        have B := Lib.hid hb
        clear hm hx hs hb
        by_cases hjn : j < n
        · obtain ⟨k, hk⟩ : ∃ k, k + j + 1 = n := ⟨n - j - 1, by omega⟩
          have he : (n : Int) - 1 - (j : Int) = (k : Nat) := by omega
          have hkn : k < n := by omega
          have hkn1 : (k : Int) < (n : Int) := by omega
          rw [he]
          have HBA : Hid (∀ i, backM C n (j + 1) i = if i = k then can .quo (rightM C n k (backM C n j) j) (C k k) else backM C n j i) := Lib.hid fun i => by
            show (if i = n - 1 - j then can .quo (rightM C n (n - 1 - j) (backM C n j) j) (C (n - 1 - j) (n - 1 - j)) else backM C n j i) = _
            rw [show n - 1 - j = k by omega]
          have HRS : Hid (∀ m, rightM C n k (backM C n j) (m + 1) = can .sub (rightM C n k (backM C n j) m) (can .mul (C k (k + 1 + m)) (backM C n j (k + 1 + m)))) := Lib.hid fun m => rfl
          have HR0 : Hid (rightM C n k (backM C n j) 0 = C k n) := Lib.hid rfl
          have y0 := M.out.o k hkn
          have y1 := M.out.c k n hkn (Nat.le_refl _)
          have HS0 := Lib.hid (S.out k n hkn (Nat.le_refl _))
          have HK := Lib.hid hk
          have HE := Lib.hid he
          clear hk he
          go_wp2_with fail
          go_loopw [15, 16] (fun rv cv wc => ∃ m s r : Nat, k + 1 + m ≤ n ∧ cv = .int .i64 ((k + 1 + m : Nat) : Int) ∧ rv = .float .f32 s ∧ sameN s (rightM C n k (backM C n j) m) ∧ wc = wq.drewN r) (fun _ cv _ => n - (intOf cv).toNat)
          case atStart => exact ⟨0, g k n, 0, by omega, rfl, rfl, by rw [HR0.out]; exact HS0.out, rfl⟩
          case round =>
            clear HS0 y1
            obtain ⟨m, s, r, hm, rfl, rfl, hs, rfl⟩ := hrel
            have HS := Lib.hid hs
            clear hs
            by_cases hmn : k + 1 + m < n
            · have y1 := M.out.c k (k + 1 + m) hkn (by omega)
              have y2 := RX.out.cell hmn
              have s1 := S.out k (k + 1 + m) hkn (by omega)
              have s2 := SX.out (k + 1 + m) hmn
              obtain ⟨nd, dm, hnd, hrun⟩ := op_run (P := Try.prog) .mul (by simp) 31 s1 s2
              obtain ⟨ne, de, hne, hrun2⟩ := op_runs (P := Try.prog) .sub (by simp) 31 HS.out
              have HNE : Hid (∀ w1 w2, sameN (ne (nd w1) w2) (rightM C n k (backM C n j) (m + 1))) := Lib.hid fun w1 w2 => by rw [HRS.out]; exact hne _ _ w2 (hnd w1)
              clear s1 s2 hnd hne
              generalize g k (k + 1 + m) = gk at *
              generalize x (k + 1 + m) = gx at *
              generalize hcc : k + 1 + m = cc at *
              have HCC := Lib.hid hcc
              have hcc2 : (cc : Int) < (n : Int) := by omega
              have hcc3 : (cc : Int) < ((n + 1 : Nat) : Int) := by omega
              clear hcc
              go_wp2_with fail
              go_region
              have HQ := HNE.out (wq.drewN (r + 1)) (wq.drewN (r + 1 + dm))
              generalize ne (nd (wq.drewN (r + 1))) (wq.drewN (r + 1 + dm)) = s' at *
              have HS1 := Lib.hid HQ
              clear HQ
              go_wp2_with fail
              go_roundw
              case rel => exact ⟨m + 1, s', _, by have := HCC.out; omega, by rw [← HCC.out]; go_num, rfl, HS1.out, rfl⟩
              case measure => have := HCC.out; simp [intOf]; omega
            · have hmj : m = j := by have := HK.out; omega
              have hcc : k + 1 + m = n := by omega
              have hcn : ¬ ((n : Int) < (n : Int)) := by omega
              rw [hcc]
              rw [hmj] at HS
              have y3 := M.out.c k k hkn (by omega)
              have y2 := RX.out.cell hkn
              have f2 := RX.out.frozen k
              have s1 := S.out k k hkn (by omega)
              obtain ⟨nd, dm, hnd, hrun⟩ := op_run (P := Try.prog) .quo (by simp) 31 HS.out s1
              have HND := Lib.hid hnd
              have HFAR := Lib.hid fun v r' => (M.out.drewN r').far ⟨X, k, none⟩ v (fun r hr => HX.out r hr)
              have HROW : Hid (∀ v r', ((wq.drewN r').setCell ⟨X, k, none⟩ (.float .f32 v)).rowIs X 31 n (fun i => .float .f32 (if i = k then v else x i))) := Lib.hid fun v r' => ((show (wq.drewN r').rowIs X 31 n (fun i => .float .f32 (x i)) from RX.out.of_block rfl).set k _).congr fun i _ => by split <;> rfl
              clear hnd s1 hcc hmj HRS HR0
              generalize g k k = gk at *
              generalize x k = gx at *
              go_wp2_with fail
              have HN2 := HND.out (wq.drewN r)
              generalize nd (wq.drewN r) = v at *
              refine ⟨⟨j + 1, fun i => if i = k then v else x i, by omega, (by have := HE.out; congr 1; omega), HFAR.out (.float .f32 v) _, HROW.out v _, ?_, ?_⟩, by simp [intOf]⟩
              · intro i hi
                rw [HBA.out]
                show sameN (if i = k then v else x i) _
                by_cases hik : i = k
                · rw [if_pos hik, if_pos hik]
                  exact HN2
                · rw [if_neg hik, if_neg hik]
                  exact SX.out i hi
              · exact (below_drewN B.out _).setCell (show base ≤ X from HB0.out) _
        · obtain rfl : n = j := by omega
          have hneg : ¬ ((0 : Int) ≤ (n : Int) - 1 - (n : Int)) := by omega
          have he : (n : Int) - 1 - (n : Int) = -1 := by omega
          rw [he]
          obtain ⟨a1, a2⟩ := sameX_all SX.out
          have hso := HSOL.out
          have HLX : Hid (((List.range n).map x).length = n) := Lib.hid (by simp)
          have hown := own_of_row RX.out (base := X) (Nat.le_refl _) (by unfold maxLen; omega)
          have hfl : (List.range n).map (fun i => Value.float .f32 (x i)) = fl ((List.range n).map x) := by unfold fl; rw [List.map_map]; rfl
          rw [hfl] at hown
          have HRD := Lib.hid (Rd.of_own hown)
          have HFI := Lib.hid fun W h => HFIN.out (some ⟨X, 0, none⟩) ((List.range n).map x) n W (by rw [HLX.out]; omega) h
          rw [HLX.out] at HFI
          have HIS : Hid (sol.isSome = ((List.range n).map x).all (isFin single) ∧ ∀ xs, sol = some xs → (List.range n).map x = xs) := Lib.hid (by
            rw [a1, hso]
            cases hall : ((List.range n).map (backM C n n)).all (isFin single) with
            | true => rw [if_pos rfl]; exact ⟨rfl, fun xs h => by injection h with h; rw [← h]; exact a2 hall⟩
            | false => exact ⟨rfl, fun xs h => by simp at h⟩)
          clear a1 a2 hso hown hfl HSOL HFIN he hneg
          generalize (List.range n).map x = ys at *
          generalize ys.all (isFin single) = fin at *
          go_wp2_with (go_at_call 89; refine (HFI.out _ (HRD.out.at_ (by first | exact Below.refl _ _ | exact below_dr (Below.refl _ _)))).mono ?_; rintro e w9 ⟨rfl, m9, rfl⟩)
          refine bodyPost_ret (v := .tuple #[.slice (some ⟨X, 0, none⟩) n n, .bool fin]) (by simp [results, Try.results80, go_sem]) rfl ?_
          refine ⟨some ⟨X, 0, none⟩, n, ys, by rw [HLX.out, HIS.out.1], fun xs h => HIS.out.2 xs h, fun a h => (by injection h with h; subst h; exact HB0.out), HRD.out.drewN _, below_drewN B.out _⟩
end Go.Proofs.Ytlhepgdheopgaaa

namespace Go.Proofs.Ytlhepgdheopgaaa
open Go Go.RowKit Ieee
attribute [local go_sem] run_store_float

/-- where a row begins, and where a number lies -/
def muM (n r : Nat) : Nat := r * n
def ixM (n r c : Nat) : Nat := r * n + c
/-- n rows of n numbers in block A, one behind another, and n right sides in block B -/
structure FM (W : World) (base n A B : Nat) (g : Nat → Nat → Nat) : Prop where
  a : ∀ r c, r < n → c < n → W.cell? ⟨A, ixM n r c, none⟩ = some (.float .f32 (g r c))
  fa : ∀ r c, r < n → c < n → W.frozen? ⟨A, ixM n r c, none⟩ = false
  b : ∀ r, r < n → W.cell? ⟨B, r, none⟩ = some (.float .f32 (g r n))
  fb : ∀ r, r < n → W.frozen? ⟨B, r, none⟩ = false
  ne : A ≠ B
  loA : base ≤ A
  loB : base ≤ B
variable {W W' : World} {base n A B : Nat} {g : Nat → Nat → Nat}
theorem idx_inj {n r c s d : Nat} (hc : c < n) (hd : d < n) (h : ixM n r c = ixM n s d) : r = s ∧ c = d := by
  unfold ixM at h
  rcases Nat.lt_trichotomy r s with hl | hl | hl
  · have := Nat.mul_le_mul_right n (show r + 1 ≤ s by omega)
    rw [Nat.add_mul, Nat.one_mul] at this
    omega
  · subst hl
    omega
  · have := Nat.mul_le_mul_right n (show s + 1 ≤ r by omega)
    rw [Nat.add_mul, Nat.one_mul] at this
    omega
theorem FM.ltB (h : FM W base n A B g) (hn : 0 < n) : B < W.heap.size := lt_of_cell (a := ⟨B, 0, none⟩) (h.b 0 hn)
theorem FM.ltA (h : FM W base n A B g) (hn : 0 < n) : A < W.heap.size := lt_of_cell (a := ⟨A, ixM n 0 0, none⟩) (h.a 0 0 hn hn)
theorem FM.keep (h : FM W base n A B g) (hb : Below W.heap.size W W') : FM W' base n A B g :=
  ⟨fun r c hr hc => keepC hb (h.a r c hr hc), fun r c hr hc => (hb.frozen (p := ⟨A, _, none⟩) (h.ltA (by omega))).trans (h.fa r c hr hc), fun r hr => keepC hb (h.b r hr), fun r hr => (hb.frozen (p := ⟨B, r, none⟩) (h.ltB (by omega))).trans (h.fb r hr), h.ne, h.loA, h.loB⟩
theorem FM.drewN (h : FM W base n A B g) (m : Nat) : FM (W.drewN m) base n A B g := ⟨h.a, h.fa, h.b, h.fb, h.ne, h.loA, h.loB⟩
theorem FM.setA (h : FM W base n A B g) {r c : Nat} (hr : r < n) (hc : c < n) (v : Nat) : FM (W.setCell ⟨A, ixM n r c, none⟩ (.float .f32 v)) base n A B (setM g r c v) := by
  refine ⟨fun s d hs hd => ?_, fun s d hs hd => ?_, fun s hs => ?_, fun s hs => ?_, h.ne, h.loA, h.loB⟩
  · unfold setM
    by_cases he : s = r ∧ d = c
    · rw [if_pos he, he.1, he.2]
      exact World.cell?_setCell_same _ _ _ (h.a r c hr hc)
    · rw [if_neg he, World.cell?_setCell_other _ _ _ _ (fun e => he (by
        injection e with e1 e2
        have := idx_inj hc hd e2
        omega))]
      exact h.a s d hs hd
  · rw [World.frozen?_setCell]
    exact h.fa s d hs hd
  · rw [World.cell?_setCell_other _ _ _ _ (fun e => h.ne (by injection e))]
    unfold setM
    rw [if_neg (by omega)]
    exact h.b s hs
  · rw [World.frozen?_setCell]
    exact h.fb s hs
theorem FM.setB (h : FM W base n A B g) {r : Nat} (hr : r < n) (v : Nat) : FM (W.setCell ⟨B, r, none⟩ (.float .f32 v)) base n A B (setM g r n v) := by
  refine ⟨fun s d hs hd => ?_, fun s d hs hd => ?_, fun s hs => ?_, fun s hs => ?_, h.ne, h.loA, h.loB⟩
  · rw [World.cell?_setCell_other _ _ _ _ (fun e => h.ne (by injection e with e1; exact e1.symm))]
    unfold setM
    rw [if_neg (by omega)]
    exact h.a s d hs hd
  · rw [World.frozen?_setCell]
    exact h.fa s d hs hd
  · unfold setM
    by_cases he : s = r
    · rw [if_pos ⟨he, rfl⟩, he]
      exact World.cell?_setCell_same _ _ _ (h.b r hr)
    · rw [if_neg (fun e => he e.1), World.cell?_setCell_other _ _ _ _ (fun e => he (by injection e with _ e2; exact e2.symm))]
      exact h.b s hs
  · rw [World.frozen?_setCell]
    exact h.fb s hs
theorem FM.far (h : FM W base n A B g) (a : Addr) (v : Value) (hf : 0 < n → a.block ≠ A ∧ a.block ≠ B) : FM (W.setCell a v) base n A B g :=
  ⟨fun r c hr hc => (World.cell?_setCell_other _ _ _ _ (fun e => (hf (by omega)).1 (by rw [e]))).trans (h.a r c hr hc), fun r c hr hc => (by rw [World.frozen?_setCell]; exact h.fa r c hr hc), fun r hr => (World.cell?_setCell_other _ _ _ _ (fun e => (hf (by omega)).2 (by rw [e]))).trans (h.b r hr), fun r hr => (by rw [World.frozen?_setCell]; exact h.fb r hr), h.ne, h.loA, h.loB⟩
theorem FM.congr {g' : Nat → Nat → Nat} (h : FM W base n A B g) (he : ∀ r c, r < n → c ≤ n → g r c = g' r c) : FM W base n A B g' :=
  ⟨fun r c hr hc => by rw [← he r c hr (by omega)]; exact h.a r c hr hc, h.fa, fun r hr => by rw [← he r n hr (Nat.le_refl _)]; exact h.b r hr, h.fb, h.ne, h.loA, h.loB⟩
/-- rows of which the first places are swapped -/
def swapC (g : Nat → Nat → Nat) (k p c : Nat) : Nat → Nat → Nat := fun r d => if d < c then swapM g k p r d else g r d
theorem swapC_zero (g : Nat → Nat → Nat) (k p : Nat) : swapC g k p 0 = g := by
  funext r d
  unfold swapC
  rw [if_neg (by omega)]
theorem swapC_step {g : Nat → Nat → Nat} {k p c : Nat} : ∀ r d, setM (setM (swapC g k p c) k c (g p c)) p c (g k c) r d = swapC g k p (c + 1) r d := by
  intro r d
  unfold setM swapC swapM
  by_cases hd : d = c
  · subst hd
    by_cases hr : r = p
    · subst hr
      by_cases hk : r = k
      · subst hk
        simp
      · simp [hk]
    · by_cases hk : r = k
      · subst hk
        simp [hr]
      · simp [hr, hk]
  · have e1 : d < c + 1 ↔ d < c := by omega
    simp [hd, e1]
theorem swapC_over {g g3 : Nat → Nat → Nat} {k p c : Nat} (h : ∀ r d, g3 r d = swapC g k p c r d) : ∀ r d, setM (setM g3 k c (g p c)) p c (g k c) r d = swapC g k p (c + 1) r d := by
  intro r d
  rw [← swapC_step]
  unfold setM
  by_cases h1 : r = p ∧ d = c
  · rw [if_pos h1, if_pos h1]
  · rw [if_neg h1, if_neg h1]
    by_cases h2 : r = k ∧ d = c
    · rw [if_pos h2, if_pos h2]
    · rw [if_neg h2, if_neg h2]
      exact h r d
theorem swapC_all {g : Nat → Nat → Nat} {k p n : Nat} : ∀ r d, d ≤ n → swapC g k p (n + 1) r d = swapM g k p r d := by
  intro r d hd
  unfold swapC
  rw [if_pos (by omega)]
theorem swapC_at {g : Nat → Nat → Nat} {k p c r : Nat} : swapC g k p c r c = g r c := by
  unfold swapC
  rw [if_neg (by omega)]
theorem swapC_set {g : Nat → Nat → Nat} {k p c v : Nat} (hkp : p = k → v = g k c) (r : Nat) (hr : r = p) : setM (swapC g k p c) k c v r c = if p = k then v else g p c := by
  subst hr
  unfold setM
  by_cases h : r = k
  · rw [if_pos ⟨h, rfl⟩, if_pos h]
  · rw [if_neg (fun e => h e.1), if_neg h, swapC_at]
theorem wrapN {x : Int} {m : Nat} (h : x = (m : Int)) (hm : m ≤ 9223372036854775807) : IntKind.i64.wrap x = (m : Int) := by rw [h]; exact IntWalk.i64_in _ (by omega)
theorem mulW {a b : Nat} (h : a * b ≤ 9223372036854775807) : IntKind.i64.wrap ((a : Int) * (b : Int)) = ((a * b : Nat) : Int) := wrapN (by push_cast; rfl) h
theorem addW {a b : Nat} (h : a + b ≤ 9223372036854775807) : IntKind.i64.wrap ((a : Int) + (b : Int)) = ((a + b : Nat) : Int) := wrapN (by push_cast; rfl) h

end Go.Proofs.Ytlhepgdheopgaaa
