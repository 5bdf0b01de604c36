/-
  Seeds: the program's next and share, and the reference's l02Next and l02Share, give one and the same word and seed.
-/
import Derived.Test.YtfkjnaaplhcheaaShr
import Derived.Test.YtfkjnaaplhcheaaOut
import Derived.RegionTactic
import Derived.BigRegion
import Derived.Deep.QuietTactic
import Derived.BigQuiet
import Derived.Maps.AppendAt
namespace Go.Proofs.Ytfkjnaaplhcheaa
open Go Go.RowKit Ieee

def mixY (x : Int) : Int := IntKind.u64.wrap (bits .xor .u64 x (x / 1073741824) * 13787848793156543929)
def mixZ (x : Int) : Int := IntKind.u64.wrap (bits .xor .u64 x (x / 134217728) * 10723151780598845931)
def mixF (x : Int) : Int := bits .xor .u64 (mixZ (mixY x)) (mixZ (mixY x) / 2147483648)
theorem MixWord_any (x : Int) (w : World) : Calls Try.prog 130 #[.int .u64 x] w (fun e w' => e = .returned (.int .u64 (mixF x)) ∧ w = w') := by
  go_enter Try.func130, Try.ntmps130
  go_wp2
  go_ret
  exact ⟨rfl, rfl⟩
theorem l02Mix_any (x : Int) (w : World) : Calls Try.prog 95 #[.int .u64 x] w (fun e w' => e = .returned (.int .u64 (mixF x)) ∧ w' = w) := by
  go_enter Try.func95, Try.ntmps95
  go_wp2
  go_ret
  exact ⟨rfl, rfl⟩
def turnA (x : Int) : Int := bits .or .u64 (IntKind.u64.wrap (x * 16777216)) (x / 1099511627776)
def turnB (x : Int) : Int := bits .or .u64 (IntKind.u64.wrap (x * 137438953472)) (x / 134217728)
theorem Rot_24 (x : Int) (w : World) : Calls Try.prog 131 #[.int .u64 x, .int .i64 24] w (fun e w' => e = .returned (.int .u64 (turnA x)) ∧ w = w') := by
  have h : bits .and .u64 24 63 = 24 := by decide +kernel
  go_enter Try.func131, Try.ntmps131
  go_wp2
  go_ret
  exact ⟨rfl, rfl⟩
theorem Rot_37 (x : Int) (w : World) : Calls Try.prog 131 #[.int .u64 x, .int .i64 37] w (fun e w' => e = .returned (.int .u64 (turnB x)) ∧ w = w') := by
  have h : bits .and .u64 37 63 = 37 := by decide +kernel
  go_enter Try.func131, Try.ntmps131
  go_wp2
  go_ret
  exact ⟨rfl, rfl⟩
theorem l02Turn_24 (x : Int) (w : World) : Calls Try.prog 138 #[.int .u64 x, .int .u64 24] w (fun e w' => e = .returned (.int .u64 (turnA x)) ∧ w = w') := by
  go_enter Try.func138, Try.ntmps138
  go_wp2
  go_ret
  exact ⟨rfl, rfl⟩
theorem l02Turn_37 (x : Int) (w : World) : Calls Try.prog 138 #[.int .u64 x, .int .u64 37] w (fun e w' => e = .returned (.int .u64 (turnB x)) ∧ w = w') := by
  go_enter Try.func138, Try.ntmps138
  go_wp2
  go_ret
  exact ⟨rfl, rfl⟩

def lineA (a b : Int) : Int := IntKind.u64.wrap (IntKind.u64.wrap (6364136223846793005 * a) + b)
def shiftX (a : Int) : Int := bits .xor .u64 a (IntKind.u64.wrap (a * 8192))
def shiftY (a : Int) : Int := bits .xor .u64 a (a / 128)
def shiftZ (a : Int) : Int := bits .xor .u64 a (IntKind.u64.wrap (a * 131072))
def shiftA (a : Int) : Int := shiftZ (shiftY (shiftX a))
def shiftR (a : Int) : Int := IntKind.u64.wrap (shiftA a * 2685821657736338717)
def countA (a : Int) : Int := IntKind.u64.wrap (a + 11400714819323198485)
def countR (a b : Int) : Int := mixF (IntKind.u64.wrap (countA a + b))
def pairX (a b : Int) : Int := bits .xor .u64 b a
def pairA (a b : Int) : Int := bits .xor .u64 (bits .xor .u64 (turnA a) (pairX a b)) (IntKind.u64.wrap (pairX a b * 65536))
def pairB (a b : Int) : Int := turnB (pairX a b)
def pairR (a b : Int) : Int := IntKind.u64.wrap (a + b)
theorem u64_range (n : Int) : 0 ≤ IntKind.u64.wrap n ∧ IntKind.u64.wrap n < 18446744073709551616 := by rw [IntKind.wrap_u64]; omega
theorem xor_range (x y : Int) : 0 ≤ bits .xor .u64 x y ∧ bits .xor .u64 x y < 18446744073709551616 := u64_range _
theorem or_range (x y : Int) : 0 ≤ bits .or .u64 x y ∧ bits .or .u64 x y < 18446744073709551616 := u64_range _
theorem high_i64 {r : Int} (h : 0 ≤ r ∧ r < 18446744073709551616) : wrap64 (r / 4294967296) = r / 4294967296 := by
  have : 0 ≤ r / 4294967296 ∧ r / 4294967296 < 4294967296 := by omega
  have h2 : IntKind.i64.wrap (r / 4294967296) = r / 4294967296 := IntWalk.i64_in _ (by omega)
  rw [IntWalk.i64_left] at h2
  exact h2
theorem high_u32 {r : Int} (h : 0 ≤ r ∧ r < 18446744073709551616) : IntKind.u32.wrap (r / 4294967296) = r / 4294967296 := by
  have : 0 ≤ r / 4294967296 ∧ r / 4294967296 < 4294967296 := by omega
  rw [IntKind.wrap_u32]
  omega

/-- a seed behind a word; its word -/
def nA (k a b : Int) : Int := if k = 0 then lineA a b else if k = 1 then shiftA a else if k = 2 then countA a else pairA a b
def nB (k a b : Int) : Int := if k = 3 then pairB a b else b
def nR (k a b : Int) : Int := if k = 0 then lineA a b else if k = 1 then shiftR a else if k = 2 then countR a b else pairR a b
theorem nA_range (k a b : Int) : 0 ≤ nA k a b ∧ nA k a b < 18446744073709551616 := by
  unfold nA
  split
  · exact u64_range _
  · split
    · exact xor_range _ _
    · split
      · exact u64_range _
      · exact xor_range _ _
theorem nB_range {k a b : Int} (h : 0 ≤ b ∧ b < 18446744073709551616) : 0 ≤ nB k a b ∧ nB k a b < 18446744073709551616 := by
  unfold nB
  split
  · exact or_range _ _
  · exact h
theorem nR_range (k a b : Int) : 0 ≤ nR k a b ∧ nR k a b < 18446744073709551616 := by
  unfold nR
  split
  · exact u64_range _
  · split
    · exact u64_range _
    · split
      · exact xor_range _ _
      · exact u64_range _
def nW (k a b : Int) : Int := nR k a b / 4294967296
theorem nW_range (k a b : Int) : 0 ≤ nW k a b ∧ nW k a b < 4294967296 := by
  have := nR_range k a b
  unfold nW
  omega
def kindB (k : Int) : Prop := k = 0 ∨ k = 1 ∨ k = 2 ∨ k = 3
def NextOut (k a b : Int) (w : World) (e : Ending) (w' : World) : Prop := e = .returned (.tuple #[.agg #[.int .i64 k, .int .u64 (nA k a b), .int .u64 (nB k a b)], .int .i64 (nW k a b)]) ∧ Below w.heap.size w w'
theorem next_out {k a b A B W : Int} {w w' : World} (h1 : A = nA k a b) (h2 : B = nB k a b) (h3 : W = nW k a b) (hb : Below w.heap.size w w') : NextOut k a b w (.returned (.tuple #[.agg #[.int .i64 k, .int .u64 A, .int .u64 B], .int .i64 W])) w' := by
  subst h1 h2 h3
  exact ⟨rfl, hb⟩
theorem nA_0 (a b : Int) : lineA a b = nA 0 a b := by unfold nA; rw [if_pos rfl]
theorem nA_1 (a b : Int) : shiftA a = nA 1 a b := by unfold nA; rw [if_neg (by decide), if_pos rfl]
theorem nA_2 (a b : Int) : countA a = nA 2 a b := by unfold nA; rw [if_neg (by decide), if_neg (by decide), if_pos rfl]
theorem nA_3 (a b : Int) : pairA a b = nA 3 a b := by unfold nA; rw [if_neg (by decide), if_neg (by decide), if_neg (by decide)]
theorem nB_0 (a b : Int) : b = nB 0 a b := by unfold nB; rw [if_neg (by decide)]
theorem nB_1 (a b : Int) : b = nB 1 a b := by unfold nB; rw [if_neg (by decide)]
theorem nB_2 (a b : Int) : b = nB 2 a b := by unfold nB; rw [if_neg (by decide)]
theorem nB_3 (a b : Int) : pairB a b = nB 3 a b := by unfold nB; rw [if_pos rfl]
theorem nW_0 (a b : Int) : lineA a b / 4294967296 = nW 0 a b := by unfold nW nR; rw [if_pos rfl]
theorem nW_1 (a b : Int) : shiftR a / 4294967296 = nW 1 a b := by unfold nW nR; rw [if_neg (by decide), if_pos rfl]
theorem nW_2 (a b : Int) : countR a b / 4294967296 = nW 2 a b := by unfold nW nR; rw [if_neg (by decide), if_neg (by decide), if_pos rfl]
theorem nW_3 (a b : Int) : pairR a b / 4294967296 = nW 3 a b := by unfold nW nR; rw [if_neg (by decide), if_neg (by decide), if_neg (by decide)]
theorem lineA_range (a b : Int) : 0 ≤ lineA a b ∧ lineA a b < 18446744073709551616 := by unfold lineA; exact u64_range _
theorem shiftR_range (a : Int) : 0 ≤ shiftR a ∧ shiftR a < 18446744073709551616 := by unfold shiftR; exact u64_range _
theorem countR_range (a b : Int) : 0 ≤ countR a b ∧ countR a b < 18446744073709551616 := by unfold countR mixF; exact xor_range _ _
theorem pairR_range (a b : Int) : 0 ≤ pairR a b ∧ pairR a b < 18446744073709551616 := by unfold pairR; exact u64_range _
set_option maxHeartbeats 800000 in
theorem next_0 (a b : Int) (w : World) : Calls Try.prog 118 #[.agg #[.int .i64 0, .int .u64 a, .int .u64 b]] w (NextOut 0 a b w) := by
  go_enter Try.func118, Try.ntmps118
  go_wp2
  refine bodyPost_ret (v := .tuple #[.agg #[.int .i64 0, .int .u64 (lineA a b), .int .u64 b], .int .i64 (wrap64 (lineA a b / 4294967296))]) (by simp [results, Try.results118, go_sem, lineA]) rfl (next_out (nA_0 a b) (nB_0 a b) ((high_i64 (lineA_range a b)).trans (nW_0 a b)) ?_)
  exact below_al (below_al (Below.refl _ _) _) _
set_option maxHeartbeats 800000 in
theorem next_1 (a b : Int) (w : World) : Calls Try.prog 118 #[.agg #[.int .i64 1, .int .u64 a, .int .u64 b]] w (NextOut 1 a b w) := by
  go_enter Try.func118, Try.ntmps118
  go_wp2
  refine bodyPost_ret (v := .tuple #[.agg #[.int .i64 1, .int .u64 (shiftA a), .int .u64 b], .int .i64 (wrap64 (shiftR a / 4294967296))]) (by simp [results, Try.results118, go_sem, shiftA, shiftR, shiftX, shiftY, shiftZ]) rfl (next_out (nA_1 a b) (nB_1 a b) ((high_i64 (shiftR_range a)).trans (nW_1 a b)) ?_)
  exact below_al (below_al (Below.refl _ _) _) _
set_option maxHeartbeats 800000 in
theorem next_2 (a b : Int) (w : World) : Calls Try.prog 118 #[.agg #[.int .i64 2, .int .u64 a, .int .u64 b]] w (NextOut 2 a b w) := by
  go_enter Try.func118, Try.ntmps118
  go_wp2_with (go_at_call 130; refine (MixWord_any _ _).mono ?_; rintro e w' ⟨rfl, rfl⟩)
  refine bodyPost_ret (v := .tuple #[.agg #[.int .i64 2, .int .u64 (countA a), .int .u64 b], .int .i64 (wrap64 (countR a b / 4294967296))]) (by simp [results, Try.results118, go_sem, countA, countR]) rfl (next_out (nA_2 a b) (nB_2 a b) ((high_i64 (countR_range a b)).trans (nW_2 a b)) ?_)
  exact below_al (below_al (Below.refl _ _) _) _
set_option maxRecDepth 100000 in
set_option maxHeartbeats 800000 in
theorem next_3 (a b : Int) (w : World) : Calls Try.prog 118 #[.agg #[.int .i64 3, .int .u64 a, .int .u64 b]] w (NextOut 3 a b w) := by
  go_enter Try.func118, Try.ntmps118
  go_wp2_with (first
    | (go_at_call 131; (with_reducible refine (Rot_24 _ _).mono ?_); rintro e w' ⟨rfl, rfl⟩)
    | (go_at_call 131; (with_reducible refine (Rot_37 _ _).mono ?_); rintro e w' ⟨rfl, rfl⟩))
  refine bodyPost_ret (v := .tuple #[.agg #[.int .i64 3, .int .u64 (pairA a b), .int .u64 (pairB a b)], .int .i64 (wrap64 (pairR a b / 4294967296))]) (by simp [results, Try.results118, go_sem, pairA, pairB, pairR, pairX]) rfl (next_out (nA_3 a b) (nB_3 a b) ((high_i64 (pairR_range a b)).trans (nW_3 a b)) ?_)
  exact below_al (below_al (Below.refl _ _) _) _
theorem next_any (k a b : Int) (hk : kindB k) (w : World) : Calls Try.prog 118 #[.agg #[.int .i64 k, .int .u64 a, .int .u64 b]] w (NextOut k a b w) := by
  rcases hk with rfl | rfl | rfl | rfl
  · exact next_0 a b w
  · exact next_1 a b w
  · exact next_2 a b w
  · exact next_3 a b w

/-- the share of a seed's next word -/
def nU (k a b : Int) : Nat := shareN (nW k a b / 256).toNat
theorem word_low (k a b : Int) : (nW k a b / 256).toNat < 16777216 ∧ ((nW k a b / 256).toNat : Int) = nW k a b / 256 := by
  have := nW_range k a b
  omega
/-- a seed lies in a block -/
def SdAt (w : World) (b : Nat) (k a c : Int) : Prop := w.cell? ⟨b, 0, none⟩ = some (.int .i64 k) ∧ w.cell? ⟨b, 1, none⟩ = some (.int .u64 a) ∧ w.cell? ⟨b, 2, none⟩ = some (.int .u64 c) ∧ ∀ o, w.frozen? ⟨b, o, none⟩ = false
theorem SdAt.keep {w w' : World} {b : Nat} {k a c : Int} (h : SdAt w b k a c) (hb : Below w.heap.size w w') : SdAt w' b k a c := by
  obtain ⟨h0, h1, h2, h3⟩ := h
  have hl : b < w.heap.size := lt_of_cell (a := ⟨b, 0, none⟩) h0
  exact ⟨keepC hb h0, keepC hb h1, keepC hb h2, fun o => (hb.frozen (p := ⟨b, o, none⟩) hl).trans (h3 o)⟩
theorem SdAt.far {w w' : World} {b g : Nat} {k a c : Int} (h : SdAt w b k a c) (hg : w.grownBy w' (some g)) (hne : b ≠ g) : SdAt w' b k a c := by
  obtain ⟨h0, h1, h2, h3⟩ := h
  have hl : b < w.heap.size := lt_of_cell (a := ⟨b, 0, none⟩) h0
  have hn : some b ≠ some g := fun e => hne (Option.some.inj e)
  exact ⟨(hg.cell_far ⟨b, 0, none⟩ hl hn).trans h0, (hg.cell_far ⟨b, 1, none⟩ hl hn).trans h1, (hg.cell_far ⟨b, 2, none⟩ hl hn).trans h2, fun o => (hg.frozen_far ⟨b, o, none⟩ hl hn).trans (h3 o)⟩
theorem SdAt.set {w : World} {b : Nat} {k a c : Int} (h : SdAt w b k a c) (k' a' c' : Int) : SdAt (((w.setCell ⟨b, 0, none⟩ (.int .i64 k')).setCell ⟨b, 1, none⟩ (.int .u64 a')).setCell ⟨b, 2, none⟩ (.int .u64 c')) b k' a' c' := by
  obtain ⟨h0, h1, h2, h3⟩ := h
  have e1 : (w.setCell ⟨b, 0, none⟩ (.int .i64 k')).cell? ⟨b, 1, none⟩ = some (.int .u64 a) := (World.cell?_setCell_other _ _ _ _ (by simp)).trans h1
  have e2 : ((w.setCell ⟨b, 0, none⟩ (.int .i64 k')).setCell ⟨b, 1, none⟩ (.int .u64 a')).cell? ⟨b, 2, none⟩ = some (.int .u64 c) := (World.cell?_setCell_other _ _ _ _ (by simp)).trans ((World.cell?_setCell_other _ _ _ _ (by simp)).trans h2)
  refine ⟨?_, ?_, World.cell?_setCell_same _ _ _ e2, fun o => by rw [World.frozen?_setCell, World.frozen?_setCell, World.frozen?_setCell]; exact h3 o⟩
  · exact (World.cell?_setCell_other _ _ _ _ (by simp)).trans ((World.cell?_setCell_other _ _ _ _ (by simp)).trans (World.cell?_setCell_same _ _ _ h0))
  · exact (World.cell?_setCell_other _ _ _ _ (by simp)).trans (World.cell?_setCell_same _ _ _ e1)
theorem SdAt.al {w : World} {b : Nat} {k a c : Int} (h : SdAt w b k a c) (o : Obj) : SdAt (w.alloc o) b k a c := h.keep (below_al (Below.refl _ _) _)
def ShareOut (k a b : Int) (w : World) (e : Ending) (w' : World) : Prop := e = .returned (.tuple #[.agg #[.int .i64 k, .int .u64 (nA k a b), .int .u64 (nB k a b)], .float .f32 (nU k a b)]) ∧ Below w.heap.size w w'
end Go.Proofs.Ytfkjnaaplhcheaa

