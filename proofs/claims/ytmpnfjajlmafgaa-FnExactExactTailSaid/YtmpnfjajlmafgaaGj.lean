/-
  The exact test's two answers, side by side: given what l06Walk answers.
-/
import Derived.Test.YtmpnfjajlmafgaaGi
import Derived.Test.YtmpnfjajlmafgaaQa
namespace Go.Proofs.Ytmpnfjajlmafgaa
open Go Go.RowKit

/-- both functions answer alike -/
def Alike (r l : Int) (ds : List Int) : Prop := ∃ (ri : Int) (rj : Int) (ok : Bool), (∀ A c w, Rd w w.heap.size A (il ds) → Calls Try.prog 16 #[tbV r l A ds.length c] w (tlOut ri rj ok w)) ∧
    (∀ A w, Rd w w.heap.size A (il ds) → Calls Try.prog 17 #[tbV r l A ds.length ds.length] w (tlOut ri rj ok w))
theorem alike_side {R C : Nat} {ns rs cs : List Nat} {y : Int × Int} (hR : 2 ≤ R ∧ R ≤ 3) (hC : 2 ≤ C ∧ C ≤ 3) (hl : ns.length = R * C) (hs : 1 ≤ ns.sum ∧ ns.sum ≤ 20) (hrs : ∀ i, i < R → rs[i]! = rwTo ns C (R * C) i) (hcs : ∀ i, i < C → cs[i]! = colsTo ns C (R * C) i) (hk : WalkOk R C (lwTo ns R C C) rs cs y) (ht : tails R C (wIn C (wOf C ns)) ns = y) : Alike R C (ns.map Int.ofNat) := by
  have hln : (ns.map Int.ofNat).length = R * C := by rw [List.length_map, hl]
  unfold Alike
  rw [hln, il_nlv]
  refine ⟨y.1, y.2, true, fun A c w hA => specExactTail_ok R C ns rs cs y A c w hR hC hl hs hA hrs hcs hk, fun A w hA => ?_⟩
  rw [← ht]
  exact ExactTail_ok R C ns A (R * C) w hR hC hl hs (Nat.le_refl _) hA
theorem alike_bad {r l : Int} {ds : List Int} (hx : ds.length ≤ 9223372036854775807) (h : exB r l ds = false) : Alike r l ds :=
  ⟨0, 0, false, fun A c w hA => specExactTail_bad r l A ds c w hx hA h, fun A w hA => ExactTail_bad r l A ds ds.length w hx hA h⟩
theorem alike_22 (hk2 : ∀ C own cs r0 r1, cs.length = C → C ≤ 4 → (∀ i : Nat, cs[i]! ≤ 60) → r0 ≤ 60 → r1 ≤ 60 → WalkOk 2 C own [r0, r1] cs (wlk2 own cs r0 r1 1)) (ns : List Nat) (hl : ns.length = 4) (hs : 1 ≤ ns.sum ∧ ns.sum ≤ 20) : Alike 2 2 (ns.map Int.ofNat) := by
  match ns, hl with
  | [a, b, c, d], hl =>
    simp at hs
    refine alike_side (R := 2) (C := 2) (ns := [a, b, c, d]) (rs := [a + b, c + d]) (cs := [a + c, b + d]) (by omega) (by omega) hl (by simp; omega) ?_ ?_ (hk2 _ _ _ _ _ rfl (by omega) ?_ (by omega) (by omega)) (by rw [lw22]; exact ex22 _ a b c d)
    · intro q hq
      rcases (show q = 0 ∨ q = 1 by omega) with rfl | rfl <;> simp [rwTo] <;> omega
    · intro q hq
      rcases (show q = 0 ∨ q = 1 by omega) with rfl | rfl <;> simp [colsTo]
    · intro q
      by_cases hq : q < 2
      · rcases (show q = 0 ∨ q = 1 by omega) with rfl | rfl <;> simp <;> omega
      · rw [getElem!_neg _ _ (by simpa using hq)]
        exact Nat.zero_le _
theorem alike_23 (hk2 : ∀ C own cs r0 r1, cs.length = C → C ≤ 4 → (∀ i : Nat, cs[i]! ≤ 60) → r0 ≤ 60 → r1 ≤ 60 → WalkOk 2 C own [r0, r1] cs (wlk2 own cs r0 r1 1)) (ns : List Nat) (hl : ns.length = 6) (hs : 1 ≤ ns.sum ∧ ns.sum ≤ 20) : Alike 2 3 (ns.map Int.ofNat) := by
  match ns, hl with
  | [a, b, c, d, e, f], hl =>
    simp at hs
    refine alike_side (R := 2) (C := 3) (ns := [a, b, c, d, e, f]) (rs := [a + (b + c), d + (e + f)]) (cs := [a + d, b + e, c + f]) (by omega) (by omega) hl (by simp; omega) ?_ ?_ (hk2 _ _ _ _ _ rfl (by omega) ?_ (by omega) (by omega)) (by rw [lw23]; exact ex23 _ a b c d e f)
    · intro q hq
      rcases (show q = 0 ∨ q = 1 by omega) with rfl | rfl <;> simp [rwTo] <;> omega
    · intro q hq
      rcases (show q = 0 ∨ q = 1 ∨ q = 2 by omega) with rfl | rfl | rfl <;> simp [colsTo]
    · intro q
      by_cases hq : q < 3
      · rcases (show q = 0 ∨ q = 1 ∨ q = 2 by omega) with rfl | rfl | rfl <;> simp <;> omega
      · rw [getElem!_neg _ _ (by simpa using hq)]
        exact Nat.zero_le _
theorem alike_32 (hk3 : ∀ C own cs r0 r1 r2, cs.length = C → C ≤ 4 → (∀ i : Nat, cs[i]! ≤ 60) → r0 ≤ 60 → r1 ≤ 60 → r2 ≤ 60 → WalkOk 3 C own [r0, r1, r2] cs (wlk3 own cs r0 r1 r2 1)) (ns : List Nat) (hl : ns.length = 6) (hs : 1 ≤ ns.sum ∧ ns.sum ≤ 20) : Alike 3 2 (ns.map Int.ofNat) := by
  match ns, hl with
  | [a, b, c, d, e, f], hl =>
    simp at hs
    refine alike_side (R := 3) (C := 2) (ns := [a, b, c, d, e, f]) (rs := [a + b, c + d, e + f]) (cs := [a + c + e, b + d + f]) (by omega) (by omega) hl (by simp; omega) ?_ ?_ (hk3 _ _ _ _ _ _ rfl (by omega) ?_ (by omega) (by omega) (by omega)) (by rw [lw32]; exact ex32 _ a b c d e f)
    · intro q hq
      rcases (show q = 0 ∨ q = 1 ∨ q = 2 by omega) with rfl | rfl | rfl <;> simp [rwTo] <;> omega
    · intro q hq
      rcases (show q = 0 ∨ q = 1 by omega) with rfl | rfl <;> simp [colsTo]
    · intro q
      by_cases hq : q < 2
      · rcases (show q = 0 ∨ q = 1 by omega) with rfl | rfl <;> simp <;> omega
      · rw [getElem!_neg _ _ (by simpa using hq)]
        exact Nat.zero_le _
theorem alike_33 (hk3 : ∀ C own cs r0 r1 r2, cs.length = C → C ≤ 4 → (∀ i : Nat, cs[i]! ≤ 60) → r0 ≤ 60 → r1 ≤ 60 → r2 ≤ 60 → WalkOk 3 C own [r0, r1, r2] cs (wlk3 own cs r0 r1 r2 1)) (ns : List Nat) (hl : ns.length = 9) (hs : 1 ≤ ns.sum ∧ ns.sum ≤ 20) : Alike 3 3 (ns.map Int.ofNat) := by
  match ns, hl with
  | [a, b, c, d, e, f, g, h, i], hl =>
    simp at hs
    refine alike_side (R := 3) (C := 3) (ns := [a, b, c, d, e, f, g, h, i]) (rs := [a + (b + c), d + (e + f), g + (h + i)]) (cs := [a + d + g, b + e + h, c + f + i]) (by omega) (by omega) hl (by simp; omega) ?_ ?_ (hk3 _ _ _ _ _ _ rfl (by omega) ?_ (by omega) (by omega) (by omega)) (by rw [lw33]; exact ex33 _ a b c d e f g h i)
    · intro q hq
      rcases (show q = 0 ∨ q = 1 ∨ q = 2 by omega) with rfl | rfl | rfl <;> simp [rwTo] <;> omega
    · intro q hq
      rcases (show q = 0 ∨ q = 1 ∨ q = 2 by omega) with rfl | rfl | rfl <;> simp [colsTo]
    · intro q
      by_cases hq : q < 3
      · rcases (show q = 0 ∨ q = 1 ∨ q = 2 by omega) with rfl | rfl | rfl <;> simp <;> omega
      · rw [getElem!_neg _ _ (by simpa using hq)]
        exact Nat.zero_le _
theorem alike_all (hk2 : ∀ C own cs r0 r1, cs.length = C → C ≤ 4 → (∀ i : Nat, cs[i]! ≤ 60) → r0 ≤ 60 → r1 ≤ 60 → WalkOk 2 C own [r0, r1] cs (wlk2 own cs r0 r1 1)) (hk3 : ∀ C own cs r0 r1 r2, cs.length = C → C ≤ 4 → (∀ i : Nat, cs[i]! ≤ 60) → r0 ≤ 60 → r1 ≤ 60 → r2 ≤ 60 → WalkOk 3 C own [r0, r1, r2] cs (wlk3 own cs r0 r1 r2 1)) (r l : Int) (ds : List Int) (hx : ds.length ≤ 9223372036854775807) : Alike r l ds := by
  cases h : exB r l ds with
  | false => exact alike_bad hx h
  | true =>
    obtain ⟨R, C, ns, rfl, rfl, hR, hC, rfl, hl, h1, h2⟩ := ex_open h
    rcases (show R = 2 ∨ R = 3 by omega) with rfl | rfl <;> rcases (show C = 2 ∨ C = 3 by omega) with rfl | rfl
    · exact alike_22 hk2 ns hl ⟨h1, h2⟩
    · exact alike_23 hk2 ns hl ⟨h1, h2⟩
    · exact alike_32 hk3 ns hl ⟨h1, h2⟩
    · exact alike_33 hk3 ns hl ⟨h1, h2⟩
end Go.Proofs.Ytmpnfjajlmafgaa
