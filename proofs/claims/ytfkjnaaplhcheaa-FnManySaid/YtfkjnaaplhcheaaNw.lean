/-
  Walks and bets stay within the tables, and near their doubles.
-/
import Derived.Test.YtfkjnaaplhcheaaNt
import Derived.Test.YtfkjnaaplhcheaaNp
import Derived.Test.YtfkjnaaplhcheaaNq
namespace Go.Proofs.Ytfkjnaaplhcheaa
open Go Go.RowKit Ieee
theorem closed_step {T : List (List Nat)} {fu fd : Nat → Option Nat} (h : closedT T fu fd = true) {u d x : Nat} (hud : u + d < 20) (hx : x ∈ T.getD (u * 21 + d) []) :
    (∃ y, fu x = some y ∧ y ∈ T.getD ((u + 1) * 21 + d) []) ∧ ∃ y, fd x = some y ∧ y ∈ T.getD (u * 21 + (d + 1)) [] := by
  have h1 := List.all_eq_true.1 h u (List.mem_range.2 (by omega))
  have h2 := List.all_eq_true.1 h1 d (List.mem_range.2 (by omega))
  rw [Bool.or_eq_true] at h2
  have h3 := h2.resolve_left (by simp; omega)
  have h4 := List.all_eq_true.1 h3 x hx
  rw [Bool.and_eq_true] at h4
  obtain ⟨a, b⟩ := h4
  constructor
  · cases e : fu x with
    | none => rw [e] at a; simp at a
    | some y => rw [e] at a; exact ⟨y, rfl, by simpa using a⟩
  · cases e : fd x with
    | none => rw [e] at b; simp at b
    | some y => rw [e] at b; exact ⟨y, rfl, by simpa using b⟩
def ups (bs : List Bool) : Nat → Nat
  | 0 => 0
  | i + 1 => ups bs i + (if bs.getD i false then 1 else 0)
theorem ups_le (bs : List Bool) : ∀ i, ups bs i ≤ i
  | 0 => Nat.le_refl 0
  | i + 1 => by
    have := ups_le bs i
    show ups bs i + _ ≤ i + 1
    split <;> omega
def runT (fu fd : Nat → Option Nat) (z : Nat) (bs : List Bool) : Nat → Nat
  | 0 => z
  | i + 1 => ((if bs.getD i false then fu else fd) (runT fu fd z bs i)).getD 0
theorem closed_run {T : List (List Nat)} {fu fd : Nat → Option Nat} {z : Nat} (h : closedT T fu fd = true) (hz : z ∈ T.getD 0 []) (bs : List Bool) : ∀ i, i ≤ 20 →
    runT fu fd z bs i ∈ T.getD (ups bs i * 21 + (i - ups bs i)) [] ∧ (i < 20 → (if bs.getD i false then fu else fd) (runT fu fd z bs i) = some (runT fu fd z bs (i + 1))) := by
  have key : ∀ i, i < 20 → runT fu fd z bs i ∈ T.getD (ups bs i * 21 + (i - ups bs i)) [] → (if bs.getD i false then fu else fd) (runT fu fd z bs i) = some (runT fu fd z bs (i + 1)) ∧ runT fu fd z bs (i + 1) ∈ T.getD (ups bs (i + 1) * 21 + (i + 1 - ups bs (i + 1))) [] := fun i hi hm => by
    have hl := ups_le bs i
    obtain ⟨⟨y1, a1, a2⟩, y2, b1, b2⟩ := closed_step h (show ups bs i + (i - ups bs i) < 20 by omega) hm
    show _ = some (((if bs.getD i false then fu else fd) (runT fu fd z bs i)).getD 0) ∧ ((if bs.getD i false then fu else fd) (runT fu fd z bs i)).getD 0 ∈ T.getD ((ups bs i + (if bs.getD i false then 1 else 0)) * 21 + (i + 1 - (ups bs i + (if bs.getD i false then 1 else 0)))) []
    cases bs.getD i false with
    | true =>
      simp only [if_true, a1, Option.getD_some, true_and]
      rw [show i + 1 - (ups bs i + 1) = i - ups bs i by omega]
      exact a2
    | false =>
      simp only [Bool.false_eq_true, if_false, b1, Option.getD_some, true_and, Nat.add_zero]
      rw [show i + 1 - ups bs i = i - ups bs i + 1 by omega]
      exact b2
  have all : ∀ i, i ≤ 20 → runT fu fd z bs i ∈ T.getD (ups bs i * 21 + (i - ups bs i)) [] := fun i => by
    induction i with
    | zero => exact fun _ => hz
    | succ i ih => exact fun hi => (key i (by omega) (ih (by omega))).2
  exact fun i hi => ⟨all i hi, fun h => (key i h (all i hi)).1⟩
/-- sums and products in double precision, as the law makes them -/
def wsS (bs : List Bool) : Nat → Nat := runT wu64 wd64 0 bs
def nwS (bs : List Bool) : Nat → Nat := runT bu64 bd64 4607182418800017408 bs
theorem rw_runT (bs : List Bool) : ∀ i, rwS bs i = runT wu32 wd32 0 bs i
  | 0 => rfl
  | i + 1 => by
    show fadd (rwS bs i) (if bs.getD i false then 1060205080 else 3201276190) = ((if bs.getD i false then wu32 else wd32) (runT wu32 wd32 0 bs i)).getD 0
    rw [rw_runT bs i]
    cases bs.getD i false <;> rfl
theorem bw_runT (bs : List Bool) : ∀ i, bwS bs i = runT bu32 bd32 1065353216 bs i
  | 0 => rfl
  | i + 1 => by
    show fmul (bwS bs i) (if bs.getD i false then 1067450368 else 1061158912) = ((if bs.getD i false then bu32 else bd32) (runT bu32 bd32 1065353216 bs i)).getD 0
    rw [bw_runT bs i]
    cases bs.getD i false <;> rfl
theorem rw_mem (bs : List Bool) {i : Nat} (hi : i ≤ 20) : rwS bs i ∈ tW32.getD (ups bs i * 21 + (i - ups bs i)) [] := by
  rw [rw_runT]
  exact (closed_run closed_w32 (by decide +kernel) bs i hi).1
theorem bw_mem (bs : List Bool) {i : Nat} (hi : i ≤ 20) : bwS bs i ∈ tB32.getD (ups bs i * 21 + (i - ups bs i)) [] := by
  rw [bw_runT]
  exact (closed_run closed_b32 (by decide +kernel) bs i hi).1
theorem ws_mem (bs : List Bool) {i : Nat} (hi : i ≤ 20) : wsS bs i ∈ tW64.getD (ups bs i * 21 + (i - ups bs i)) [] := (closed_run closed_w64 (by decide +kernel) bs i hi).1
theorem nw_mem (bs : List Bool) {i : Nat} (hi : i ≤ 20) : nwS bs i ∈ tB64.getD (ups bs i * 21 + (i - ups bs i)) [] := (closed_run closed_b64 (by decide +kernel) bs i hi).1
theorem ws_step (bs : List Bool) {i : Nat} (hi : i < 20) : if bs.getD i false then floatBits .add .f64 (wsS bs i) 4604418534488542221 = some (wsS bs (i + 1)) else floatBits .sub .f64 (wsS bs i) 4600975829810992884 = some (wsS bs (i + 1)) := by
  have h := (closed_run (z := 0) closed_w64 (by decide +kernel) bs i (by omega)).2 hi
  unfold wsS
  cases e : bs.getD i false <;> rw [e] at h <;> exact h
theorem nw_step (bs : List Bool) {i : Nat} (hi : i < 20) : if bs.getD i false then floatBits .mul .f64 (nwS bs i) 4608308318706860032 = some (nwS bs (i + 1)) else floatBits .mul .f64 (nwS bs i) 4604930618986332160 = some (nwS bs (i + 1)) := by
  have h := (closed_run (z := 4607182418800017408) closed_b64 (by decide +kernel) bs i (by omega)).2 hi
  unfold nwS
  cases e : bs.getD i false <;> rw [e] at h <;> exact h
theorem pairs_of {A B : List (List Nat)} {p : Nat → Nat → Bool} (h : pairsT A B p = true) {i x y : Nat} (hi : i < 441) (hx : x ∈ A.getD i []) (hy : y ∈ B.getD i []) : p x y = true :=
  List.all_eq_true.1 (List.all_eq_true.1 (List.all_eq_true.1 h i (List.mem_range.2 hi)) x hx) y hy
theorem cell_lt (bs : List Bool) {i : Nat} (hi : i ≤ 20) : ups bs i * 21 + (i - ups bs i) < 441 := by
  have := ups_le bs i
  omega
theorem near_at (bs : List Bool) {i : Nat} (hi : i ≤ 20) : nearB (rwS bs i) (wsS bs i) = true := pairs_of near_all (cell_lt bs hi) (rw_mem bs hi) (ws_mem bs hi)
theorem bet_at (bs : List Bool) {i : Nat} (hi : i ≤ 20) : betB (bwS bs i) (nwS bs i) = true := pairs_of bet_all (cell_lt bs hi) (bw_mem bs hi) (nw_mem bs hi)
theorem rw_fin (bs : List Bool) {i : Nat} (hi : i ≤ 20) : isFin single (rwS bs i) = true := by
  have := near_at bs hi
  unfold nearB at this
  simp only [Bool.and_eq_true] at this
  exact this.1.1.1
theorem bw_finite (bs : List Bool) {i : Nat} (hi : i ≤ 20) : isFin single (bwS bs i) = true := by
  have := bet_at bs hi
  unfold betB at this
  simp only [Bool.and_eq_true] at this
  exact this.1.1.1.1.1
theorem rwL_fin (bs : List Bool) (hl : bs.length ≤ 20) : (rwL bs).all (isFin single) = true := by
  refine List.all_eq_true.2 fun x hx => ?_
  obtain ⟨i, hi, rfl⟩ := List.mem_map.1 hx
  exact rw_fin bs (by have := List.mem_range.1 hi; omega)
theorem bwL_fin (bs : List Bool) (hl : bs.length ≤ 20) : (bwL bs).all (isFin single) = true := by
  refine List.all_eq_true.2 fun x hx => ?_
  obtain ⟨i, hi, rfl⟩ := List.mem_map.1 hx
  exact bw_finite bs (by have := List.mem_range.1 hi; omega)
end Go.Proofs.Ytfkjnaaplhcheaa
