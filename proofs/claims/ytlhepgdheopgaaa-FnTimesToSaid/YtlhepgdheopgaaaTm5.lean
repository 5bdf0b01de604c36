/-
  What the law on times asks of the program: TimesTo, ChancesTo, and a number that bytes choose.
-/
import Derived.Test.YtlhepgdheopgaaaTm4
import Derived.Test.YtlhepgdheopgaaaTt2
import Derived.Test.YtlhepgdheopgaaaBc
import Derived.Test.YtlhepgdheopgaaaFrb
namespace Go.Proofs.Ytlhepgdheopgaaa
open Go Go.RowKit Ieee

section
variable {n : Nat} {xs : List Nat}
/-- a row that is given, with numbers of its own -/
def FlGive (n : Nat) (T : List Nat) (w : World) (e : Ending) (w' : World) : Prop := ∃ A c, e = .returned (.tuple #[.slice A n c, .bool true]) ∧ w'.ownsRow w.heap.size 31 1 (.slice A n c) n (fl T) ∧ Below w.heap.size w w'
theorem TimesTo_at {A : Option Addr} {c g : Nat} {T : List Nat} {W : World} (h : Chn 32 7 n xs) (hg : g < n) (hT : timesN xs n g = some T) (hl : T.length = n) (hc1 : n * n ≤ c) (hc2 : c ≤ 9223372036854775807) (hA : Rd W W.heap.size A (fl xs)) :
    Calls Try.prog 28 #[.agg #[.int .i64 n, .slice A (n * n : Nat) c], .int .i64 g] W (FlGive n T W) := by
  have hx := h.len
  have := TimesTo_ok n g A xs c W (by omega) hc2 hA (h.valid (by decide)) hg
  unfold flOut at this
  rw [hT, Option.getD_some, Option.isSome_some, hl, hx] at this
  exact this
theorem ChancesTo_at {A : Option Addr} {c g o : Nat} {T : List Nat} {W : World} (h : Chn 32 7 n xs) (hg : g < n) (ho : o < n) (hgo : g ≠ o) (hT : chancesN xs n g o = some T) (hl : T.length = n) (hc1 : n * n ≤ c) (hc2 : c ≤ 9223372036854775807) (hA : Rd W W.heap.size A (fl xs)) :
    Calls Try.prog 29 #[.agg #[.int .i64 n, .slice A (n * n : Nat) c], .int .i64 g, .int .i64 o] W (FlGive n T W) := by
  have hx := h.len
  have := ChancesTo_ok n g o A xs c W (by omega) hc2 hA (h.valid (by decide)) hg ho hgo
  unfold flOut at this
  rw [hT, Option.getD_some, Option.isSome_some, hl, hx] at this
  exact this
set_option maxHeartbeats 800000 in
/-- the number that bytes choose, the same at every later memory -/
theorem b10At_val (A : Option Addr) (n c : Nat) (i N : Int) (W : World) (hN : 1 ≤ N ∧ N ≤ 1000) (hi : 0 ≤ i ∧ i ≤ 1000) (h : BR W A n) :
    ∃ v : Nat, (v : Int) < N ∧ ∀ w, Below W.heap.size W w → Calls Try.prog 26 #[.slice A n c, .int .i64 i, .int .i64 N] w (Quiet (.int .i64 v) w) := by
  obtain ⟨n1, n2⟩ := hN
  obtain ⟨I, rfl⟩ := Int.eq_ofNat_of_zero_le hi.1
  have hi2 := hi.2
  clear hi
  by_cases hN1 : N ≤ 1
  · refine ⟨0, by omega, fun w _ => ?_⟩
    go_enter Try.func26, Try.ntmps26
    go_wp2
    go_ret
    exact .mk0
  · obtain ⟨M, rfl⟩ := Int.eq_ofNat_of_zero_le (show 0 ≤ N by omega)
    have hN' : ¬ (M : Int) ≤ 1 := hN1
    have hN2 : (1 : Int) < M := by omega
    by_cases hlt : I < n
    · have hlt' : (I : Int) < (n : Int) := by omega
      obtain ⟨b, off, v, rfl, hb, hv, hc⟩ := h I hlt
      refine ⟨v % M, by have := Nat.mod_lt v (show 0 < M by omega); omega, fun w hw => ?_⟩
      have hc' := keepC hw hc
      clear hc hw
      go_enter Try.func26, Try.ntmps26
      go_wp2
      go_ret
      exact .mk0
    · have hlt' : ¬ (I : Int) < (n : Int) := by omega
      refine ⟨(I * 37 + 11) % M, by have := Nat.mod_lt (I * 37 + 11) (show 0 < M by omega); omega, fun w _ => ?_⟩
      have e : (((I * 37 + 11) % M : Nat) : Int) = ((I : Int) * 37 + 11) % (M : Int) := by
        rw [Int.natCast_emod, Int.natCast_add, Int.natCast_mul]
        rfl
      rw [e]
      go_enter Try.func26, Try.ntmps26
      go_wp2
      go_ret
      exact .mk0
/-- what one round asks -/
theorem round_times (h : Chn 32 7 n xs) {T : List Nat} (hT : ∀ i, i < n → isFin single (rowOf T i) = true ∧ val (rowOf T i) ≤ 24 * uE) (h5 : n ≤ 5) {i k : Nat} (hi : i < n) (hk : k < n) :
    ((∀ w, (convert 31 37 (.float .f32 (stepOf xs n i k))).run Try.prog w = .ok (.float .f64 (wd (stepOf xs n i k))) w) ∧ ∀ w, (convert 31 37 (.float .f32 (rowOf T k))).run Try.prog w = .ok (.float .f64 (wd (rowOf T k))) w) ∧
    floatBits .mul .f64 (wd (stepOf xs n i k)) (wd (rowOf T k)) = some (gmul Ieee.double (wd (stepOf xs n i k)) (wd (rowOf T k))) ∧ floatBits .add .f64 (accD (stepOf xs n i) (rowOf T) k) (gmul Ieee.double (wd (stepOf xs n i k)) (wd (rowOf T k))) = some (accD (stepOf xs n i) (rowOf T) (k + 1)) := by
  obtain ⟨s1, s2, -⟩ := step_sv h hi hk
  obtain ⟨t1, t2⟩ := hT k hk
  have e1 : uE ≤ uT := by decide
  have e2 : 24 * uE ≤ uT := by decide
  have p := prod_d s1 t1 s2 t2
  have a := (acc_row h h5 hT hi).1 k (by omega)
  refine ⟨⟨fun w => wd_run_s s1 (by omega) w, fun w => wd_run_s t1 (by omega) w⟩, (gmul_run_s (wd_s s1 (by omega)).2.1 (wd_s t1 (by omega)).2.1).1, (gadd_run_s a p.1).1⟩
end
end Go.Proofs.Ytlhepgdheopgaaa
