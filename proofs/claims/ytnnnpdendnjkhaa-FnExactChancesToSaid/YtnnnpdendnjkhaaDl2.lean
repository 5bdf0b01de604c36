/-
  statesBut; rows of single numbers that the call owns, with a row that grows, all apart.
-/
import Derived.Test.YtnnnpdendnjkhaaDl1
namespace Go.Proofs.Ytnnnpdendnjkhaa
open Go Go.RowKit

set_option maxHeartbeats 800000 in
theorem statesBut_any (n : Nat) (hn : 1 ≤ n ∧ n ≤ 12) (A : Option Addr) (m cA : Nat) (B : Option Addr) (but : List Int) (c : Nat) (w : World) (hb : but.length ≤ 64) (h : Rd w w.heap.size B (il but)) :
    Calls Try.prog 58 #[.agg #[.int .i64 n, .slice A m cA], .slice B but.length c] w (fun e w' => ∃ g cap, e = .returned (.slice (some ⟨g, 0, none⟩) (openL n but).length cap) ∧ w.heap.size ≤ g ∧ Rd w' w'.heap.size (some ⟨g, 0, none⟩) (il (openL n but)) ∧ Below w.heap.size w w') := by
  have HN := Lib.hid fun W => numbersFrom_any n (by omega) W
  have HD := Lib.hid fun base g cap b W h1 h2 h3 h4 h5 => delete_own (upsN n) but base g cap b c B W h1 h2 (by rw [upsN_len]; omega) hb h3 h4 h5
  have HO : Hid ((upsN n).filter (fun x => !but.contains x) = openL n but) := Lib.hid rfl
  have HL := Lib.hid (upsN_len n)
  rw [HL.out] at HD
  rw [HO.out] at HD
  have HR := Lib.hid h
  obtain ⟨n1, n2⟩ := hn
  clear h
  generalize openL n but = L at *
  go_enter Try.func58, Try.ntmps58
  go_upto_region 1 with fail
  generalize hW1 : World.alloc (World.alloc w _) _ = W1
  have c0 : W1.cell? ⟨w.heap.size, 0, none⟩ = some (.int .i64 n) := by rw [← hW1]; simp [go_sem]
  have c1 : W1.cell? ⟨w.heap.size + 1, 0, none⟩ = some (.slice B but.length c) := by rw [← hW1]; simp [go_sem]
  have HB1 : Hid (Below w.heap.size w W1) := by rw [← hW1]; exact Lib.hid (below_al (below_al (Below.refl _ _) _) _)
  have HS1 : Hid (W1.heap.size = w.heap.size + 1 + 1) := by rw [← hW1]; exact Lib.hid (by simp)
  clear hW1
  go_wp2_with (go_at_call 74; refine (HN.out _).mono ?_; rintro e w2 ⟨A2, cap2, rfl, hown2, hb2⟩)
  have hown2' := hown2
  obtain ⟨g, hA, hg⟩ : ∃ g, A2 = some ⟨g, 0, none⟩ ∧ W1.heap.size ≤ g := by
    rcases hown2.2 with ⟨hv, h0⟩ | ⟨g', cap', cur, hv, hbg', -⟩
    · omega
    · injection hv with hA
      exact ⟨g', hA, hbg'⟩
  subst hA
  have c2 : w2.cell? ⟨w.heap.size + 1, 0, none⟩ = some (.slice B but.length c) := keepC hb2 c1
  have HG := Lib.hid hg
  have HO2 := Lib.hid hown2
  have HB2 := Lib.hid hb2
  clear hown2 hown2' hb2 c0 c1 hg
  go_wp2_with (go_at_call 73; refine (HD.out W1.heap.size g cap2 (w.heap.size + 1) _ (by first | exact HO2.out | exact own_below HO2.out (below_al (Below.refl _ _) _)) HG.out (by have := HG.out; have := HS1.out; omega) (by first | exact c2 | exact keepC (below_al (Below.refl _ _) _) c2) ((HR.out.below (below_next HB1.out HB2.out)).more (by have := HG.out; have := HB1.out.size; omega))).mono ?_; rintro e w3 ⟨rfl, hrd, hgr⟩; have HRD := Lib.hid hrd; have HGR := Lib.hid hgr; clear hrd hgr)
  go_ret
  refine ⟨g, cap2, rfl, by have := HG.out; have := HB1.out.size; omega, HRD.out, (below_next HB1.out HB2.out).grown HGR.out (below_next HB1.out HB2.out).size fun j hj => ?_⟩
  injection hj with hj
  have := HG.out
  have := HB1.out.size
  omega
end Go.Proofs.Ytnnnpdendnjkhaa
