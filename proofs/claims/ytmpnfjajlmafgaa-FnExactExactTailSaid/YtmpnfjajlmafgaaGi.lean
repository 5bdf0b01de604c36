/-
  spec.ExactTail, where the table serves: given what l06Walk answers.
-/
import Derived.Test.YtmpnfjajlmafgaaGh
import Derived.Test.YtmpnfjajlmafgaaGe
namespace Go.Proofs.Ytmpnfjajlmafgaa
open Go Go.RowKit

theorem preSum_tk (xs : List Nat) : ∀ i, i ≤ xs.length → preSum xs i = (xs.take i).sum
  | 0, _ => by simp [preSum]
  | i + 1, h => by
    rw [List.take_succ_eq_append_getElem (by omega), List.sum_append, ← preSum_tk xs i (by omega)]
    show preSum xs i + xs[i]! = _
    rw [getElem!_pos xs i (by omega)]
    simp
/-- what l06Walk answers at the first column -/
def WalkOk (R C : Nat) (own : Int) (rs cs : List Nat) (y : Int × Int) : Prop := ∀ (b1 b2 : Nat) (W : World), (∀ i, i < R → W.cell? ⟨b1, i, none⟩ = some (.int .i64 (rs[i]! : Nat))) → (∀ i, i < C → W.cell? ⟨b2, i, none⟩ = some (.int .i64 (cs[i]! : Nat))) →
  Calls Try.prog 40 #[.slice (some ⟨b1, 0, none⟩) R R, .slice (some ⟨b2, 0, none⟩) C C, .int .i64 0, .int .i64 1, .int .i64 own] W (walkOut y W)
set_option maxRecDepth 100000 in
set_option maxHeartbeats 1600000 in
theorem specExactTail_ok (R C : Nat) (ns rs cs : List Nat) (y : Int × Int) (A : Option Addr) (ct : Nat) (w : World) (hR : 2 ≤ R ∧ R ≤ 3) (hC : 2 ≤ C ∧ C ≤ 3) (hl : ns.length = R * C) (hs : 1 ≤ ns.sum ∧ ns.sum ≤ 20) (h : Rd w w.heap.size A (nlv ns)) (hrs : ∀ i, i < R → rs[i]! = rwTo ns C (R * C) i) (hcs : ∀ i, i < C → cs[i]! = colsTo ns C (R * C) i) (hk : WalkOk R C (lwTo ns R C C) rs cs y) :
    Calls Try.prog 16 #[tbV R C A (R * C) ct] w (tlOut y.1 y.2 true w) := by
  obtain ⟨hv, hal, hsm⟩ := tab_yes hR hC hl hs
  have hln : (ns.map Int.ofNat).length = R * C := by rw [List.length_map, hl]
  have hRC : 4 ≤ R * C ∧ R * C ≤ 9 := by
    have h1 := Nat.mul_le_mul hR.1 hC.1
    have h2 := Nat.mul_le_mul hR.2 hC.2
    omega
  have hh : Rd w w.heap.size A (il (ns.map Int.ofNat)) := by rw [il_nlv]; exact h
  have hbx := below_al (Below.refl w.heap.size w) (.cells #[.int .i64 R, .int .i64 C, .slice A (R * C) ct] 28)
  have HV := Lib.hid (l06Is_any w.heap.size R C A (ns.map Int.ofNat) ct (w.alloc (.cells #[.int .i64 R, .int .i64 C, .slice A (R * C) ct] 28)) (by omega) (by rw [hln]; exact tbAt_box) (hh.at_ hbx))
  rw [hv] at HV
  have HT : Hid (∀ W, Below w.heap.size w W → Calls Try.prog 38 #[.slice A (R * C) ct] W (SameOut (.tuple #[.int .i64 (ns.sum : Nat), .bool true]) W)) := Lib.hid fun W hW => by
    have := l06Total_any A (ns.map Int.ofNat) ct W (by omega) (hh.at_ hW)
    rw [tot_of hv, hsm, hln] at this
    exact this
  obtain ⟨g, o, rfl, hg, hcl⟩ := rd_cells h (by omega)
  have hel : ∀ i : Nat, ns[i]! ≤ 20 := fun i => by
    by_cases hi : i < ns.length
    · rw [getElem!_pos ns i hi]
      exact Nat.le_trans (le_sum_of_mem (List.getElem_mem hi)) hs.2
    · rw [getElem!_neg ns i hi]
      exact Nat.zero_le _
  have hps : ∀ i, i ≤ R * C → preSum ns i ≤ 60 := fun i hi => by
    rw [preSum_tk ns i (by omega)]
    exact Nat.le_trans (sum_take_le _ _) (by omega)
  have KB := Lib.hid hbx
  have k := Lib.hid (tbAt_box (w := w) (r := R) (l := C) (A := some ⟨g, o, none⟩) (n := R * C) (c := ct))
  have HSU : Hid (∀ W, Below (w.alloc (.cells #[.int .i64 R, .int .i64 C, .slice (some ⟨g, o, none⟩) (R * C) ct] 28)).heap.size (w.alloc (.cells #[.int .i64 R, .int .i64 C, .slice (some ⟨g, o, none⟩) (R * C) ct] 28)) W → Calls Try.prog 39 #[.pointer (some ⟨w.heap.size, 0, none⟩)] W (sumsOut ns R C W)) := Lib.hid fun W hW =>
    l06Sums_any w.heap.size g o R C ct ns W (by omega) (by omega) hps (k.out.keep hW) fun i hi => keepC hW (keepC hbx (hcl i (by omega)))
  have HWT : Hid (∀ W, Below (w.alloc (.cells #[.int .i64 R, .int .i64 C, .slice (some ⟨g, o, none⟩) (R * C) ct] 28)).heap.size (w.alloc (.cells #[.int .i64 R, .int .i64 C, .slice (some ⟨g, o, none⟩) (R * C) ct] 28)) W → Calls Try.prog 41 #[.pointer (some ⟨w.heap.size, 0, none⟩)] W (fun e w' => e = .returned (.int .i64 (lwTo ns R C C)) ∧ Below W.heap.size W w')) := Lib.hid fun W hW =>
    l06Weight_any w.heap.size g o R C ct ns W (by omega) (by omega) hel (k.out.keep hW) fun i hi => keepC hW (keepC hbx (hcl i (by omega)))
  have HWK : Hid (∀ (b1 b2 : Nat) (W0 W : World), W0.rowIs b1 2 R (fun q => .int .i64 (rwTo ns C (R * C) q : Nat)) → W0.rowIs b2 2 C (fun q => .int .i64 (colsTo ns C (R * C) q : Nat)) → Below W0.heap.size W0 W → Calls Try.prog 40 #[.slice (some ⟨b1, 0, none⟩) R R, .slice (some ⟨b2, 0, none⟩) C C, .int .i64 0, .int .i64 1, .int .i64 (lwTo ns R C C)] W (walkOut y W)) := Lib.hid fun b1 b2 W0 W h1 h2 hW =>
    hk b1 b2 W (fun i hi => by rw [hrs i hi]; exact keepC hW (h1.cell hi)) fun i hi => by rw [hcs i hi]; exact keepC hW (h2.cell hi)
  unfold tbV at *
  unfold tlOut walkOut at *
  unfold BoolOut at HV
  unfold SameOut at HT
  unfold sumsOut at HSU
  clear h hh hv hcl hal hsm hl hln hk hrs hcs hel hps hbx
  have hr3 : ¬ (3 : Int) < (R : Int) := by omega
  have hc3 : ¬ (3 : Int) < (C : Int) := by omega
  have hs3 : ¬ (20 : Int) < (ns.sum : Int) := by omega
  generalize lwTo ns R C C = own at *
  generalize ns.sum = S at *
  generalize rwTo ns C (R * C) = rf at *
  generalize colsTo ns C (R * C) = cf at *
  generalize R * C = n at *
  go_enter Try.func16, Try.ntmps16
  go_upto_region 1 with fail
  generalize World.alloc w _ = w1 at *
  go_wp2_with (first
    | (go_at_call 37; refine HV.out.mono ?_; rintro e w2 ⟨rfl, hb2⟩; obtain ⟨m1, m2, m3⟩ := k.out.keep hb2; have S2 := Lib.hid (HSU.out _ hb2); have T2 := Lib.hid hb2; have B2 := Lib.hid (below_next KB.out hb2); clear hb2)
    | (go_at_call 38; refine (HT.out _ B2.out).mono ?_; rintro e w3 ⟨rfl, rfl⟩)
    | (go_at_call 39; refine S2.out.mono ?_; rintro e w4 ⟨b1, b2, rfl, hr1, hr2, hb4⟩; have R4 := Lib.hid (And.intro hr1 hr2); have T4 := Lib.hid (below_next T2.out hb4); have B4 := Lib.hid (below_next B2.out hb4); clear hr1 hr2 hb4)
    | (go_at_call 41; refine (HWT.out _ T4.out).mono ?_; rintro e w5 ⟨rfl, hb5⟩; have K5 := Lib.hid (HWK.out _ _ _ _ R4.out.1 R4.out.2 hb5); have B5 := Lib.hid (below_next B4.out hb5); clear hb5)
    | (go_at_call 40; refine K5.out.mono ?_; rintro e w6 ⟨rfl, hb6⟩; have B6 := Lib.hid (below_next B5.out hb6); clear hb6))
  go_ret3
  exact ⟨rfl, B6.out⟩
end Go.Proofs.Ytmpnfjajlmafgaa
