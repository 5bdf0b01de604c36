/-
  impl.eachRow, whole.
-/
import Derived.Test.YtbpigeipjeegiaaEr
import Derived.Laws.EntriesVeiled
namespace Go.Proofs.Ytbpigeipjeegiaa
open Go Go.RowKit

theorem cl_new (W : World) (B : Nat) (v : Value) (t : TypeId) (h : W.heap.size = B) : (W.alloc (.cells #[v] t)).cell? ⟨B, 0, none⟩ = some v := by
  subst h
  rw [World.cell?_alloc_new]
  rfl
theorem cl_up {W : World} {p : Addr} {v : Value} (o : Obj) (h : W.cell? p = some v) : (W.alloc o).cell? p = some v := keepC (below_al (Below.refl _ _) o) h
theorem fz_new (W : World) (B : Nat) (v : Value) (t : TypeId) (h : W.heap.size = B) : (W.alloc (.cells #[v] t)).frozen? ⟨B, 0, none⟩ = false := by
  subst h
  simp
theorem fz_up {W : World} {b : Nat} (o : Obj) (hb : b < W.heap.size) (h : W.frozen? ⟨b, 0, none⟩ = false) : (W.alloc o).frozen? ⟨b, 0, none⟩ = false := ((below_al (Below.refl W.heap.size W) o).frozen (p := ⟨b, 0, none⟩) hb).trans h
theorem ow_nil (W : World) (B : Nat) (t : TypeId) (h : W.heap.size = B) : (W.alloc (.cells #[] t)).ownsRow 0 t 1 (.slice (some ⟨B, 0, none⟩) 0 0) 0 [] := by
  subst h
  refine ⟨rfl, .inr ⟨W.heap.size, 0, #[], rfl, Nat.zero_le _, heap_alloc_new W _, Nat.le_refl _, by unfold maxLen; omega, by simp, by simp⟩⟩
theorem ow_up {W : World} {base n c g : Nat} {e : TypeId} {vs : List Value} (o : Obj) (h : W.ownsRow base e 1 (.slice (some ⟨g, 0, none⟩) n c) n vs) : (W.alloc o).ownsRow base e 1 (.slice (some ⟨g, 0, none⟩) n c) n vs := own_below h (below_al (Below.refl _ _) o)
set_option maxRecDepth 100000 in
set_option maxHeartbeats 3200000 in
theorem eachRow_any {σ : Type} (V : σ → List Nat → World → Prop) (nx : σ → List Nat → σ) (gl ol lc : Nat) (p1 p2 p3 : Value) (lims : List Nat) (sum : Nat) (x : σ) (gs : List Nat) (W : World) (hV : VC V nx W.heap.size p1 p2 p3 lims sum) (hF : VF V W.heap.size) (hln : lims.length ≤ 4) (hlb : ∀ i, i < lims.length → lims[i]! ≤ 1048576) (hsum : sum ≤ 1048576)
    (hv : V x gs W) (hlt : ∀ b, b ∈ gs → b < W.heap.size) (hgl : gl ∉ gs ∧ gl < W.heap.size) (hr : ∀ i, i < lims.length → W.cell? ⟨gl, ol + i, none⟩ = some (.int .i64 (lims[i]! : Nat))) :
    Calls Try.prog 27 #[.int .i64 sum, .slice (some ⟨gl, ol, none⟩) lims.length lc, .func (.func 44) #[] #[p1, p2, p3]] W (fun e w' => e = .returned (.tuple #[]) ∧ ∃ gs', V (goRows nx [] (rowsOf lims sum) x) gs' w' ∧ Kp gs W w' ∧ ∀ b, b ∈ gs' → (b ∈ gs ∨ W.heap.size ≤ b) ∧ b < w'.heap.size) := by
  have hmf : ∀ (fn : Fn) (first cap : Array Value) (w : World), (Instr.makeFunc fn first cap).run Try.prog w = .ok (.func fn first cap) w := fun _ _ _ _ => rfl
  have H := Lib.hid (eachRow1_any V nx W.heap.size (W.heap.size + 3) W.heap.size (W.heap.size + 1) (W.heap.size + 4) gl ol lc p1 p2 p3 lims sum hV hF hln hlb lims.length [] sum x gs (W.heap.size + 2) 0)
  have HV := Lib.hid hv
  have HF := Lib.hid hF
  have HL := Lib.hid hlt
  have HG := Lib.hid hgl
  have HR := Lib.hid hr
  clear hV hF hv hlt hgl hr hlb
  go_enter Try.func27, Try.ntmps27
  go_upto_region 4 with fail
  have HX : Hid (∀ W5, W5 = ((((W.alloc (.cells #[.slice (some ⟨gl, ol, none⟩) lims.length lc] 24)).alloc (.cells #[.func (.func 44) #[] #[p1, p2, p3]] 52)).alloc (.cells #[] 2)).alloc (.cells #[.slice (some ⟨W.heap.size + 2, 0, none⟩) 0 0] 24)).alloc (.cells #[.func (.func 38) #[] #[.pointer (some ⟨W.heap.size + 3, 0, none⟩), .pointer (some ⟨W.heap.size, 0, none⟩), .pointer (some ⟨W.heap.size + 1, 0, none⟩), .pointer (some ⟨W.heap.size + 4, 0, none⟩)]] 65) →
      Below W.heap.size W W5 ∧ W5.heap.size = W.heap.size + 5 ∧ ES V W.heap.size (W.heap.size + 3) x gs (W.heap.size + 2) 0 [] W5 ∧ RO (W.heap.size + 3) W.heap.size (W.heap.size + 1) (W.heap.size + 4) gl ol lc p1 p2 p3 lims W5) := Lib.hid fun W5 hW5 => by
    have hb : Below W.heap.size W W5 := by
      rw [hW5]
      repeat (first | exact Below.refl _ _ | refine below_al ?_ _)
    have hz : W5.heap.size = W.heap.size + 5 := by rw [hW5]; simp
    refine ⟨hb, hz, ⟨HF.out _ _ _ _ HV.out hb.size (fun b hl _ => hb.block b hl), ?_, ?_, ?_, fun b hm => by have := HL.out b hm; omega, fun hm => by have := HL.out _ hm; omega, fun hm => by have := HL.out _ hm; omega, by omega, by omega, by omega⟩, ⟨?_, ?_, ?_, fun i hi => keepC hb (HR.out i hi)⟩⟩
    · rw [hW5]
      repeat (first | exact cl_new _ _ _ _ (by simp) | refine cl_up _ ?_)
    · rw [hW5]
      exact fz_up _ (by simp) (fz_new _ _ _ _ (by simp))
    · rw [hW5]
      exact ow_up _ (ow_up _ (ow_nil _ _ _ (by simp)))
    · rw [hW5]
      repeat (first | exact cl_new _ _ _ _ (by simp) | refine cl_up _ ?_)
    · rw [hW5]
      repeat (first | exact cl_new _ _ _ _ (by simp) | refine cl_up _ ?_)
    · rw [hW5]
      repeat (first | exact cl_new _ _ _ _ (by simp) | refine cl_up _ ?_)
  have e9 := HX.out _ rfl
  have E9 := Lib.hid e9
  clear e9 HX
  generalize World.alloc (World.alloc (World.alloc (World.alloc (World.alloc W _) _) _) _) _ = W5 at *
  have e4 := E9.out.2.2.2.p
  have HN : Hid (W.heap.size ∉ (W.heap.size + 3) :: (W.heap.size + 2) :: gs ∧ W.heap.size + 1 ∉ (W.heap.size + 3) :: (W.heap.size + 2) :: gs ∧ W.heap.size + 4 ∉ (W.heap.size + 3) :: (W.heap.size + 2) :: gs ∧ gl ∉ (W.heap.size + 3) :: (W.heap.size + 2) :: gs) := Lib.hid (by
    have h9 := HG.out
    have h8 : ∀ b, W.heap.size ≤ b → b ∉ gs := fun b hb hm => by have := HL.out b hm; omega
    have g0 := h8 W.heap.size (by omega)
    have g1 := h8 (W.heap.size + 1) (by omega)
    have g4 := h8 (W.heap.size + 4) (by omega)
    simp only [List.mem_cons, not_or]
    exact ⟨⟨by omega, by omega, g0⟩, ⟨by omega, by omega, g1⟩, ⟨by omega, by omega, g4⟩, ⟨by omega, by omega, h9.1⟩⟩)
  have HC := Lib.hid (H.out W5 (by simp) (by omega) (fun r hr => hr) E9.out.1.size E9.out.2.2.1 E9.out.2.2.2 HN.out)
  clear H
  go_wp2_with (go_at_call 38; refine HC.out.mono ?_; rintro e w2 ⟨rfl, gs2, g2, c2, hE2, hK2, hS2, hG2⟩; have E2 := Lib.hid hE2; have K2 := Lib.hid hK2; have S2 := Lib.hid hS2; clear hE2 hK2 hS2 hG2)
  go_end0
  refine ⟨rfl, gs2, E2.out.v, ?_, fun b hb => ⟨?_, E2.out.lt b hb⟩⟩
  · refine (Kp.of_below (bs := gs) E9.out.1).trans K2.out fun b hb => ?_
    simp only [List.mem_cons] at hb
    rcases hb with rfl | rfl | hb
    · exact .inr (by omega)
    · exact .inr (by omega)
    · exact .inl hb
  · rcases S2.out b hb with h | h
    · exact .inl h
    · have := E9.out.1.size
      exact .inr (by omega)
end Go.Proofs.Ytbpigeipjeegiaa

