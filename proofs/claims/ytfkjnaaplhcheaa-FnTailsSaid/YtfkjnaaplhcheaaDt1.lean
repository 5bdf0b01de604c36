/-
  Sums of integers (impl.total, spec.l06First); spec.l04Shuffle.
-/
import Derived.Test.YtfkjnaaplhcheaaRw
import Derived.Test.YtfkjnaaplhcheaaRs
namespace Go.Proofs.Ytfkjnaaplhcheaa
open Go Go.RowKit Ieee SeedFact

theorem inB_of {n a b : Int} (h : inB n a b = true) : a ≤ n ∧ n ≤ b := of_decide_eq_true h
def sumZ (l : List Int) (k : Nat) : Int := (l.take k).sum
theorem sumZ_succ {l : List Int} {k : Nat} (h : k < l.length) : sumZ l (k + 1) = sumZ l k + l[k] := by
  unfold sumZ
  rw [List.take_succ_eq_append_getElem h, List.sum_append]
  simp
/-- numbers from -1000 to 1000 -/
def smallL (l : List Int) : Prop := ∀ x ∈ l, -1000 ≤ x ∧ x ≤ 1000
theorem sumZ_in {l : List Int} (h : smallL l) : ∀ k, k ≤ l.length → -1000 * (k : Int) ≤ sumZ l k ∧ sumZ l k ≤ 1000 * (k : Int) := by
  intro k
  induction k with
  | zero => intro _; unfold sumZ; simp
  | succ k ih =>
    intro hk
    have h1 := ih (by omega)
    have h2 := h l[k] (List.getElem_mem (by omega))
    rw [sumZ_succ (by omega)]
    omega
set_option maxHeartbeats 800000 in
theorem totalZ_any (A : Option Addr) (l : List Int) (c : Nat) (w : World) (hx : l.length ≤ 1048576) (hs : smallL l) (h : Rd w w.heap.size A (il l)) : Calls Try.prog 49 #[.slice A l.length c] w (fun e w' => e = .returned (.int .i64 (sumZ l l.length)) ∧ w = w') := by
  have HT := Lib.hid (sumZ_in hs)
  have H0 : Hid (sumZ l 0 = 0) := Lib.hid rfl
  go_enter Try.func49, Try.ntmps49
  go_wp2_with fail
  go_loopw [3, 8] (fun sv kv wk => ∃ k : Nat, k ≤ l.length ∧ kv = .int .i64 k ∧ sv = .int .i64 (sumZ l k) ∧ wk = w) (fun _ kv _ => l.length - (intOf kv).toNat)
  case atStart => exact ⟨0, Nat.zero_le _, rfl, by rw [H0.out], rfl⟩
  case round =>
    obtain ⟨k, hk, rfl, rfl, rfl⟩ := hrel
    by_cases hkn : k < l.length
    · obtain ⟨b, off, rfl, hb, hc⟩ := h.ilAt hkn
      have hst := sumZ_succ hkn
      have h1 := HT.out k (by omega)
      have h2 := HT.out (k + 1) (by omega)
      have hg : l.getD k 0 = l[k] := by rw [List.getD_eq_getElem?_getD, List.getElem?_eq_getElem hkn]; rfl
      try rw [hg] at hc
      clear h hg
      generalize hs2 : sumZ l (k + 1) = s2 at *
      have HS2 := Lib.hid hs2
      clear hs2
      generalize sumZ l k = s1 at *
      generalize l[k] = x at *
      have hw1 : IntKind.i64.wrap (s1 + x) = s2 := by
        rw [hst]
        exact IntWalk.i64_in _ (by omega)
      clear hst
      go_wp2_with fail
      exact ⟨⟨k + 1, by omega, by go_num, by rw [HS2.out], trivial⟩, by simp [intOf]; omega⟩
    · obtain rfl : k = l.length := by omega
      go_wp2_with fail
      go_ret
      exact ⟨rfl, rfl⟩
set_option maxHeartbeats 800000 in
theorem firstZ_any (A : Option Addr) (l : List Int) (n c : Nat) (w : World) (hn : n ≤ l.length) (hx : l.length ≤ 1048576) (hs : smallL l) (h : Rd w w.heap.size A (il l)) : Calls Try.prog 84 #[.slice A l.length c, .int .i64 n] w (fun e w' => e = .returned (.int .i64 (sumZ l n)) ∧ w = w') := by
  have HT := Lib.hid (sumZ_in hs)
  have H0 : Hid (sumZ l 0 = 0) := Lib.hid rfl
  go_enter Try.func84, Try.ntmps84
  go_wp2_with fail
  go_loopw [5, 6] (fun sv kv wk => ∃ k : Nat, k ≤ n ∧ kv = .int .i64 k ∧ sv = .int .i64 (sumZ l k) ∧ wk = w) (fun _ kv _ => n - (intOf kv).toNat)
  case atStart => exact ⟨0, Nat.zero_le _, rfl, by rw [H0.out], rfl⟩
  case round =>
    obtain ⟨k, hk, rfl, rfl, rfl⟩ := hrel
    by_cases hkn : k < n
    · have hkl : k < l.length := by omega
      obtain ⟨b, off, rfl, hb, hc⟩ := h.ilAt hkl
      have hst := sumZ_succ hkl
      have h1 := HT.out k (by omega)
      have h2 := HT.out (k + 1) (by omega)
      have hg : l.getD k 0 = l[k] := by rw [List.getD_eq_getElem?_getD, List.getElem?_eq_getElem hkl]; rfl
      try rw [hg] at hc
      clear h hg
      generalize hs2 : sumZ l (k + 1) = s2 at *
      have HS2 := Lib.hid hs2
      clear hs2
      generalize sumZ l k = s1 at *
      generalize l[k] = x at *
      have hw1 : IntKind.i64.wrap (s1 + x) = s2 := by
        rw [hst]
        exact IntWalk.i64_in _ (by omega)
      clear hst
      go_wp2_with fail
      exact ⟨⟨k + 1, by omega, by go_num, by rw [HS2.out], trivial⟩, by simp [intOf]; omega⟩
    · obtain rfl : k = n := by omega
      go_wp2_with fail
      go_ret
      exact ⟨rfl, rfl⟩
/-- but for two blocks all that lay there lies there -/
structure Fr (p g : Nat) (w w' : World) : Prop where
  os : w'.os = w.os
  tape : w'.tape = w.tape
  output : w'.output = w.output
  size : w.heap.size ≤ w'.heap.size
  block : ∀ j, j < w.heap.size → j ≠ p → j ≠ g → w'.heap[j]? = w.heap[j]?
theorem Fr.refl (p g : Nat) (w : World) : Fr p g w w := ⟨rfl, rfl, rfl, Nat.le_refl _, fun _ _ _ _ => rfl⟩
theorem Fr.grown {p g : Nat} {w w1 w2 : World} (h : Fr p g w w1) (hg : w1.grownBy w2 (some p)) : Fr p g w w2 :=
  ⟨hg.os.trans h.os, hg.tape.trans h.tape, hg.output.trans h.output, Nat.le_trans h.size hg.size, fun j hj h1 h2 => (hg.block j (Nat.lt_of_lt_of_le hj h.size) (fun e => h1 (Option.some.inj e))).trans (h.block j hj h1 h2)⟩
theorem Fr.set {p g : Nat} {w w1 : World} (h : Fr p g w w1) (i : Nat) (v : Value) : Fr p g w (w1.setCell ⟨g, i, none⟩ v) :=
  ⟨h.os, h.tape, h.output, by rw [World.size_setCell]; exact h.size, fun j hj h1 h2 => (Below.heap_setCell _ _ _ _ h2).trans (h.block j hj h1 h2)⟩
theorem Rw.grown {W W' : World} {g cap p : Nat} {xs : List Int} (h : Rw W g cap xs) (hg : W.grownBy W' (some p)) (hne : p ≠ g) : Rw W' g cap xs := h.block (hg.block g h.lt (fun e => hne (Option.some.inj e).symm))
/-- a seed and a row beside it, both turned; nothing else -/
def ShufOut (p : Nat) (k : Int) (s : Int × Int) (g c : Nat) (xs : List Int) (w : World) (w' : World) : Prop :=
  SdAt w' p k s.1 s.2 ∧ Rw w' g c xs ∧ Fr p g w w'
set_option maxRecDepth 100000 in
set_option maxHeartbeats 6400000 in
theorem l04Shuffle_any (p : Nat) (k : Int) (s : Int × Int) (g c : Nat) (xs : List Int) (w : World) (h : sdOk k s.1 s.2) (h1 : 1 ≤ xs.length) (h2 : xs.length < 41) (hp : SdAt w p k s.1 s.2) (hr : Rw w g c xs) (hne : p ≠ g) :
    Calls Try.prog 85 #[.pointer (some ⟨p, 0, none⟩), .slice (some ⟨g, 0, none⟩) xs.length c, .int .i64 0] w (fun e w' => e = .returned (.tuple #[]) ∧ ShufOut p k (shufI k (xs.length - 1) s xs).1 g c (shufI k (xs.length - 1) s xs).2 w w') := by
  have HB : Hid (∀ (i : Nat) (s : Int × Int) w, i + 2 < 41 → sdOk k s.1 s.2 → SdAt w p k s.1 s.2 → Calls Try.prog 87 #[.pointer (some ⟨p, 0, none⟩), .int .i64 ((i + 2 : Nat) : Int)] w (SBelowOut p k s.1 s.2 (i+2) w)) := Lib.hid fun i s w hi hs hp => l02Below_any p k s.1 s.2 (i+2) w hs (by omega) hi hp
  have HS := Lib.hid h
  have HP := Lib.hid hp
  have HR := Lib.hid hr
  clear h hp hr
  go_enter Try.func85, Try.ntmps85
  go_wp2_with fail
  go_loopw [6, 7, 8] (fun ct _ _ wr => ∃ (i : Nat) (t : Int × Int) (L : List Int), ct = .int .i64 i ∧ i + 1 ≤ xs.length ∧ L.length = xs.length ∧ sdOk k t.1 t.2 ∧ shufI k i t L = shufI k (xs.length - 1) s xs ∧ SdAt wr p k t.1 t.2 ∧ Rw wr g c L ∧ Fr p g w wr) (fun ct _ _ _ => (intOf ct).toNat)
  case atStart =>
    refine ⟨xs.length - 1, s, xs, ?_, by omega, rfl, HS.out, rfl, HP.out, HR.out, Fr.refl _ _ _⟩
    first | rfl | (congr 1; omega)
  case round =>
    obtain ⟨i, t, L, rfl, hi, hL, hok, hsh, hx, hrw, hfr⟩ := hrel
    rename World => wr
    have HX := Lib.hid hx
    have HR' := Lib.hid hrw
    have HF := Lib.hid hfr
    have HSH := Lib.hid hsh
    have HOK := Lib.hid hok
    have HL := Lib.hid hL
    clear hx hsh hrw hok hL hfr
    obtain ⟨ta, tb⟩ := t
    by_cases hi0 : i = 0
    · subst hi0
      go_wp2_with fail
      have e0 := HSH.out
      rw [shufI_zero] at e0
      rw [← e0]
      go_end0
      exact ⟨rfl, HX.out, HR'.out, HF.out⟩
    · have hbi : Calls Try.prog 87 #[.pointer (some ⟨p, 0, none⟩), .int .i64 ((i : Int) + 1)] wr (SBelowOut p k ta tb (i+1) wr) := by
        have h5 := HB.out (i-1) (ta, tb) wr (by omega) HOK.out HX.out
        rw [show ((i - 1 + 2 : Nat) : Int) = (i : Int) + 1 by omega, show i - 1 + 2 = i + 1 by omega] at h5
        exact h5
      have HBi := Lib.hid hbi
      have hstep : shufI k i (ta, tb) L = shufI k (i-1) (sW k ta tb (i+1)) (swapL L i (xW k ta tb (i+1))) := by
        obtain ⟨q, rfl⟩ := Nat.exists_eq_succ_of_ne_zero hi0
        exact shufI_succ k q (ta, tb) L
      have hok' : sdOk k (sW k ta tb (i+1)).1 (sW k ta tb (i+1)).2 := sW_ok (i+1) HOK.out
      have hxl : xW k ta tb (i+1) < i + 1 := xW_lt k ta tb (by omega)
      have HSTEP := Lib.hid hstep
      have HOK' := Lib.hid hok'
      clear hstep hok' hbi
      unfold SBelowOut at HBi
      generalize xW k ta tb (i+1) = x at *
      generalize sW k ta tb (i+1) = t' at *
      obtain ⟨a', b'⟩ := t'
      have hiL : i < L.length := by rw [HL.out]; omega
      have hxL : x < L.length := by omega
      have hLn := HL.out
      have hLc : L.length ≤ c := HR'.out.le
      have hfin : ∀ W6, SdAt W6 p k a' b' → Rw W6 g c L → Fr p g w W6 → ∃ (q : Nat) (t : Int × Int) (M : List Int), Value.int .i64 ((i : Int) - 1) = .int .i64 q ∧ q + 1 ≤ xs.length ∧ M.length = xs.length ∧ sdOk k t.1 t.2 ∧ shufI k q t M = shufI k (xs.length - 1) s xs ∧ SdAt (World.setCell (World.setCell W6 ⟨g, i, none⟩ (.int .i64 (L[x]?.getD 0))) ⟨g, x, none⟩ (.int .i64 (L[i]?.getD 0))) p k t.1 t.2 ∧ Rw (World.setCell (World.setCell W6 ⟨g, i, none⟩ (.int .i64 (L[x]?.getD 0))) ⟨g, x, none⟩ (.int .i64 (L[i]?.getD 0))) g c M ∧ Fr p g w (World.setCell (World.setCell W6 ⟨g, i, none⟩ (.int .i64 (L[x]?.getD 0))) ⟨g, x, none⟩ (.int .i64 (L[i]?.getD 0))) := fun W6 q1 q2 q3 => by
        have hsw : swapL L i x = (L.set i (L[x]?.getD 0)).set x (L[i]?.getD 0) := by unfold swapL; simp only [List.getD_eq_getElem?_getD]
        have hg8 := grown_set (grown_set (grown_refl W6 (some g)) i (.int .i64 (L[x]?.getD 0))) x (.int .i64 (L[i]?.getD 0))
        refine ⟨i - 1, (a', b'), swapL L i x, by rw [show ((i - 1 : Nat) : Int) = (i : Int) - 1 by omega], by omega, by rw [swapL_len]; exact HL.out, HOK'.out, by rw [← HSTEP.out]; exact HSH.out, q1.far hg8 hne, ?_, (q3.set i _).set x _⟩
        rw [hsw]
        exact (q2.put i _).put x _
      have HFIN := Lib.hid hfin
      clear hfin
      by_cases hxi : x = i
      · subst hxi
        go_wp2_with (go_at_call 87; refine HBi.out.mono ?_; rintro e w6 ⟨rfl, hg6, hs6⟩; have HG6 := Lib.hid (HF.out.grown hg6); have HS6 := Lib.hid hs6; have hr6 := HR'.out.grown hg6 hne; have HR6 := Lib.hid hr6; have ci := hr6.cell hiL; have cx := hr6.cell hxL; have cf := hr6.frozen; clear hg6 hs6 hr6)
        exact ⟨HFIN.out w6 HS6.out HR6.out HG6.out, by simp [intOf]; omega⟩
      · have hix : i ≠ x := fun e => hxi e.symm
        go_wp2_with (go_at_call 87; refine HBi.out.mono ?_; rintro e w6 ⟨rfl, hg6, hs6⟩; have HG6 := Lib.hid (HF.out.grown hg6); have HS6 := Lib.hid hs6; have hr6 := HR'.out.grown hg6 hne; have HR6 := Lib.hid hr6; have ci := hr6.cell hiL; have cx := hr6.cell hxL; have cf := hr6.frozen; clear hg6 hs6 hr6)
        exact ⟨HFIN.out w6 HS6.out HR6.out HG6.out, by simp [intOf]; omega⟩
end Go.Proofs.Ytfkjnaaplhcheaa
