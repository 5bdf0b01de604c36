/-
  impl.ValidRecord, spec.ValidRecord, impl.StoreRecord, spec.StoreRecord: one and the same answer.
-/
import Derived.Test.YtckdbnnkabgopaaDoorRc6
namespace Go.Proofs.YtckdbnnkabgopaaDoor
open Go Go.RowKit

theorem num_all {ds : List Int} (h : ds.all numB = true) : ∀ (j : Nat) (h : j < ds.length), 0 ≤ ds[j] ∧ ds[j] ≤ 65535 := fun _ hj => inB_of (List.all_eq_true.1 h _ (List.getElem_mem hj))
theorem recB_facts {nm : ByteArray} {k a b : Int} {ds : List Int} (h : recB nm.data.toList k a b ds = true) : nm.size ≤ 8 ∧ (0 ≤ k ∧ k ≤ 3) ∧ ds.length ≤ 256 ∧ ds.all numB = true := by
  unfold recB at h
  rw [Bool.and_eq_true, Bool.and_eq_true, Bool.and_eq_true] at h
  obtain ⟨⟨⟨h1, h2⟩, h3⟩, h4⟩ := h
  unfold nameB at h1
  rw [Bool.and_eq_true] at h1
  have h5 := of_decide_eq_true h1.1
  exact ⟨by rw [Lib.size_eq]; omega, seedB_kind h2, of_decide_eq_true h3, h4⟩
/-- the text of a record, and whether there is one -/
def storeS (nm : List UInt8) (k a b : Int) (ds : List Int) : ByteArray := if recB nm k a b ds then ⟨(storeL nm k a b ds).toArray⟩ else ⟨#[]⟩
def StoreOut (nm : ByteArray) (k a b : Int) (ds : List Int) (w : World) (e : Ending) (w' : World) : Prop :=
  e = .returned (.tuple #[.string (storeS nm.data.toList k a b ds), .bool (recB nm.data.toList k a b ds)]) ∧ Below w.heap.size w w'
set_option maxHeartbeats 800000 in
theorem StoreRecord_any (nm : ByteArray) (k a b : Int) (A : Option Addr) (ds : List Int) (c : Nat) (w : World) (hs : nm.size ≤ 9223372036854775807) (ha : 0 ≤ a ∧ a < 18446744073709551616) (hb : 0 ≤ b ∧ b < 18446744073709551616) (hx : ds.length ≤ 9223372036854775807) (h : Rd w w.heap.size A (il ds)) :
    Calls Tryd.prog 6 #[rcV nm k a b A ds.length c] w (StoreOut nm k a b ds w) := by
  have HR := Lib.hid fun w h => ValidRecord_any nm k a b A ds c w hs hb hx h
  have HH := Lib.hid h
  have HS : Hid (storeS nm.data.toList k a b ds = if recB nm.data.toList k a b ds then ⟨(storeL nm.data.toList k a b ds).toArray⟩ else ⟨#[]⟩) := Lib.hid rfl
  have HL : Hid (recB nm.data.toList k a b ds = true → ∀ w, Rd w w.heap.size A (il ds) → Calls Tryd.prog 17 #[rcV nm k a b A ds.length c] w (StrOut (storeL nm.data.toList k a b ds) w)) := Lib.hid fun hr w h => by
    obtain ⟨h1, h2, h3, h4⟩ := recB_facts hr
    exact storeRecord_any nm k a b A ds c w h1 h2 ha hb h3 (num_all h4) h
  unfold rcV at *
  unfold StoreOut
  unfold BoolOut at HR
  unfold StrOut at HL
  clear h ha hb
  generalize storeL nm.data.toList k a b ds = L at *
  generalize storeS nm.data.toList k a b ds = S at *
  generalize recB nm.data.toList k a b ds = R at *
  cases R with
  | false =>
    have hS : S = ⟨#[]⟩ := HS.out
    subst hS
    go_enter Tryd.func6, Tryd.ntmps6
    go_wp2_with fail
    have B1 : Hid (Below w.heap.size w (w.alloc (.cells #[.string nm, .int .i64 k, .int .u64 a, .int .u64 b, .slice A ds.length c] 34))) := Lib.hid (below_al (Below.refl _ _) _)
    refine (HR.out _ (HH.out.at_ B1.out)).mono ?_
    rintro e w2 ⟨rfl, hb2⟩
    have B2 := Lib.hid (below_next B1.out hb2)
    clear hb2
    go_wp2_with fail
    go_ret2
    exact ⟨rfl, B2.out⟩
  | true =>
    have hS : S = ⟨L.toArray⟩ := HS.out
    subst hS
    have HL' := Lib.hid (HL.out rfl)
    go_enter Tryd.func6, Tryd.ntmps6
    go_wp2_with fail
    generalize hW1 : World.alloc w _ = W1
    have B1 : Below w.heap.size w W1 := by rw [← hW1]; exact below_al (Below.refl _ _) _
    have k1 : RcAt W1 w.heap.size nm k a b A ds.length c := by rw [← hW1]; simp [RcAt, go_sem]
    clear hW1
    refine (HR.out _ (HH.out.at_ B1)).mono ?_
    rintro e w2 ⟨rfl, hb2⟩
    have B2 := Lib.hid (below_next B1 hb2)
    obtain ⟨c0, c1, c2, c3, c4⟩ := k1.keep hb2
    clear hb2 k1
    go_wp2_with fail
    refine (HL'.out _ (HH.out.at_ B2.out)).mono ?_
    rintro e w3 ⟨rfl, hb3⟩
    have B3 := Lib.hid (below_next B2.out hb3)
    clear hb3
    go_wp2_with fail
    go_ret2
    exact ⟨rfl, B3.out⟩
end Go.Proofs.YtckdbnnkabgopaaDoor

