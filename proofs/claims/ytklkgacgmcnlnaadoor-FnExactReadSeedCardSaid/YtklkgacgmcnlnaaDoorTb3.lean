/-
  spec.TableText, impl.TableText.
-/
import Derived.Test.YtklkgacgmcnlnaaDoorTb1
import Derived.Test.YtklkgacgmcnlnaaDoorTb2
namespace Go.Proofs.YtklkgacgmcnlnaaDoor
open Go Go.RowKit

theorem pair_rd (W0 : World) (r l : Int) : Rd (W0.alloc (.cells #[.int .i64 r, .int .i64 l] 2)) (W0.alloc (.cells #[.int .i64 r, .int .i64 l] 2)).heap.size (some ⟨W0.heap.size, 0, none⟩) (il [r, l]) := by
  refine Rd.of_own (base := W0.heap.size) (e := 2) (n := 2) (c := 2) ?_
  exact ⟨rfl, .inr ⟨W0.heap.size, 2, #[.int .i64 r, .int .i64 l], rfl, Nat.le_refl _, heap_alloc_new W0 _, Nat.le_refl _, by unfold maxLen; omega, rfl, rfl⟩⟩
theorem pair_rd2 (W0 : World) (b : Nat) (r l : Int) (hb : b = W0.heap.size) : Rd (W0.alloc (.cells #[.int .i64 r, .int .i64 l] 2)) (W0.alloc (.cells #[.int .i64 r, .int .i64 l] 2)).heap.size (some ⟨b, 0, none⟩) (il [r, l]) := by
  subst hb
  exact pair_rd W0 r l
/-- the text of a table -/
def tabL (r l : Int) (xs : List Int) : List UInt8 := textL [r, l] ++ [59] ++ textL xs
def tabS (r l : Int) (xs : List Int) : ByteArray := if tabB r l xs then ⟨(tabL r l xs).toArray⟩ else ⟨#[]⟩
theorem cnt_val {n : Int} (h : cntB n = true) : valB n = true := by
  have := inB_of h
  exact inB_yes (by omega) (by omega)
theorem side_val {n : Int} (h : inB n 2 4 = true) : valB n = true := by
  have := inB_of h
  exact inB_yes (by omega) (by omega)
theorem tab_facts {r l : Int} {xs : List Int} (h : tabB r l xs = true) : ValAll [r, l] ∧ ValAll xs ∧ xs.length ≤ 16 := by
  unfold tabB at h
  simp only [Bool.and_eq_true] at h
  obtain ⟨⟨⟨⟨h1, h2⟩, h3⟩, h4⟩, _⟩ := h
  refine ⟨?_, fun k hk => cnt_val (List.all_eq_true.1 h4 _ (List.getElem_mem hk)), ?_⟩
  · intro k hk
    match k, hk with
    | 0, _ => exact side_val h1
    | 1, _ => exact side_val h2
    | n + 2, hk => simp at hk; omega
  · have h5 := of_decide_eq_true h3
    have := mul_few h1 h2
    omega
theorem textL_len {xs : List Int} (hv : ValAll xs) (hx : xs.length ≤ 64) : (textL xs).length ≤ 1408 := by
  rcases Nat.eq_zero_or_pos xs.length with h0 | h0
  · rw [List.length_eq_zero_iff.1 h0]; decide
  · rw [← jn_end h0]
    have := jn_len hv xs.length h0 (Nat.le_refl _)
    omega
set_option maxRecDepth 100000 in
set_option maxHeartbeats 3200000 in
theorem l08Table_any (p : Nat) (r l : Int) (A : Option Addr) (xs : List Int) (c : Nat) (w : World) (hx : xs.length ≤ 16) (hv2 : ValAll [r, l]) (hv : ValAll xs) (hp : TbAt w p r l A xs.length c) (h : Rd w w.heap.size A (il xs)) :
    Calls Tryd.prog 34 #[.pointer (some ⟨p, 0, none⟩)] w (StrOut (tabL r l xs) w) := by
  have HL : Hid (((⟨(textL [r, l]).toArray⟩ : ByteArray) ++ ⟨#[59]⟩) ++ ⟨(textL xs).toArray⟩ = ⟨(tabL r l xs).toArray⟩) := Lib.hid (str_of (by rw [app_data, app_data]; rfl))
  have H1 : Hid (∀ A W, Rd W W.heap.size A (il [r, l]) → Calls Tryd.prog 57 #[.slice A 2 2] W (StrOut (textL [r, l]) W)) := Lib.hid fun A W h => l01Text_any A [r, l] 2 W (by simp) hv2 h
  have H2 := Lib.hid fun W h => l01Text_any A xs c W (by omega) hv h
  have hs1 : (⟨(textL [r, l]).toArray⟩ : ByteArray).size ≤ 1408 := by rw [Lib.size_eq]; exact textL_len hv2 (by simp)
  have hs2 : (⟨(textL xs).toArray⟩ : ByteArray).size ≤ 1408 := by rw [Lib.size_eq]; exact textL_len hv (by omega)
  have HH := Lib.hid h
  have HP := Lib.hid hp
  obtain ⟨p0, p1, p2⟩ := hp
  have HM : Hid (∀ W, Below w.heap.size w W → W.cell? ⟨p, 0, none⟩ = some (.int .i64 r) ∧ W.cell? ⟨p, 1, none⟩ = some (.int .i64 l) ∧ W.cell? ⟨p, 2, none⟩ = some (.slice A xs.length c)) := Lib.hid fun W hW => HP.out.keep hW
  unfold StrOut at *
  clear h hv2 hv HP
  generalize (⟨(textL [r, l]).toArray⟩ : ByteArray) = o1 at *
  generalize (⟨(textL xs).toArray⟩ : ByteArray) = o2 at *
  generalize (tabL r l xs).toArray = T at *
  have q1 : ¬ 9223372036854775807 < o1.size + 1 := by omega
  have q2 : ¬ 9223372036854775807 < o1.size + 1 + o2.size := by omega
  go_enter Tryd.func34, Tryd.ntmps34
  go_wp2_with fail
  go_region_held3 (fun W => W.cell? ⟨p, 0, none⟩ = some (.int .i64 r) ∧ W.cell? ⟨p, 1, none⟩ = some (.int .i64 l) ∧ W.cell? ⟨p, 2, none⟩ = some (.slice A xs.length c))
    (first | exact HM.out _ (by repeat (first | exact Below.refl _ _ | assumption | refine below_al ?_ _ | refine below_dr ?_)))
    (first
      | (go_at_call 57; refine (H2.out _ (HH.out.at_ bk3)).mono ?_; rintro e w4 ⟨rfl, hb4⟩; have bk4 : Below w.heap.size w w4 := below_next bk3 hb4; clear hb4)
      | (go_at_call 57; refine (H1.out _ _ ((pair_rd w r l).at_ (below_dr (Below.refl _ _)))).mono ?_; rintro e w3 ⟨rfl, hb3⟩; have bk3 : Below w.heap.size w w3 := below_next (below_dr (below_al (Below.refl _ _) _)) hb3; clear hb3))
  have HB4 := Lib.hid bk4
  clear bk3 bk4
  go_wp2_with fail
  go_ret
  exact ⟨by rw [← HL.out]; rfl, HB4.out⟩
def TbOut (r l : Int) (xs : List Int) (w : World) (e : Ending) (w' : World) : Prop := e = .returned (.tuple #[.string (tabS r l xs), .bool (tabB r l xs)]) ∧ Below w.heap.size w w'
set_option maxHeartbeats 1600000 in
theorem specTableText_any (r l : Int) (A : Option Addr) (xs : List Int) (c : Nat) (w : World) (hx : xs.length ≤ 9223372036854775807) (h : Rd w w.heap.size A (il xs)) :
    Calls Tryd.prog 12 #[tbV r l A xs.length c] w (TbOut r l xs w) := by
  have HR := Lib.hid fun p w hp h => l06Is_any p r l A xs c w hx hp h
  have HH := Lib.hid h
  have HS : Hid (tabS r l xs = if tabB r l xs then ⟨(tabL r l xs).toArray⟩ else ⟨#[]⟩) := Lib.hid rfl
  have HL : Hid (tabB r l xs = true → ∀ p w, TbAt w p r l A xs.length c → Rd w w.heap.size A (il xs) → Calls Tryd.prog 34 #[.pointer (some ⟨p, 0, none⟩)] w (StrOut (tabL r l xs) w)) := Lib.hid fun hr p w hp h => by
    obtain ⟨h1, h2, h3⟩ := tab_facts hr
    exact l08Table_any p r l A xs c w h3 h1 h2 hp h
  unfold tbV TbOut
  unfold BoolOut at HR
  unfold StrOut at HL
  clear h
  generalize tabL r l xs = L at *
  generalize tabS r l xs = S at *
  generalize tabB r l xs = R at *
  cases R with
  | false =>
    have hS : S = ⟨#[]⟩ := HS.out
    subst hS
    go_enter Tryd.func12, Tryd.ntmps12
    go_wp2_with fail
    generalize hW1 : World.alloc w _ = W1
    have B1 : Below w.heap.size w W1 := by rw [← hW1]; exact below_al (Below.refl _ _) _
    have k1 : TbAt W1 w.heap.size r l A xs.length c := by rw [← hW1]; simp [TbAt, go_sem]
    clear hW1
    refine (HR.out _ _ k1 (HH.out.at_ B1)).mono ?_
    rintro e w2 ⟨rfl, hb2⟩
    have B2 := Lib.hid (below_next B1 hb2)
    clear k1 hb2
    go_wp2_with fail
    go_ret2
    exact ⟨rfl, B2.out⟩
  | true =>
    have hS : S = ⟨L.toArray⟩ := HS.out
    subst hS
    have HL' := Lib.hid (HL.out rfl)
    go_enter Tryd.func12, Tryd.ntmps12
    go_wp2_with fail
    generalize hW1 : World.alloc w _ = W1
    have B1 : Below w.heap.size w W1 := by rw [← hW1]; exact below_al (Below.refl _ _) _
    have k1 : TbAt W1 w.heap.size r l A xs.length c := by rw [← hW1]; simp [TbAt, go_sem]
    clear hW1
    refine (HR.out _ _ k1 (HH.out.at_ B1)).mono ?_
    rintro e w2 ⟨rfl, hb2⟩
    have K2 := Lib.hid (k1.keep hb2)
    have B2 := Lib.hid (below_next B1 hb2)
    clear k1 hb2
    go_wp2_with fail
    refine (HL'.out _ _ K2.out (HH.out.at_ B2.out)).mono ?_
    rintro e w3 ⟨rfl, hb3⟩
    have B3 := Lib.hid (below_next B2.out hb3)
    clear hb3
    go_wp2_with fail
    go_ret2
    exact ⟨rfl, B3.out⟩
set_option maxRecDepth 100000 in
set_option maxHeartbeats 3200000 in
theorem TableText_any (r l : Int) (A : Option Addr) (xs : List Int) (c : Nat) (w : World) (hx : xs.length ≤ 9223372036854775807) (ht : Tab w) (h : Rd w w.heap.size A (il xs)) :
    Calls Tryd.prog 14 #[tbV r l A xs.length c] w (TbOut r l xs w) := by
  have HR := Lib.hid fun w h => ValidTable_any r l A xs c w hx h
  have HH := Lib.hid h
  have HTB := Lib.hid ht
  have HS : Hid (tabS r l xs = if tabB r l xs then ⟨(tabL r l xs).toArray⟩ else ⟨#[]⟩) := Lib.hid rfl
  have HL : Hid (((⟨(textL [r, l]).toArray⟩ : ByteArray) ++ ⟨#[59]⟩) ++ ⟨(textL xs).toArray⟩ = ⟨(tabL r l xs).toArray⟩) := Lib.hid (str_of (by rw [app_data, app_data]; rfl))
  have H1 : Hid (tabB r l xs = true → ∀ A W, Tab W → Rd W W.heap.size A (il [r, l]) → Calls Tryd.prog 36 #[.slice A 2 2] W (fun e w' => e = .returned (.tuple #[.string ⟨(textL [r, l]).toArray⟩, .bool true]) ∧ Below W.heap.size W w')) := Lib.hid fun hr A W ht h => ListText_any A [r, l] 2 W (by simp) (tab_facts hr).1 ht h
  have H2 : Hid (tabB r l xs = true → ∀ W, Tab W → Rd W W.heap.size A (il xs) → Calls Tryd.prog 36 #[.slice A xs.length c] W (fun e w' => e = .returned (.tuple #[.string ⟨(textL xs).toArray⟩, .bool true]) ∧ Below W.heap.size W w')) := Lib.hid fun hr W ht h => ListText_any A xs c W (by have := (tab_facts hr).2.2; omega) (tab_facts hr).2.1 ht h
  have hs1 : tabB r l xs = true → (⟨(textL [r, l]).toArray⟩ : ByteArray).size ≤ 1408 := fun hr => by rw [Lib.size_eq]; exact textL_len (tab_facts hr).1 (by simp)
  have hs2 : tabB r l xs = true → (⟨(textL xs).toArray⟩ : ByteArray).size ≤ 1408 := fun hr => by rw [Lib.size_eq]; exact textL_len (tab_facts hr).2.1 (by have := (tab_facts hr).2.2; omega)
  have HS1 := Lib.hid hs1
  have HS2 := Lib.hid hs2
  unfold tbV TbOut
  unfold tbV BoolOut at HR
  clear h ht hs1 hs2
  generalize (⟨(textL [r, l]).toArray⟩ : ByteArray) = o1 at *
  generalize (⟨(textL xs).toArray⟩ : ByteArray) = o2 at *
  generalize (tabL r l xs).toArray = L at *
  generalize tabS r l xs = S at *
  generalize tabB r l xs = R at *
  cases R with
  | false =>
    have hS : S = ⟨#[]⟩ := HS.out
    subst hS
    go_enter Tryd.func14, Tryd.ntmps14
    go_wp2_with fail
    generalize hW1 : World.alloc w _ = W1
    have B1 : Below w.heap.size w W1 := by rw [← hW1]; exact below_al (Below.refl _ _) _
    clear hW1
    refine (HR.out _ (HH.out.at_ B1)).mono ?_
    rintro e w2 ⟨rfl, hb2⟩
    have B2 := Lib.hid (below_next B1 hb2)
    clear hb2
    go_wp2_with fail
    go_ret2
    exact ⟨rfl, B2.out⟩
  | true =>
    have hS : S = ⟨L⟩ := HS.out
    subst hS
    have H1' := Lib.hid (H1.out rfl)
    have H2' := Lib.hid (H2.out rfl)
    have q1 := HS1.out rfl
    have q2 := HS2.out rfl
    clear H1 H2 HS1 HS2
    go_enter Tryd.func14, Tryd.ntmps14
    go_wp2_with fail
    generalize hW1 : World.alloc w _ = W1
    have B1 : Below w.heap.size w W1 := by rw [← hW1]; exact below_al (Below.refl _ _) _
    have k1 : TbAt W1 w.heap.size r l A xs.length c := by rw [← hW1]; simp [TbAt, go_sem]
    clear hW1
    refine (HR.out _ (HH.out.at_ B1)).mono ?_
    rintro e w2 ⟨rfl, hb2⟩
    have k2 := k1.keep hb2
    have K2 := Lib.hid k2
    have B2 := Lib.hid (below_next B1 hb2)
    clear k1 hb2 B1
    obtain ⟨c0, c1, c2⟩ := k2
    go_wp2_with fail
    refine (H1'.out _ _ (HTB.out.keep (below_al B2.out _)) (pair_rd _ r l)).mono ?_
    rintro e w3 ⟨rfl, hb3⟩
    have b23 := below_next (below_al (Below.refl w2.heap.size w2) (.cells #[.int .i64 r, .int .i64 l] 2)) hb3
    have k3 := K2.out.keep b23
    have K3 := Lib.hid k3
    have B3 := Lib.hid (below_next B2.out b23)
    clear hb3 b23 c0 c1 c2
    obtain ⟨c0, c1, c2⟩ := k3
    go_wp2_with fail
    refine (H2'.out _ (HTB.out.keep B3.out) (HH.out.at_ B3.out)).mono ?_
    rintro e w4 ⟨rfl, hb4⟩
    have B4 := Lib.hid (below_next B3.out hb4)
    clear hb4 c0 c1 c2
    go_wp2_with fail
    go_ret2
    exact ⟨by rw [← HL.out]; rfl, B4.out⟩
end Go.Proofs.YtklkgacgmcnlnaaDoor
