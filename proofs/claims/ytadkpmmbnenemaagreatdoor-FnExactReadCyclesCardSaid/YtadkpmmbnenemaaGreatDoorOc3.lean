/-
  impl.OrderOfCycles.
-/
import Derived.Test.YtadkpmmbnenemaaGreatDoorOc2
namespace Go.Proofs.YtadkpmmbnenemaaGreatDoor
open Go Go.RowKit

def emptyB (x : List Int × Value) : Bool := decide (x.1.length = 0)
theorem OrderOfCycles1_any (A : Option Addr) (n c : Nat) (w : World) : Calls Tryz.prog 24 #[.slice A n c] w (SameOut (.bool (decide (n = 0))) w) := by
  unfold SameOut
  by_cases h : n = 0
  · have h' : ((n : Int) == 0) = true := by simpa using h
    have HD : Hid (decide (n = 0) = true) := Lib.hid (decide_eq_true h)
    clear h
    go_enter Tryz.func24, Tryz.ntmps24
    go_wp2_with fail
    go_ret
    rw [HD.out]
    exact ⟨rfl, rfl⟩
  · have h' : ((n : Int) == 0) = false := by simpa using h
    have HD : Hid (decide (n = 0) = false) := Lib.hid (decide_eq_false h)
    clear h
    go_enter Tryz.func24, Tryz.ntmps24
    go_wp2_with fail
    go_ret
    rw [HD.out]
    exact ⟨rfl, rfl⟩
def idxC (rs : List (List Int × Value)) : Int := match rs.findIdx? emptyB with | some i => i | none => -1
theorem idxC_hit {rs : List (List Int × Value)} {k : Nat} (hk : k < rs.length) (h0 : (rs.take k).any emptyB = false) (h1 : emptyB rs[k] = true) : idxC rs = k := by
  have : rs.findIdx? emptyB = some k := by
    rw [List.findIdx?_eq_some_iff_getElem]
    refine ⟨hk, h1, fun j hj => ?_⟩
    have := List.any_eq_false.1 h0 rs[j] (List.mem_take_iff_getElem.2 ⟨j, by omega, rfl⟩)
    simpa using this
  unfold idxC
  rw [this]
theorem idxC_none {rs : List (List Int × Value)} (h : rs.any emptyB = false) : idxC rs = -1 := by
  have : rs.findIdx? emptyB = none := by
    rw [List.findIdx?_eq_none_iff]
    intro x hx
    simpa using List.any_eq_false.1 h x hx
  unfold idxC
  rw [this]
theorem idxC_any (rs : List (List Int × Value)) : (decide (0 ≤ idxC rs)) = rs.any emptyB := by
  cases ha : rs.any emptyB with
  | false => rw [idxC_none ha]; rfl
  | true =>
    unfold idxC
    cases hf : rs.findIdx? emptyB with
    | none =>
      rw [List.findIdx?_eq_none_iff] at hf
      obtain ⟨x, hx, hp⟩ := List.any_eq_true.1 ha
      rw [hf x hx] at hp
      cases hp
    | some i => simp
theorem retC {a b : Bool} (h : a = b) : Ending.returned (.bool a) = .returned (.bool b) := by rw [h]
set_option maxRecDepth 100000 in
set_option maxHeartbeats 1600000 in
theorem IndexFunc_cyc (A : Option Addr) (c : Nat) (rs : List (List Int × Value)) (base : Nat) (w : World) (hn : rs.length ≤ 134217728) (h : LR w base (.slice A rs.length c) rs) :
    Calls Tryz.prog 45 #[.slice A rs.length c, .func (.func 24) #[] #[]] w (SameOut (.int .i64 (idxC rs)) w) := by
  have HG := Lib.hid OrderOfCycles1_any
  unfold SameOut at HG
  have L1 := Lib.hid h
  clear h
  go_enter Tryz.func45, Tryz.ntmps45
  go_wp2_with fail
  go_loop [5, 8] (fun _ i => ∃ k : Nat, k ≤ rs.length ∧ i = .int .i64 k ∧ (rs.take k).any emptyB = false) (fun _ i => rs.length - (intOf i).toNat)
  case atStart => exact ⟨0, Nat.zero_le _, rfl, by simp⟩
  case round =>
    obtain ⟨k, hk, rfl, hall⟩ := hrel
    have HALL := Lib.hid hall
    clear hall
    by_cases hlt : k < rs.length
    · obtain ⟨g, cap, A2, c2, hv, hcl, hrow⟩ := L1.out.at_ hlt
      injection hv with hA hB hC
      subst hA
      clear hB hC hrow
      have hlt' : (k : Int) < (rs.length : Int) := by omega
      have HE : Hid (emptyB rs[k] = decide (rs[k].1.length = 0)) := Lib.hid rfl
      have HNX : Hid (emptyB rs[k] = false → (rs.take (k + 1)).any emptyB = false) := Lib.hid fun hf => by rw [List.take_succ_eq_append_getElem hlt, List.any_append, HALL.out]; simp [hf]
      have HHIT : Hid (emptyB rs[k] = true → idxC rs = k) := Lib.hid fun ht => idxC_hit hlt HALL.out ht
      rw [HE.out] at HNX HHIT
      have HGk := Lib.hid fun w => HG.out A2 rs[k].1.length c2 w
      clear HG HE
      generalize decide (rs[k].1.length = 0) = b at *
      cases b with
      | false =>
        go_wp2_with (go_at_call 24; refine (HGk.out _).mono ?_; rintro e w' ⟨rfl, rfl⟩)
        go_round
        case rel => exact ⟨k + 1, by omega, by go_num, HNX.out (by trivial)⟩
        case measure => simp [intOf]; omega
      | true =>
        have HI := Lib.hid (HHIT.out rfl)
        go_wp2_with (go_at_call 24; refine (HGk.out _).mono ?_; rintro e w' ⟨rfl, rfl⟩)
        go_ret
        rw [HI.out]
        exact ⟨rfl, rfl⟩
    · obtain rfl : k = rs.length := by omega
      have hr : idxC rs = -1 := by
        have h1 := HALL.out
        rw [List.take_length] at h1
        exact idxC_none h1
      have HR := Lib.hid hr
      clear hr
      go_wp2_with fail
      go_ret
      rw [HR.out]
      exact ⟨rfl, rfl⟩
theorem ContainsFunc_cyc (A : Option Addr) (c : Nat) (rs : List (List Int × Value)) (base : Nat) (w : World) (hn : rs.length ≤ 134217728) (h : LR w base (.slice A rs.length c) rs) :
    Calls Tryz.prog 23 #[.slice A rs.length c, .func (.func 24) #[] #[]] w (SameOut (.bool (rs.any emptyB)) w) := by
  have HG := Lib.hid (IndexFunc_cyc A c rs base w hn h)
  have HA := Lib.hid (idxC_any rs)
  unfold SameOut at HG ⊢
  go_enter Tryz.func23, Tryz.ntmps23
  go_wp2_with (go_at_call 45; refine (HG.out).mono ?_; rintro e w' ⟨rfl, rfl⟩)
  go_ret
  exact ⟨retC HA.out, rfl⟩

/-- whether cycles tell an order, and which -/
def ocOk (rs : List (List Int × Value)) : Bool := ordB (csO rs).flatten && !rs.any emptyB
def ocX (rs : List (List Int × Value)) : List Int := if ocOk rs = true then ordN (csO rs) else []
def OcOut (rs : List (List Int × Value)) (w : World) (e : Ending) (w' : World) : Prop := ∃ A c, e = .returned (.tuple #[.slice A (ocX rs).length c, .bool (ocOk rs)]) ∧ w'.ownsRow w.heap.size 2 1 (.slice A (ocX rs).length c) (ocX rs).length (il (ocX rs)) ∧ Below w.heap.size w w'
theorem OcOut.no {rs : List (List Int × Value)} {w w' : World} (h : ocOk rs = false) (hb : Below w.heap.size w w') : OcOut rs w (.returned (.tuple #[.slice none 0 0, .bool false])) w' := by
  have hx : ocX rs = [] := by unfold ocX; rw [h]; rfl
  unfold OcOut
  rw [hx, h]
  exact ⟨none, 0, rfl, World.ownsRow_nil _ _ _ _, hb⟩
theorem stA_succ {rs : List (List Int × Value)} {k : Nat} (h : k < rs.length) : stA (csO rs) (k + 1) = stC rs[k].1 (stA (csO rs) k) rs[k].1.length := by
  show stC ((csO rs).getD k []) (stA (csO rs) k) ((csO rs).getD k []).length = _
  have e : (csO rs).getD k [] = rs[k].1 := by
    rw [List.getD_eq_getElem?_getD, List.getElem?_eq_getElem (by rw [csO_len]; exact h), csO_get h]
    rfl
  rw [e]
theorem stC_succ {c : List Int} {f : Nat → Int} {i m : Nat} (h : i < c.length) (hm : c[i] = (m : Int)) : stC c f (i + 1) = updI (stC c f i) m (c.getD ((i + 1) % c.length) 0) := by
  show updI (stC c f i) (c.getD i 0).toNat _ = _
  rw [List.getD_eq_getElem?_getD, List.getElem?_eq_getElem h]
  show updI (stC c f i) (c[i]).toNat _ = _
  rw [hm, Int.toNat_natCast]
/-- every number of a cycle lies below the total -/
theorem cyc_lt {rs : List (List Int × Value)} (h : ordB (csO rs).flatten = true) {k i : Nat} (hk : k < rs.length) (hi : i < rs[k].1.length) : ∃ m : Nat, rs[k].1[i] = (m : Int) ∧ m < (csO rs).flatten.length := by
  obtain ⟨-, -, hok⟩ := ordB_facts h
  obtain ⟨_, h2⟩ := (okTo_iff _ (Nat.le_refl _)).1 hok
  rw [List.take_length] at h2
  have hm : rs[k].1[i] ∈ (csO rs).flatten := List.mem_flatten.2 ⟨rs[k].1, by unfold csO; exact List.mem_map.2 ⟨rs[k], List.getElem_mem hk, rfl⟩, List.getElem_mem hi⟩
  have h3 := h2 _ hm
  exact ⟨(rs[k].1[i]).toNat, by omega, by omega⟩
end Go.Proofs.YtadkpmmbnenemaaGreatDoor
