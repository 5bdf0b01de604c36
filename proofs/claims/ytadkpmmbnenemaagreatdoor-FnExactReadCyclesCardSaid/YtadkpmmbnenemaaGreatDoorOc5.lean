/-
  What a text of cycles tells: pieces between strokes; rows that grow.
-/
import Derived.Test.YtadkpmmbnenemaaGreatDoorOc4
import Derived.Test.YtadkpmmbnenemaaGreatDoorRd3
import Derived.Test.YtadkpmmbnenemaaGreatDoorCx
namespace Go.Proofs.YtadkpmmbnenemaaGreatDoor
open Go Go.RowKit

def strokeS : ByteArray := ⟨#[47]⟩
/-- the words between strokes -/
def piecesOf (s : ByteArray) : List ByteArray := Lib.splitB strokeS 0 (Lib.countB s strokeS) s
theorem pieces_bytes (s : ByteArray) : Cx.bytesOf (piecesOf s) = Lib.split s.data.toList [47] := Lib.splitB_data strokeS 0 _ _
theorem pieces_len (s : ByteArray) : (piecesOf s).length = Lib.countB s strokeS + 1 := Lib.splitB_all strokeS (by decide) 0 _ _ rfl
theorem cut_pieces (s : ByteArray) : (Cx.cutB s (s.size + 1)).1 = piecesOf s := bytes_inj_list (by
  have h1 := Cx.cutB_all s
  have h2 := pieces_bytes s
  unfold Cx.bytesOf at h1 h2
  rw [h1, h2])
theorem pcut_sizes (s : ByteArray) : ∀ i, i ≤ s.size + 1 → ∀ p ∈ (Cx.cutB s i).1, p.size ≤ s.size := by
  intro i
  induction i with
  | zero => intro _ p hp; simp [Cx.cutB] at hp
  | succ i ih =>
    intro hi p hp
    rw [Cx.cutB] at hp
    split at hp
    · rcases List.mem_append.1 hp with hp | hp
      · exact ih (by omega) p hp
      · rw [List.mem_singleton] at hp
        subst hp
        rw [Lib.size_eq, Lib.extract_data, Lib.size_eq, List.length_take, List.length_drop]
        omega
    · exact ih (by omega) p hp
theorem piece_size {s p : ByteArray} (h : p ∈ piecesOf s) : p.size ≤ s.size := pcut_sizes s (s.size + 1) (Nat.le_refl _) p (by rw [cut_pieces]; exact h)

/-- the numbers that a text's pieces tell -/
def cyL (ps : List ByteArray) : List (List Int) := ps.map fun p => (nums p).1
def okP (p : ByteArray) : Bool := (nums p).2
theorem cyL_snoc {ps : List ByteArray} {i : Nat} (h : i < ps.length) : cyL (ps.take (i + 1)) = cyL (ps.take i) ++ [(nums ps[i]).1] := by
  unfold cyL
  rw [List.take_succ_eq_append_getElem h, List.map_append]
  rfl
theorem nums_few (p : ByteArray) : (nums p).1.length ≤ 64 := by
  unfold nums
  split
  · simp
  · split
    · rename_i h
      rw [numL_len]
      exact h.1
    · simp
theorem cyL_flat (ps : List ByteArray) : (cyL ps).flatten.length ≤ 64 * ps.length := by
  induction ps with
  | nil => simp [cyL]
  | cons p ps ih =>
    unfold cyL at *
    rw [List.map_cons, List.flatten_cons, List.length_append, List.length_cons]
    have := nums_few p
    omega
def cyM (ps : List ByteArray) (i : Nat) : Nat := (cyL (ps.take i)).flatten.length
theorem cyM_few {ps : List ByteArray} {i : Nat} (hp : ps.length ≤ 1048577) : cyM ps i ≤ 67108928 := by
  have := cyL_flat (ps.take i)
  rw [List.length_take] at this
  unfold cyM
  omega
theorem cyM_succ {ps : List ByteArray} {i : Nat} (h : i < ps.length) : cyM ps (i + 1) = cyM ps i + (nums ps[i]).1.length := by
  unfold cyM
  rw [cyL_snoc h, List.flatten_append, List.length_append]
  simp
/-- whether cycles tell an order, and which -/
def ocOkC (cs : List (List Int)) : Bool := ordB cs.flatten && !cs.any fun c => decide (c.length = 0)
def ocXC (cs : List (List Int)) : List Int := if ocOkC cs = true then ordN cs else []
theorem ocOk_C (rs : List (List Int × Value)) : ocOk rs = ocOkC (csO rs) := by
  unfold ocOk ocOkC csO
  rw [List.any_map]
  rfl
theorem ocX_C (rs : List (List Int × Value)) : ocX rs = ocXC (csO rs) := by
  unfold ocX ocXC
  rw [ocOk_C]
theorem ocXC_len (cs : List (List Int)) : (ocXC cs).length ≤ 64 := by
  unfold ocXC
  split
  · rename_i h
    unfold ocOkC at h
    rw [Bool.and_eq_true] at h
    obtain ⟨_, h2, _⟩ := ordB_facts h.1
    rw [ordN_len]
    exact h2
  · simp
def rcOk (s : ByteArray) : Bool := (piecesOf s).all okP && (ocOkC (cyL (piecesOf s)) && decide (ctT (ocXC (cyL (piecesOf s))) = s.data.toList))
def rcX (s : ByteArray) : List Int := if rcOk s = true then ocXC (cyL (piecesOf s)) else []
def RcyOut (s : ByteArray) (w : World) (e : Ending) (w' : World) : Prop := ∃ A c, e = .returned (.tuple #[.slice A (rcX s).length c, .bool (rcOk s)]) ∧ w'.ownsRow w.heap.size 2 1 (.slice A (rcX s).length c) (rcX s).length (il (rcX s)) ∧ Below w.heap.size w w'
theorem RcyOut.no {s : ByteArray} {w w' : World} (h : rcOk s = false) (hb : Below w.heap.size w w') : RcyOut s w (.returned (.tuple #[.slice none 0 0, .bool false])) w' := by
  have hx : rcX s = [] := by unfold rcX; rw [h]; rfl
  unfold RcyOut
  rw [hx, h]
  exact ⟨none, 0, rfl, World.ownsRow_nil _ _ _ _, hb⟩
theorem rc_piece {s : ByteArray} {i : Nat} (h : i < (piecesOf s).length) (hf : okP (piecesOf s)[i] = false) : rcOk s = false := by
  unfold rcOk
  rw [show (piecesOf s).all okP = false from List.all_eq_false.2 ⟨_, List.getElem_mem h, by simp [hf]⟩]
  rfl
theorem nums_nil : nums ⟨#[]⟩ = ([], false) := by
  have h1 : ((⟨#[]⟩ : ByteArray).toList == [110, 111, 110, 101]) = false := by decide +kernel
  have h2 := words_bytes ⟨#[]⟩
  have h3 : Lib.split ((⟨#[]⟩ : ByteArray).data.toList) [44] = [[]] := Cc.split_miss (fun x hx => by cases hx)
  rw [h3] at h2
  have h4 : (wordsOf ⟨#[]⟩).length = 1 := by
    have := congrArg List.length h2
    unfold Cc.bytesOf at this
    rw [List.length_map] at this
    exact this
  have h5 : ((wordsOf ⟨#[]⟩)[0]'(by omega)).data.toList = [] := by
    have h6 : (Cc.bytesOf (wordsOf ⟨#[]⟩))[0]? = some [] := by rw [h2]; rfl
    unfold Cc.bytesOf at h6
    rw [List.getElem?_map, List.getElem?_eq_getElem (by omega)] at h6
    exact Option.some.inj h6
  refine nums_no h1 (i := 0) (by omega) ?_
  unfold okW
  rw [h5]
  decide +kernel
/-- the empty text tells no cycles -/
theorem rc_text {s : ByteArray} (h : (piecesOf s).all okP = true) : s.data.toList ≠ [] := fun e => by
  have hs : s = ⟨#[]⟩ := WideShapes.bytes_inj e
  subst hs
  have h2 := pieces_bytes ⟨#[]⟩
  have h3 : Lib.split ((⟨#[]⟩ : ByteArray).data.toList) [47] = [[]] := Cx.split_miss (fun x hx => by cases hx)
  rw [h3] at h2
  have h4 : (piecesOf ⟨#[]⟩).length = 1 := by
    have := congrArg List.length h2
    unfold Cx.bytesOf at this
    rw [List.length_map] at this
    exact this
  have h5 : (piecesOf ⟨#[]⟩)[0]'(by omega) = ⟨#[]⟩ := by
    have h6 : (Cx.bytesOf (piecesOf ⟨#[]⟩))[0]? = some [] := by rw [h2]; rfl
    unfold Cx.bytesOf at h6
    rw [List.getElem?_map, List.getElem?_eq_getElem (by omega)] at h6
    exact WideShapes.bytes_inj (Option.some.inj h6)
  have h7 := List.all_eq_true.1 h _ (List.getElem_mem (show 0 < (piecesOf ⟨#[]⟩).length by omega))
  unfold okP at h7
  rw [h5, nums_nil] at h7
  cases h7
theorem ct_ord {xs : List Int} {l : List UInt8} (h : ctT xs = l) (hl : l ≠ []) : ordB xs = true := by
  cases ho : ordB xs with
  | true => rfl
  | false => unfold ctT at h; rw [ho] at h; exact absurd h.symm hl

/-- rows of integers that grow -/
structure LT (W : World) (base : Nat) (v : Value) (rs : List (List Int × Value)) : Prop where
  m : W.ownsRow base 22 1 v rs.length (rs.map (·.2))
  r : ∀ x ∈ rs, W.ownsRow base 2 1 x.2 x.1.length (il x.1)
  mr : ∀ x ∈ rs, ∀ j, x.2.ownBlock = some j → v.ownBlock ≠ some j
variable {W W' W0 W3 : World} {base : Nat} {v u : Value} {rs : List (List Int × Value)}
theorem LT.keep (h : LT W base v rs) (hb : Below W.heap.size W W') : LT W' base v rs := ⟨own_below h.m hb, fun x hx => own_below (h.r x hx) hb, h.mr⟩
theorem LT.lr (h : LT W base v rs) : LR W base v rs := ⟨h.m, h.r⟩
theorem LT.push {g cap q b2 : Nat} {o : Obj} {l : List Int} (h : LT W0 base v rs) (hq : rs.length = q) (hb2 : base ≤ b2) (hu : W0.ownsRow b2 2 1 u l.length (il l)) (huv : ∀ j, u.ownBlock = some j → v.ownBlock ≠ some j)
    (hgr : (W0.alloc o).grownBy W3 v.ownBlock) (ho : W3.ownsRow base 22 1 (.slice (some ⟨g, 0, none⟩) (q + 1) cap) (q + 1) (rs.map (·.2) ++ [u])) (hat : v.ownBlock = some g ∨ g = W0.heap.size + 1) :
    LT W3 base (.slice (some ⟨g, 0, none⟩) (q + 1) cap) (rs ++ [(l, u)]) := by
  subst hq
  have h2 := h.keep (below_al (Below.refl _ _) o)
  have hu2 := own_base (own_below hu (below_al (Below.refl _ _) o)) hb2
  refine ⟨by rw [List.length_append, List.map_append]; exact ho, fun y hy => ?_, fun y hy j hj e => ?_⟩
  · rcases List.mem_append.1 hy with hy | hy
    · exact (h2.r y hy).kept hgr (own_nes fun j hr hv => h.mr y hy j hr hv)
    · rw [List.mem_singleton] at hy
      subst hy
      exact hu2.kept hgr (own_nes fun j hu hv => huv j hu hv)
  · have e : g = j := Option.some.inj e
    subst e
    rcases List.mem_append.1 hy with hy | hy
    · have := ((h.r y hy).lt g hj).2
      rcases hat with hat | hat
      · exact h.mr y hy _ hj hat
      · omega
    · rw [List.mem_singleton] at hy
      subst hy
      have := (hu.lt g hj).2
      rcases hat with hat | hat
      · exact huv _ hj hat
      · omega
theorem LT.push_below {w : World} {o : Obj} (h : LT W0 base v rs) (hw : Below w.heap.size w W0) (hb : w.heap.size ≤ base) (hgr : (W0.alloc o).grownBy W3 v.ownBlock) : Below w.heap.size w W3 :=
  (below_al hw o).grown hgr (below_al hw o).size fun j hj => by have := (h.m.lt j hj).1; omega
theorem LT.start (W : World) : LT (W.alloc (.cells #[] 22)) W.heap.size (.slice (some ⟨W.heap.size, 0, none⟩) 0 0) [] :=
  ⟨World.ownsRow_made W #[] 0 (base := W.heap.size) (e := 22) (size := 1) (Nat.le_refl _) (by unfold maxLen; omega) rfl, (fun x hx => absurd hx (by simp)), (fun x hx => absurd hx (by simp))⟩
theorem csO_snoc (rs : List (List Int × Value)) (l : List Int) (u : Value) : csO (rs ++ [(l, u)]) = csO rs ++ [l] := by simp [csO]
set_option maxRecDepth 100000 in
set_option maxHeartbeats 1600000 in
theorem l08Order_gen (A : Option Addr) (xs : List Int) (c : Nat) (w : World) (hx : xs.length ≤ 1048576) (h : Rd w w.heap.size A (il xs)) : Calls Tryz.prog 17 #[.slice A xs.length c] w (StrOut (ctT xs) w) := by
  cases hb : ordB xs with
  | true =>
    have := l08Order_any A xs c w h hb
    unfold ctT
    rw [hb]
    exact this
  | false =>
    have HN := Lib.hid (specCyclesOf_bad A xs c w hx h hb)
    have HT : Hid (ctT xs = []) := Lib.hid (by unfold ctT; rw [hb]; rfl)
    unfold CyNo at HN
    unfold StrOut
    rw [HT.out]
    clear hb h
    go_enter Tryz.func17, Tryz.ntmps17
    go_wp2_with fail
    refine HN.out.mono ?_
    rintro e w1 ⟨rfl, hb1⟩
    have B1 := Lib.hid hb1
    clear hb1
    go_wp2_with fail
    go_loopw [5, 6] (fun sv iv wr => sv = .string ⟨#[]⟩ ∧ iv = .int .i64 0 ∧ Below w1.heap.size w1 wr) (fun _ _ _ => 0)
    case atStart => exact ⟨rfl, rfl, Below.refl _ _⟩
    case round =>
      obtain ⟨rfl, rfl, hbw⟩ := hrel
      rename World => wr
      have B2 := Lib.hid (below_next B1.out hbw)
      clear hbw
      go_wp2_with fail
      go_ret
      exact ⟨rfl, B2.out⟩
end Go.Proofs.YtadkpmmbnenemaaGreatDoor
