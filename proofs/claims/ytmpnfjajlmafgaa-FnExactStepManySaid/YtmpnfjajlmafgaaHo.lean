/-
  spec.l06Order: the indices of a list of shares, in ascending order of the shares (each index is put behind the others and moved down).
-/
import Derived.Test.YtmpnfjajlmafgaaHp
import Derived.Test.YtmpnfjajlmafgaaIs
import Derived.Deep.RegionHeld3
namespace Go.Proofs.Ytmpnfjajlmafgaa
open Go Go.RowKit Go.Sort Ieee

/-- an order's indices, as a list -/
def dl (d : Array Nat) : List Int := d.toList.map Int.ofNat
theorem dl_len (d : Array Nat) : (dl d).length = d.size := by simp [dl]
theorem dl_push (d : Array Nat) (i : Nat) : dl (d.push i) = dl d ++ [(i : Int)] := by simp [dl]
theorem dl_get {d : Array Nat} {j : Nat} (h : j < d.size) : (il (dl d))[j]? = some (.int .i64 (d[j]! : Nat)) := by
  rw [getElem!_pos d j h]
  simp [il, dl, h]
theorem own_holdsD {w : World} {base n c : Nat} {e : TypeId} {A : Option Addr} {d : Array Nat} (h : w.ownsRow base e 1 (.slice A n c) n (il (dl d))) (hd : d.size = n) (hn : 1 ≤ n) :
    ∃ g, A = some ⟨g, 0, none⟩ ∧ base ≤ g ∧ g < w.heap.size ∧ Holds eN w g 0 d := by
  have h' := h
  rcases h.2 with ⟨hv, hz⟩ | ⟨g, cap, cur, hv, hb, hg, h1, h2, h3⟩
  · omega
  · cases hv
    refine ⟨g, rfl, hb, ?_, fun j hj => ⟨?_, ?_⟩⟩
    · rcases Nat.lt_or_ge g w.heap.size with hlt | hge
      · exact hlt
      · rw [Array.getElem?_eq_none hge] at hg
        cases hg
    · rw [Nat.zero_add]
      exact own_cellAt h' (dl_get hj)
    · simp [World.frozen?, hg]
theorem RW.own {w W : World} {base n c g : Nat} {e : TypeId} {d dk : Array Nat} {vs : List Value} (h : RW w g 0 d dk W) (ho : w.ownsRow base e 1 (.slice (some ⟨g, 0, none⟩) n c) n vs) (hn : d.size = n) :
    W.ownsRow base e 1 (.slice (some ⟨g, 0, none⟩) n c) n (il (dl dk)) := by
  obtain ⟨hh, hs, k, rfl⟩ := h
  refine ⟨by rw [il_len, dl_len, hs, hn]; omega, ?_⟩
  rcases ho.2 with ⟨hv, hz⟩ | ⟨g', cap, cur, hv, hb, hg, h1, h2, h3, h4⟩
  · cases hv
  · cases hv
    refine .inr ⟨g, c, putCells eN 0 dk cur, rfl, hb, ?_, h1, h2, by unfold putCells; rw [Array.size_mapIdx]; exact h3, ?_⟩
    · show (putRow eN w g 0 dk).heap[g]? = _
      unfold putRow mapBlock
      dsimp only
      rw [Array.getElem?_modify, if_pos rfl, hg]
      rfl
    · have hcs : n ≤ cur.size := by omega
      refine List.ext_getElem (by simp [putCells, il_len, dl_len]; omega) fun i hi1 hi2 => ?_
      rw [il_len, dl_len] at hi2
      rw [List.getElem_take]
      simp only [putCells, Array.getElem_toList, Array.getElem_mapIdx]
      rw [if_pos (by omega)]
      have := dl_get hi2
      rw [List.getElem?_eq_getElem (by rw [il_len, dl_len]; exact hi2)] at this
      rw [Option.some.inj this, Nat.sub_zero]
      rfl
/-- the indices so far, in order -/
structure OrdTo (K : Nat → Nat) (i : Nat) (d : Array Nat) : Prop where
  z : d.size = i
  s : Srt K d 0 i
  m : Same 0 i (Array.range i) d
theorem OrdTo.start (K : Nat → Nat) : OrdTo K 0 #[] := ⟨rfl, fun p q _ _ h => absurd h (by omega), rfl, fun x => Iff.rfl, fun p _ => rfl⟩
theorem OrdTo.lt {K : Nat → Nat} {i : Nat} {d : Array Nat} (h : OrdTo K i d) {p : Nat} (hp : p < i) : d[p]! < i :=
  h.m.all (P := fun z => z < i) (fun p _ h2 => by rw [range_at h2]; exact h2) p (Nat.zero_le _) hp
theorem push_at (d : Array Nat) (x p : Nat) : (d.push x)[p]! = if p = d.size then x else d[p]! := by
  by_cases h : p < d.size
  · rw [getElem!_pos (d.push x) p (by simp; omega), getElem!_pos d p h, Array.getElem_push_lt h, if_neg (by omega)]
  · by_cases h1 : p = d.size
    · subst h1
      rw [getElem!_pos (d.push x) _ (by simp), Array.getElem_push_eq, if_pos rfl]
    · rw [getElem!_neg _ p (by simp; omega), getElem!_neg d p h, if_neg h1]
theorem OrdTo.begin {K : Nat → Nat} {i : Nat} {d : Array Nat} (h : OrdTo K i d) : InsJ K 0 i i (d.push i) (d.push i) :=
  InsJ.start (fun p q h1 h2 h3 => by rw [push_at, push_at, if_neg (by have := h.z; omega), if_neg (by have := h.z; omega)]; exact h.s p q h1 h2 h3)
    (fun p _ h2 => by rw [push_at, push_at, if_neg (by have := h.z; omega), if_pos h.z.symm]; exact h.lt h2)
theorem OrdTo.next {K : Nat → Nat} {i j : Nat} {d dj : Array Nat} (h : OrdTo K i d) (hj : InsJ K 0 i j (d.push i) dj) (hk : 0 < j → K dj[j - 1]! < K dj[j]!) : OrdTo K (i + 1) dj := by
  have hp : Same 0 (i + 1) (Array.range (i + 1)) (d.push i) := by
    refine ⟨by simp [h.z], fun x => ⟨fun ⟨p, p1, p2, p3⟩ => ?_, fun ⟨p, p1, p2, p3⟩ => ?_⟩, fun p hp => ?_⟩
    · rw [range_at p2] at p3
      subst p3
      by_cases he : p = i
      · subst he
        exact ⟨p, p1, p2, by rw [push_at, if_pos h.z.symm]⟩
      · obtain ⟨q, q1, q2, q3⟩ := (h.m.2.1 p).1 ⟨p, p1, by omega, range_at (by omega)⟩
        exact ⟨q, q1, by omega, by rw [push_at, if_neg (by have := h.z; omega)]; exact q3⟩
    · have hx : x < i + 1 := by
        rw [← p3, push_at]
        split
        · omega
        · have := h.lt (p := p) (by have := h.z; omega)
          omega
      exact ⟨x, Nat.zero_le _, hx, range_at hx⟩
    · rw [getElem!_neg _ p (by simp [h.z]; omega), getElem!_neg _ p (by simp; omega)]
  exact ⟨by rw [hj.m.1]; simp [h.z], hj.stop hk, hp.trans hj.m⟩
theorem cfI_lt {xs : List Nat} {x y : Nat} : cfI xs x y < 0 ↔ FloatKind.f32.format.order (xs.getD x 0) (xs.getD y 0) = some .lt := by
  unfold cfI cmpI
  constructor
  · intro h
    split at h
    · next h1 => exact h1
    · exfalso
      split at h <;> omega
  · intro h
    rw [if_pos (show single.order (xs.getD x 0) (xs.getD y 0) = some .lt from h)]
    decide
end Go.Proofs.Ytmpnfjajlmafgaa
