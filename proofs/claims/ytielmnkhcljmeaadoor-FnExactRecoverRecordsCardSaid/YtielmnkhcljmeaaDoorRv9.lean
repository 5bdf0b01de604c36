/-
  heldRecordS on a row of records that holds its marks.
-/
import Derived.Test.YtielmnkhcljmeaaDoorRv8
import Derived.Deep.RegionHeld3
namespace Go.Proofs.YtielmnkhcljmeaaDoor
open Go Go.RowKit Go.Joins

theorem mkTs_get : ∀ (ts : List Rt) (k i : Nat) (h : i < ts.length) (h' : i < (mkTs k ts).length), (mkTs k ts)[i] = mkRc (mkEnd k (ts.take i)) ts[i]
  | t :: ts, k, 0, _, _ => rfl
  | t :: ts, k, i + 1, h, h' => mkTs_get ts (k + 4 + t.1.ds.length) i (by simpa using h) (by simpa [mkTs] using h')
set_option maxRecDepth 100000 in
set_option maxHeartbeats 6400000 in
theorem heldRecordS_any (A : Option Addr) (ts : List Rt) (c : Nat) (w : World) (hn : ts.length ≤ 8) (hd : ∀ t ∈ ts, t.1.ds.length ≤ 65535) (h : RRow w w.heap.size A ((mkTs 1 ts).map (·.1))) :
    Calls Tryd.prog 27 #[.slice A ts.length c, .int .i64 1] w (fun e w' => e = .returned (.int .i64 (mkEnd 1 ts : Nat)) ∧ Below w.heap.size w w') := by
  have HR : Hid (∀ i (hi : i < ts.length), ∃ p off A' c', A = some ⟨p, off, none⟩ ∧ RcO w p (off + i * 5) (markOf (mkEnd 1 (ts.take i))) ((mkEnd 1 (ts.take i) : Int) + 1) ((mkEnd 1 (ts.take i) : Int) + 1 + 1) ((mkEnd 1 (ts.take i) : Int) + 1 + 1 + 1) A' ts[i].1.ds.length c' ∧ Rd w w.heap.size A' (il (marksI ((mkEnd 1 (ts.take i) : Int) + 1 + 1 + 1 + 1) ts[i].1.ds.length)) ∧ mkEnd 1 (ts.take i) ≤ 1 + 65539 * 8 ∧ ts[i].1.ds.length ≤ 65535 ∧ mkEnd 1 (ts.take (i + 1)) = mkEnd 1 (ts.take i) + 4 + ts[i].1.ds.length) := Lib.hid fun i hi => by
    have hl : (ts.take i).length = i := by rw [List.length_take]; omega
    have hml : i < ((mkTs 1 ts).map (·.1)).length := by rw [List.length_map, mkTs_len]; exact hi
    obtain ⟨p, off, hA, _, hrow⟩ := h (by omega)
    obtain ⟨A', c', ho, hrd⟩ := hrow i hml
    have he : ((mkTs 1 ts).map (·.1))[i] = (mkRc (mkEnd 1 (ts.take i)) ts[i]).1 := by
      rw [List.getElem_map, mkTs_get ts 1 i hi]
    rw [he] at ho hrd
    have hlen : (mkRc (mkEnd 1 (ts.take i)) ts[i]).1.ds.length = ts[i].1.ds.length := marksI_len _ _
    rw [hlen] at ho
    refine ⟨p, off, A', c', hA, ho, hrd, ?_, hd _ (List.getElem_mem hi), ?_⟩
    · have := mkEnd_le (ts.take i) 1 fun t ht => hd t (List.mem_of_mem_take ht)
      rw [hl] at this
      omega
    · rw [List.take_succ_eq_append_getElem hi, mkEnd_snoc]
  have HEND : Hid (mkEnd 1 (ts.take ts.length) = mkEnd 1 ts) := Lib.hid (by rw [List.take_length])
  have HMT := Lib.hid fun n w hn => markText_any n w hn
  unfold MarkOut at HMT
  clear h hd
  go_enter Tryd.func27, Tryd.ntmps27
  go_wp2_with fail
  go_loopw [1, 5] (fun kv iv wr => ∃ i : Nat, i ≤ ts.length ∧ iv = .int .i64 i ∧ kv = .int .i64 (mkEnd 1 (ts.take i) : Nat) ∧ Below w.heap.size w wr) (fun _ iv _ => ts.length - (intOf iv).toNat)
  case atStart => exact ⟨0, Nat.zero_le _, rfl, rfl, Below.refl _ _⟩
  case round =>
    obtain ⟨i, hi, rfl, rfl, hbw⟩ := hrel
    rename World => wr
    have HBW := Lib.hid hbw
    clear hbw
    by_cases hlt : i < ts.length
    · obtain ⟨p, off, A', c', hA, ho, hrd, hk, hdl, q3⟩ := HR.out i hlt
      subst hA
      have HREL : Hid (∀ W, Below w.heap.size w W → ∃ j : Nat, j ≤ ts.length ∧ (.int .i64 ((i : Int) + 1) : Value) = .int .i64 j ∧ (.int .i64 ((mkEnd 1 (ts.take i) : Nat) + 1 + 1 + 1 + 1 + (ts[i].1.ds.length : Nat)) : Value) = .int .i64 (mkEnd 1 (ts.take j) : Nat) ∧ Below w.heap.size w W) := Lib.hid fun W h2 => ⟨i + 1, by omega, by go_num, by rw [q3]; go_num, h2⟩
      have HO := Lib.hid (ho.keep HBW.out)
      have HRD := Lib.hid (hrd.at_ HBW.out)
      clear q3 HR HEND ho hrd
      generalize ts[i] = t at *
      generalize mkEnd 1 (ts.take i) = k at *
      obtain ⟨⟨nm, kk, a, b, ds⟩, A2, c2⟩ := t
      dsimp only at *
      have hi1 : (i : Int) < (ts.length : Int) := by omega
      have HM : Hid (∀ W, Below wr.heap.size wr W → W.cell? ⟨p, off + i * 5, none⟩ = some (.string (markOf k))) := Lib.hid fun W hW => (HO.out.keep hW).1
      have m0 := HM.out wr (Below.refl _ _)
      have HMK := Lib.hid (HMT.out k wr.drew (by omega))
      have HMI := Lib.hid fun W hr => heldInt64S_any A' ds.length c' ((k : Int) + 1 + 1 + 1 + 1) W (by omega) (by omega) (by omega) hr
      unfold Quiet at HMI
      clear HMT
      go_wp2_with fail
      go_region_held3 (fun W => W.cell? ⟨p, off + i * 5, none⟩ = some (.string (markOf k)))
        (first | exact HM.out _ (below_dr (Below.refl _ _)) | exact HM.out _ bk9)
        (first
          | (go_at_call 46; refine HMK.out.mono ?_; rintro e w9 ⟨rfl, hb9⟩; have bk9 : Below wr.heap.size wr w9 := below_next (below_dr (Below.refl _ _)) hb9; clear hb9))
      have HO9 := Lib.hid (HO.out.keep bk9)
      have HRD9 := Lib.hid (HRD.out.at_ bk9)
      have B9 := Lib.hid (below_next HBW.out bk9)
      clear bk9 HM HO HRD m0
      obtain ⟨c0, c1, c2', c3, c4⟩ := HO9.out
      go_wp2_with fail
      refine (HMI.out _ HRD9.out).mono ?_
      rintro e w10 ⟨rfl, m, rfl⟩
      go_wp2_with fail
      go_roundw
      case rel => exact HREL.out _ (below_drewN B9.out m)
      case measure => simp [intOf]; omega
    · obtain rfl : i = ts.length := by omega
      have HE := Lib.hid HEND.out
      go_wp2_with fail
      go_ret
      exact ⟨by rw [HE.out]; rfl, HBW.out⟩
end Go.Proofs.YtielmnkhcljmeaaDoor
