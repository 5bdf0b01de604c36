/-
  Arguments opened: lists of integers, records.
-/
import Derived.Test.YtielmnkhcljmeaaDoorLift
import Derived.Test.YtielmnkhcljmeaaDoorRc3
namespace Go.Proofs.YtielmnkhcljmeaaDoor
open Go.ChangeShapes Go.WideShapes Go.ChangeAt Go.RowKit Go.Joins

theorem int_bd {n : Int} (h : (Lit.int .i64 n).wf = true) : -9223372036854775808 ≤ n ∧ n ≤ 9223372036854775807 := by
  simp [Lit.wf, IntKind.min, IntKind.max, IntKind.signed, IntKind.bits] at h
  omega
theorem u64_bd {n : Int} (h : (Lit.int .u64 n).wf = true) : 0 ≤ n ∧ n < 18446744073709551616 := by
  simp [Lit.wf, IntKind.min, IntKind.max, IntKind.signed, IntKind.bits] at h
  omega
set_option maxRecDepth 100000 in
theorem open_record {H : Type} {enc : TypeId × Value → H} {W : World} {r : Reach} {b0 : Nat} {v : Value} {d : DataW H} {ps : List MemPlace} (hv : Value.okWide Tryd.prog W r b0 27 v) (h : DataW.Trod enc Tryd.prog W 0 (fun _ => true) true 27 v d ps) :
    ∃ (nm : ByteArray) (k a b : Int) (A : Option Addr) (xs : List Int) (c : Nat), v = rcV nm k a b A xs.length c ∧ nm.size ≤ 9223372036854775807 ∧ (0 ≤ a ∧ a < 18446744073709551616) ∧ (0 ≤ b ∧ b < 18446744073709551616) ∧ xs.length ≤ 9223372036854775807 ∧ Rd W W.heap.size A (il xs) := by
  obtain ⟨cs, rfl, hsz⟩ := okWide_struct Tryd.underlying27 hv
  rw [show Tryd.prog.cellsOf 27 = 5 by kernel_rfl] at hsz
  obtain ⟨cl⟩ := cs
  match cl, hsz with
  | [c0, c1, c2, c3, c4], _ =>
    obtain ⟨fuel, hf⟩ := h
    obtain ⟨ys, n, _, _, _, hlen, hg⟩ := DataW.trod_struct Tryd.underlying27 hf
    have h0 : DataW.trod enc Tryd.prog W 0 (fun _ => true) true n 9 ((([c0, c1, c2, c3, c4] : List Value).drop 0).take (Tryd.prog.cellsOf 9)) = ys[0]? := hg 0 _ rfl
    have h1 : DataW.trod enc Tryd.prog W 0 (fun _ => true) true n 24 ((([c0, c1, c2, c3, c4] : List Value).drop 1).take (Tryd.prog.cellsOf 24)) = ys[1]? := hg 1 _ rfl
    have h2 : DataW.trod enc Tryd.prog W 0 (fun _ => true) true n 25 ((([c0, c1, c2, c3, c4] : List Value).drop 4).take (Tryd.prog.cellsOf 25)) = ys[2]? := hg 2 _ rfl
    rw [show Tryd.prog.cellsOf 9 = 1 by kernel_rfl] at h0
    rw [show Tryd.prog.cellsOf 24 = 3 by kernel_rfl] at h1
    rw [show Tryd.prog.cellsOf 25 = 1 by kernel_rfl] at h2
    match ys, hlen with
    | [y0, y1, y2], _ =>
      have e0 : DataW.trod enc Tryd.prog W 0 (fun _ => true) true n 9 [c0] = some y0 := h0
      have e1 : DataW.trod enc Tryd.prog W 0 (fun _ => true) true n 24 [c1, c2, c3] = some y1 := h1
      have e2 : DataW.trod enc Tryd.prog W 0 (fun _ => true) true n 25 [c4] = some y2 := h2
      obtain ⟨s, es, _, hs⟩ := DataW.trod_string Tryd.underlying9 e0
      obtain rfl : c0 = .string s := by simpa using es
      obtain ⟨zs, m, _, _, _, hzl, hz⟩ := DataW.trod_struct Tryd.underlying24 e1
      have g0 : DataW.trod enc Tryd.prog W 0 (fun _ => true) true m 2 ((([c1, c2, c3] : List Value).drop 0).take (Tryd.prog.cellsOf 2)) = zs[0]? := hz 0 _ rfl
      have g1 : DataW.trod enc Tryd.prog W 0 (fun _ => true) true m 22 ((([c1, c2, c3] : List Value).drop 1).take (Tryd.prog.cellsOf 22)) = zs[1]? := hz 1 _ rfl
      have g2 : DataW.trod enc Tryd.prog W 0 (fun _ => true) true m 22 ((([c1, c2, c3] : List Value).drop 2).take (Tryd.prog.cellsOf 22)) = zs[2]? := hz 2 _ rfl
      rw [show Tryd.prog.cellsOf 2 = 1 by kernel_rfl] at g0
      rw [show Tryd.prog.cellsOf 22 = 1 by kernel_rfl] at g1 g2
      match zs, hzl with
      | [z0, z1, z2], _ =>
        have k0 : DataW.trod enc Tryd.prog W 0 (fun _ => true) true m 2 [c1] = some z0 := g0
        have k1 : DataW.trod enc Tryd.prog W 0 (fun _ => true) true m 22 [c2] = some z1 := g1
        have k2 : DataW.trod enc Tryd.prog W 0 (fun _ => true) true m 22 [c3] = some z2 := g2
        obtain ⟨k, ek, _, hk⟩ := DataW.trod_int Tryd.underlying2 k0
        obtain ⟨a, ea, _, ha⟩ := DataW.trod_int Tryd.underlying22 k1
        obtain ⟨b, eb, _, hb⟩ := DataW.trod_int Tryd.underlying22 k2
        obtain rfl : c1 = .int .i64 k := by simpa using ek
        obtain rfl : c2 = .int .u64 a := by simpa using ea
        obtain rfl : c3 = .int .u64 b := by simpa using eb
        obtain ⟨A, xs, c, rfl, hc, hm, hr, hok⟩ := open_row (Value.int .i64) (fun n => (Lit.int .i64 n).wf = true) Tryd.underlying25 (show Tryd.prog.cellsOf 2 = 1 by kernel_rfl)
          (fun n cs y hy => by obtain ⟨z, hz, _, hw⟩ := DataW.trod_int Tryd.underlying2 hy; exact ⟨z, hz, hw⟩) e2
        exact ⟨s, k, a, b, A, xs, c, rfl, by unfold maxLen at hs; omega, u64_bd ha, u64_bd hb, by unfold maxLen at hm; omega, hr⟩
end Go.Proofs.YtielmnkhcljmeaaDoor
