/-
  FnRecords: the law's own small functions; a []byte argument opened; rows of one record.
-/
import Derived.Test.YtckdbnnkabgopaaDoorSc6
import Derived.Test.YtckdbnnkabgopaaDoorSr4
import Derived.Test.YtckdbnnkabgopaaDoorRv6
namespace Go.Proofs.YtckdbnnkabgopaaDoor
open Go Go.RowKit Go.Joins Go.ChangeShapes Go.WideShapes Go.ChangeAt

/-- a []byte: bytes that are read -/
def BR (w : World) (A : Option Addr) (n : Nat) : Prop := ∀ a, a < n → ∃ b off v, A = some ⟨b, off, none⟩ ∧ b < w.heap.size ∧ (v : Nat) ≤ 255 ∧ w.cell? ⟨b, off + a, none⟩ = some (.int .u8 (v : Nat))
theorem BR.at_ {w w' : World} {A : Option Addr} {n : Nat} (h : BR w A n) (hb : Below w.heap.size w w') : BR w' A n := fun a ha => by
  obtain ⟨b, off, v, e, hbl, hv, hc⟩ := h a ha
  exact ⟨b, off, v, e, Nat.lt_of_lt_of_le hbl hb.size, hv, keepC hb hc⟩
theorem u8_bd {n : Int} (h : (Lit.int .u8 n).wf = true) : 0 ≤ n ∧ n ≤ 255 := by
  simp [Lit.wf, IntKind.min, IntKind.max, IntKind.signed, IntKind.bits] at h
  omega
theorem open_bytes {H : Type} {enc : TypeId × Value → H} {W : World} {v : Value} {d : DataW H} {ps : List MemPlace} (h : DataW.Trod enc Tryd.prog W 0 (fun _ => true) true 22 v d ps)
    (hv : ∃ a len cap, v = .slice a len cap) : ∃ (A : Option Addr) (n c : Nat), v = .slice A n c ∧ n ≤ 9223372036854775807 ∧ BR W A n := by
  obtain ⟨fuel, hf⟩ := h
  obtain ⟨a, len, cap, rfl⟩ := hv
  obtain ⟨A, xs, c, he, hc, hm, hr, hok⟩ := open_row (v := .slice a len cap) (Value.int .u8) (fun n => (Lit.int .u8 n).wf = true) Tryd.underlying22 (show Tryd.prog.cellsOf 5 = 1 by kernel_rfl)
    (fun n cs y hy => by obtain ⟨z, hz, _, hw⟩ := DataW.trod_int Tryd.underlying5 hy; exact ⟨z, hz, hw⟩) (by simpa [Value.cells] using hf)
  refine ⟨A, xs.length, c, he, by unfold maxLen at hm; omega, fun i hi => ?_⟩
  obtain ⟨b, off, e, hb, hcl⟩ := hr (by rw [List.length_map]; omega)
  have hk := u8_bd (hok xs[i] (List.getElem_mem hi))
  refine ⟨b, off, xs[i].toNat, e, hb, by omega, ?_⟩
  rw [hcl i (by rw [List.length_map]; exact hi), List.getElem_map]
  congr 2
  omega
set_option maxHeartbeats 800000 in
theorem b10Long_any (A B : Option Addr) (n m c d : Nat) (w : World) (hn : n ≤ 9223372036854775807) (hm : m ≤ 9223372036854775807) :
    Calls Tryd.prog 4 #[.slice A n c, .slice B m d] w (SameOut (.bool (decide (1048576 < n) || decide (1048576 < m))) w) := by
  unfold SameOut
  by_cases h1 : 1048576 < n
  · have h1' : (1048576 : Int) < (n : Int) := by omega
    rw [decide_eq_true h1, Bool.true_or]
    go_enter Tryd.func4, Tryd.ntmps4
    go_wp2
    go_ret
    exact ⟨rfl, rfl⟩
  · have h1' : ¬ (1048576 : Int) < (n : Int) := by omega
    rw [decide_eq_false h1, Bool.false_or]
    by_cases h2 : 1048576 < m
    · have h2' : (1048576 : Int) < (m : Int) := by omega
      rw [decide_eq_true h2]
      go_enter Tryd.func4, Tryd.ntmps4
      go_wp2
      go_ret
      exact ⟨rfl, rfl⟩
    · have h2' : ¬ (1048576 : Int) < (m : Int) := by omega
      rw [decide_eq_false h2]
      go_enter Tryd.func4, Tryd.ntmps4
      go_wp2
      go_ret
      exact ⟨rfl, rfl⟩
set_option maxHeartbeats 800000 in
theorem b10At_any (A : Option Addr) (n c i N : Nat) (w : World) (hn : n ≤ 9223372036854775807) (hN : 1 < N ∧ N ≤ 1000) (hi : i ≤ 1000) (h : BR w A n) :
    Calls Tryd.prog 12 #[.slice A n c, .int .i64 i, .int .i64 N] w (fun e w' => ∃ v : Nat, v < N ∧ e = .returned (.int .i64 v) ∧ w = w') := by
  have hN' : ¬ (N : Int) ≤ 1 := by omega
  have hN2 : (1 : Int) < N := by omega
  by_cases hlt : i < n
  · have hlt' : (i : Int) < (n : Int) := by omega
    obtain ⟨b, off, v, rfl, hb, hv, hc⟩ := h i hlt
    go_enter Tryd.func12, Tryd.ntmps12
    go_wp2
    go_ret
    exact ⟨v % N, Nat.mod_lt _ (by omega), rfl, rfl⟩
  · have hlt' : ¬ (i : Int) < (n : Int) := by omega
    go_enter Tryd.func12, Tryd.ntmps12
    go_wp2
    go_ret
    refine ⟨(i * 37 + 11) % N, Nat.mod_lt _ (by omega), ?_, rfl⟩
    rw [Int.natCast_emod, Int.natCast_add, Int.natCast_mul]
    rfl
theorem sdB_refl (k a b : Int) : sdB k a b k a b = true := by unfold sdB; simp
theorem sameR_refl (xs : List Rc) : sameR xs xs = true := sameR_yes rfl fun j _ h1 _ => by
  unfold rcEq
  rw [sdB_refl, decide_eq_true rfl]
  unfold sameI
  rw [decide_eq_true rfl]
  rfl
/-- the piece of one record -/
theorem RRow.piece {w : World} {B : Nat} {A : Option Addr} {X : List Rc} (h : RRow w B A X) {i : Nat} (hi : i < X.length) : ∃ p off, A = some ⟨p, off, none⟩ ∧ RRow w B (some ⟨p, off + i * 5, none⟩) [X[i]] := by
  obtain ⟨p, off, e, hp, hr⟩ := h (by omega)
  refine ⟨p, off, e, fun _ => ⟨p, off + i * 5, rfl, hp, fun j hj => ?_⟩⟩
  obtain rfl : j = 0 := by simpa using hj
  exact hr i hi
theorem RRow.new {w : World} {b c : Nat} {A : Option Addr} {r : Rc} (hb : b < w.heap.size) (h : RcO w b 0 r.nm r.k r.a r.b A r.ds.length c) (hd : Rd w w.heap.size A (il r.ds)) : RRow w w.heap.size (some ⟨b, 0, none⟩) [r] := fun _ => by
  refine ⟨b, 0, rfl, hb, fun j hj => ?_⟩
  obtain rfl : j = 0 := by simpa using hj
  exact ⟨A, c, h, hd⟩
theorem fine_ok {r : Rc} (h : r.fine) : r.ok ∧ r.nm.size ≤ 8 ∧ r.ds.length ≤ 256 := by
  obtain ⟨h1, h2, h3⟩ := h
  obtain ⟨q1, q2, q3, q4, q5⟩ := rec_facts h1
  have hs : r.nm.size ≤ 8 := by rw [Lib.size_eq]; exact q2
  exact ⟨⟨by omega, h2, h3, by omega⟩, hs, q4⟩
theorem fine_store {r : Rc} (h : r.fine) : storeS r.nm.data.toList r.k r.a r.b r.ds = ⟨r.bytes.toArray⟩ := by
  unfold storeS
  rw [if_pos (show recB r.nm.data.toList r.k r.a r.b r.ds = true from h.1)]
  rfl
theorem fine_load {r : Rc} (h : r.fine) : ldB r.bytes = true ∧ ldR r.bytes = r := by
  obtain ⟨r1, r2, r3⟩ := read_back (nm := r.nm.data.toList) [] h.2.1 h.2.2 h.1
  rw [List.append_nil] at r1 r2 r3
  have hB : ldB r.bytes = true := by
    unfold ldB Rc.bytes
    have hl := storeL_len r.nm.data.toList r.k r.a r.b r.ds
    rw [r1, r2, decide_eq_true (by omega), decide_eq_true (rfl : (storeL r.nm.data.toList r.k r.a r.b r.ds).length = _)]
    rfl
  refine ⟨hB, ?_⟩
  unfold ldR
  rw [if_pos hB]
  unfold Rc.bytes
  rw [r3]
theorem bytes_le {r : Rc} (h : r.fine) : r.bytes.length ≤ 1000 := by
  obtain ⟨_, h2, h3⟩ := fine_ok h
  have hl := storeL_len r.nm.data.toList r.k r.a r.b r.ds
  have : r.nm.data.toList.length ≤ 8 := by rw [← Lib.size_eq]; exact h2
  unfold Rc.bytes
  omega
end Go.Proofs.YtckdbnnkabgopaaDoor
