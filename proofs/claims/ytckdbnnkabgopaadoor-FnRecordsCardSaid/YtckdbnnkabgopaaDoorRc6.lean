/-
  Bytes of a record: spec.l07Store.
-/
import Derived.Test.YtckdbnnkabgopaaDoorRc5
import Derived.Deep.RegionHeld3
import Derived.Outline
namespace Go.Proofs.YtckdbnnkabgopaaDoor
open Go Go.RowKit

theorem Bf.dr {B : Nat} {l : List UInt8} {v : Value} {W0 w : World} (h : Bf B l v W0 w) : Bf B l v W0 w.drew := h.drewN 1
theorem RcAt.dr {w : World} {p : Nat} {nm : ByteArray} {k a b : Int} {A : Option Addr} {n c : Nat} (h : RcAt w p nm k a b A n c) : RcAt w.drew p nm k a b A n c := h
theorem news_two (w : World) (x y : Value) (e : TypeId) : ∀ j u, [x, y][j]? = some u → (w.alloc (.cells #[x, y] e)).cell? ((⟨w.heap.size, 0, none⟩ : Addr).add j) = some u := by
  intro j u hj
  have hadd : (⟨w.heap.size, 0, none⟩ : Addr).add j = ⟨w.heap.size, j, none⟩ := by unfold Addr.add; split <;> simp_all
  rw [hadd, World.cell?_alloc_mark, ← hj]
  simp
theorem bf_two {B : Nat} {v : Value} {W0 w : World} {l : List UInt8} {x y n : Int} (h : Lib.OwnBuf B 5 v (l.length + 2) (bc l ++ [.int .u8 x, .int .u8 y]) W0 w) (hx : x = n % 256) (hy : y = n / 256 % 256) : Bf B (l ++ le n 2) v W0 w := by
  unfold Bf
  rw [le_two, bc_app, List.length_append, show [u8 n, u8 (n / 256)] = [u8 n] ++ [u8 (n / 256)] from rfl, bc_app, bc_u8, bc_u8, ← hx, ← hy]
  exact h
theorem bf_many {B : Nat} {v : Value} {W0 w : World} {l m : List UInt8} {n : Nat} (h : Lib.OwnBuf B 5 v (l.length + n) (bc l ++ bc m) W0 w) (hn : n = m.length) : Bf B (l ++ m) v W0 w := by
  subst hn
  unfold Bf
  rw [bc_app, List.length_append]
  exact h
theorem Rd.ilGet {w : World} {B g off : Nat} {xs : List Int} (h : Rd w B (some ⟨g, off, none⟩) (il xs)) {k : Nat} (hk : k < xs.length) : w.cell? ⟨g, off + k, none⟩ = some (.int .i64 xs[k]) := by
  obtain ⟨b', off', e, _, hc⟩ := h.ilAt hk
  injection e with e
  injection e with e1 e2
  subst e1 e2
  exact hc
theorem low_byte {n : Int} (h : 0 ≤ n ∧ n ≤ 65535) : IntKind.u8.wrap (n.tmod 256) = n % 256 := by
  rw [Int.tmod_eq_emod_of_nonneg h.1, IntKind.wrap_u8]
  omega
theorem high_byte {n : Int} (h : 0 ≤ n ∧ n ≤ 65535) : IntKind.u8.wrap (IntKind.i64.wrap (n / 256)) = n / 256 % 256 := by
  rw [IntWalk.i64_in (n / 256) (by omega), IntKind.wrap_u8]
theorem high_byte' {n : Int} (h : 0 ≤ n ∧ n ≤ 65535) : IntKind.u8.wrap (IntKind.i64.wrap (n.tdiv 256)) = n / 256 % 256 := by
  rw [Int.tdiv_eq_ediv_of_nonneg h.1, high_byte h]
end Go.Proofs.YtckdbnnkabgopaaDoor

