/-
  impl.numbersFrom.
-/
import Derived.Test.YtmpnfjajlmafgaaBs
import Derived.Test.YtmpnfjajlmafgaaOut
import Derived.Test.YtmpnfjajlmafgaaCo
namespace Go.Proofs.Ytmpnfjajlmafgaa
open Go Go.RowKit

def upsN (n : Nat) : List Int := (List.range n).map Int.ofNat
theorem upsN_len (n : Nat) : (upsN n).length = n := by simp [upsN]
theorem upsN_succ (n : Nat) : upsN (n + 1) = upsN n ++ [(n : Int)] := by simp [upsN, List.range_succ]

set_option maxRecDepth 100000 in
theorem numbersFrom_any (n : Nat) (hn : 1 ≤ n ∧ n ≤ 64) (w : World) : Calls Try.prog 79 #[.int .i64 0, .int .i64 ((n : Int) - 1)] w (fun e w' => ∃ A c, e = .returned (.slice A n c) ∧ w'.ownsRow w.heap.size 2 1 (.slice A n c) n (il (upsN n)) ∧ Below w.heap.size w w') := by
  obtain ⟨j0, hj0, hy0, hy1, hy2⟩ := info_parts info_i64
  obtain ⟨n1, n2⟩ := hn
  have START : Hid (Grow w 2 0 [] (.slice (some ⟨w.heap.size, 0, none⟩) 0 0) (w.alloc (.cells #[] 2))) := Lib.hid (Grow.empty _ _)
  have HUP : Hid (∀ k, il (upsN (k + 1)) = il (upsN k) ++ [.int .i64 (k : Nat)]) := Lib.hid fun k => by rw [upsN_succ]; simp [il]
  go_enter Try.func79, Try.ntmps79
  go_wp2_with fail
  go_loopw [5, 6] (fun v kv wr => ∃ k : Nat, k ≤ n ∧ kv = .int .i64 k ∧ Grow w 2 k (il (upsN k)) v wr) (fun _ kv _ => n - (intOf kv).toNat)
  case atStart => exact ⟨0, Nat.zero_le _, rfl, START.out⟩
  case round =>
    obtain ⟨k, hk, rfl, hb, A, c, rfl, ho⟩ := hrel
    rename World => wr
    have HB := Lib.hid hb
    have HO := Lib.hid ho
    have hz := hb.size
    clear hb ho START
    by_cases hlt : k < n
    · have hle : (k : Int) ≤ (n : Int) - 1 := by omega
      go_wp2_with (refine wpList_append_lies _ rfl _ _ _ rfl w.heap.size 2 j0 _ 1 8 Try.underlying22 hj0 hy0 hy1 hy2 rfl (by omega) (.slice A k c) k (il (upsN k)) (by rfl) (HO.out.alloc _) ⟨wr.heap.size, 0, none⟩ 1 1 [.int .i64 (k : Nat)] (by rfl) (by rfl) (World.news_of_block (cs := #[.int .i64 (k : Nat)]) (t := 2) (fr := (0, 0)) (heap_alloc_new wr _)) (by simp [Value.oneCell']) (by omega) (by unfold maxLen; omega) (by omega) (by simp; omega) (wr.heap.size + 1) (by simp) ?_; intro g9 cap9 w9 hown9 hgrow hat hlt9; have G9 := Lib.hid (Grow.step HB.out HO.out (Below.refl _ _) hgrow hown9); clear hown9 hgrow hat)
      go_roundw
      case rel => exact ⟨k + 1, by omega, by go_num, by rw [HUP.out]; exact G9.out⟩
      case measure => simp [intOf]; omega
    · obtain rfl : k = n := by omega
      go_wp2_with fail
      go_ret
      exact ⟨A, c, rfl, HO.out, HB.out⟩

end Go.Proofs.Ytmpnfjajlmafgaa
