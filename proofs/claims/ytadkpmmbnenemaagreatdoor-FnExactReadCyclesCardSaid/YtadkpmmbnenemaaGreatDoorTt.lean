/-
  The table of powers of ten lies in the memory at the start.
-/
import Derived.Test.YtadkpmmbnenemaaGreatDoorTi
import Derived.Test.YtadkpmmbnenemaaGreatDoorTb2
import Derived.Test.YtadkpmmbnenemaaGreatDoorLift
import Derived.Stop.LaidErr
import Derived.MakeChecks
namespace Go.Proofs.YtadkpmmbnenemaaGreatDoor
open Go Go.ChangeMaps Go.RowKit

theorem tab_in_laid {laid : List (String × DataW Unit)} {pre suf : List (String × DataW Unit)} {w w' : World} (hl : laid = pre ++ ("internal/strconv.uint64pow10", Lib.tabData .u64 Lib.pow10Tab) :: suf) (hp : ∀ w, laidMetH Tryz.prog laid w = laidMet Tryz.prog laid w) (h : laidMetH Tryz.prog laid w) (he : w'.heap = w.heap) : Tab w' := by
  rw [hp, hl] at h
  have h2 : ∀ pre : List (String × DataW Unit), laidMet Tryz.prog (pre ++ ("internal/strconv.uint64pow10", Lib.tabData .u64 Lib.pow10Tab) :: suf) w → laidMet Tryz.prog (("internal/strconv.uint64pow10", Lib.tabData .u64 Lib.pow10Tab) :: suf) w := by
    intro pre
    induction pre with
    | nil => exact id
    | cons x xs ih => intro h; exact ih (laidMet.tail h)
  have h3 := Lib.tabIs_of_head (P := Tryz.prog) (g := 5) (by kernel_rfl) (by kernel_rfl) Tryz.underlying129 Tryz.underlying82 (by kernel_rfl) (by kernel_rfl) (h2 pre h)
  unfold Tab Lib.TabIs World.var? at *
  rw [he]
  exact h3
end Go.Proofs.YtadkpmmbnenemaaGreatDoor

