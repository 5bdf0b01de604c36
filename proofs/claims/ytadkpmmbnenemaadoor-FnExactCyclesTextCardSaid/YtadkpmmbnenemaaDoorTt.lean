/-
  The table of powers of ten lies in the memory at the start.
-/
import Derived.Test.YtadkpmmbnenemaaDoorTi
import Derived.Test.YtadkpmmbnenemaaDoorTb2
import Derived.Test.YtadkpmmbnenemaaDoorLift
import Derived.Stop.LaidErr
import Derived.MakeChecks
namespace Go.Proofs.YtadkpmmbnenemaaDoor
open Go Go.ChangeMaps Go.RowKit

theorem tab_in_laid {laid : List (String × DataW Unit)} {pre suf : List (String × DataW Unit)} {w w' : World} (hl : laid = pre ++ ("internal/strconv.uint64pow10", Lib.tabData .u64 Lib.pow10Tab) :: suf) (hp : ∀ w, laidMetH Tryd.prog laid w = laidMet Tryd.prog laid w) (h : laidMetH Tryd.prog laid w) (he : w'.heap = w.heap) : Tab w' := by
  rw [hp, hl] at h
  have h2 : ∀ pre : List (String × DataW Unit), laidMet Tryd.prog (pre ++ ("internal/strconv.uint64pow10", Lib.tabData .u64 Lib.pow10Tab) :: suf) w → laidMet Tryd.prog (("internal/strconv.uint64pow10", Lib.tabData .u64 Lib.pow10Tab) :: suf) w := by
    intro pre
    induction pre with
    | nil => exact id
    | cons x xs ih => intro h; exact ih (laidMet.tail h)
  have h3 := Lib.tabIs_of_head (P := Tryd.prog) (g := 1) (by kernel_rfl) (by kernel_rfl) Tryd.underlying85 Tryd.underlying71 (by kernel_rfl) (by kernel_rfl) (h2 pre h)
  unfold Tab Lib.TabIs World.var? at *
  rw [he]
  exact h3
end Go.Proofs.YtadkpmmbnenemaaDoor
