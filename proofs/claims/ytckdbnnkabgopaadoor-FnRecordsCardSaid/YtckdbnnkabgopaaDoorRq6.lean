/-
  Rows of records: toRecordS; an argument opened.
-/
import Derived.Test.YtckdbnnkabgopaaDoorRq5
namespace Go.Proofs.YtckdbnnkabgopaaDoor
open Go Go.RowKit Go.ChangeShapes Go.WideShapes Go.ChangeAt Go.Joins

def ToOut (xs : List Rc) (w : World) (e : Ending) (w' : World) : Prop := ∃ g, e = .returned (.slice (some ⟨g, 0, none⟩) xs.length xs.length) ∧ RRow w' w'.heap.size (some ⟨g, 0, none⟩) xs ∧ Below w.heap.size w w'
end Go.Proofs.YtckdbnnkabgopaaDoor

