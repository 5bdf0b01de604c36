/-
  slices.DeleteFunc of integers: the shelf's contract laid at this program (written by the kit's lay-plain.mjs out of one shelf_lay_g line).
-/
import Derived.Shelf.SlLaysH
import Derived.Shelf.SlGeneric
import Derived.Ground.SlgfProg
import Derived.Test.YtfkjnaaplhcheaaProg
namespace Go.Proofs
open Go.Shelf
def Try.delI_ren : Go.Shelf.Ren := ⟨fun | 10 => 59 | 6 => 97 | n => n, fun | 22 => 25 | 23 => 2 | 25 => 80 | 3 => 3 | 4 => 4 | 0 => 0 | n => n, fun | n => n⟩
theorem Try.delI : Go.Proofs.SlLaysH.n10 Try.prog Try.delI_ren := {
  mixed := by kernel_rfl
  f6 := ⟨Try.f97.name, by decide, Try.func97.trans (congrArg some (by kernel_rfl))⟩
  f10 := ⟨Try.f59.name, by decide, Try.func59.trans (congrArg some (by kernel_rfl))⟩
  t0 := Try.underlying0
  a0 := Try.isAgg0
  z0 := Try.sizeOf0
  v0 := Try.zeroValue0
  t3 := Try.underlying3
  a3 := Try.isAgg3
  z3 := Try.sizeOf3
  v3 := Try.zeroValue3
  t4 := Try.underlying4
  a4 := Try.isAgg4
  z4 := Try.sizeOf4
  v4 := Try.zeroValue4
  t22 := Try.underlying25
  a22 := Try.isAgg25
  z22 := Try.sizeOf25
  v22 := Try.zeroValue25
  a23 := Try.isAgg2
  z23 := Try.sizeOf2
  t25 := Try.underlying80
  a25 := Try.isAgg80
  z25 := Try.sizeOf80
  v25 := Try.zeroValue80 }
end Go.Proofs

