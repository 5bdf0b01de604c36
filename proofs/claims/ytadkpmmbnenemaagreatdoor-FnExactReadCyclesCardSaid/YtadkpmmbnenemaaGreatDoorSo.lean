/-
  slices.Sort of integers: the shelf's contract laid at this program (written by the kit's lay-plain.mjs out of one shelf_lay_g line).
-/
import Derived.Shelf.SlGeneric
import Derived.Shelf.SortG.Plain
import Derived.Shelf.SortG.SortNone
import Derived.Ground.SlgnProg
import Derived.Test.YtadkpmmbnenemaaGreatDoorProg
namespace Go.Proofs
open Go.Shelf
def Tryz.sortI_ren : Go.Shelf.Ren := ⟨fun | 53 => 41 | 64 => 61 | 63 => 60 | 78 => 84 | 79 => 85 | 70 => 75 | 71 => 76 | 72 => 77 | 73 => 78 | 74 => 79 | 75 => 80 | 59 => 81 | 76 => 82 | 77 => 83 | 88 => 99 | 89 => 100 | 90 => 101 | 91 => 102 | 92 => 103 | 68 => 104 | 96 => 110 | n => n, fun | 22 => 22 | 23 => 2 | 3 => 3 | 51 => 78 | 0 => 0 | 67 => 98 | 69 => 82 | 4 => 4 | 61 => 90 | 60 => 89 | 44 => 95 | 5 => 5 | 9 => 9 | 75 => 119 | 79 => 123 | 83 => 132 | 84 => 133 | n => n, fun | n => n⟩
theorem Tryz.sortI : Go.Proofs.SlLaysN.n53 Tryz.prog Tryz.sortI_ren := {
  mixed := by kernel_rfl
  f53 := ⟨Tryz.f41.name, by decide, Tryz.func41.trans (congrArg some (by kernel_rfl))⟩
  f59 := ⟨Tryz.f81.name, by decide, Tryz.func81.trans (congrArg some (by kernel_rfl))⟩
  f63 := ⟨Tryz.f60.name, by decide, Tryz.func60.trans (congrArg some (by kernel_rfl))⟩
  f64 := Tryz.func61.trans (congrArg some (by kernel_rfl))
  f68 := ⟨Tryz.f104.name, by decide, Tryz.func104.trans (congrArg some (by kernel_rfl))⟩
  f70 := ⟨Tryz.f75.name, by decide, Tryz.func75.trans (congrArg some (by kernel_rfl))⟩
  f71 := ⟨Tryz.f76.name, by decide, Tryz.func76.trans (congrArg some (by kernel_rfl))⟩
  f72 := ⟨Tryz.f77.name, by decide, Tryz.func77.trans (congrArg some (by kernel_rfl))⟩
  f73 := ⟨Tryz.f78.name, by decide, Tryz.func78.trans (congrArg some (by kernel_rfl))⟩
  f74 := ⟨Tryz.f79.name, by decide, Tryz.func79.trans (congrArg some (by kernel_rfl))⟩
  f75 := ⟨Tryz.f80.name, by decide, Tryz.func80.trans (congrArg some (by kernel_rfl))⟩
  f76 := ⟨Tryz.f82.name, by decide, Tryz.func82.trans (congrArg some (by kernel_rfl))⟩
  f77 := ⟨Tryz.f83.name, by decide, Tryz.func83.trans (congrArg some (by kernel_rfl))⟩
  f78 := Tryz.func84.trans (congrArg some (by kernel_rfl))
  f79 := Tryz.func85.trans (congrArg some (by kernel_rfl))
  f88 := ⟨Tryz.f99.name, by decide, Tryz.func99.trans (congrArg some (by kernel_rfl))⟩
  f89 := Tryz.func100.trans (congrArg some (by kernel_rfl))
  f90 := Tryz.func101.trans (congrArg some (by kernel_rfl))
  f91 := ⟨Tryz.f102.name, by decide, Tryz.func102.trans (congrArg some (by kernel_rfl))⟩
  f92 := ⟨Tryz.f103.name, by decide, Tryz.func103.trans (congrArg some (by kernel_rfl))⟩
  f96 := ⟨Tryz.f110.name, by decide, Tryz.func110.trans (congrArg some (by kernel_rfl))⟩
  t0 := Tryz.underlying0
  a0 := Tryz.isAgg0
  z0 := Tryz.sizeOf0
  v0 := Tryz.zeroValue0
  t3 := Tryz.underlying3
  a3 := Tryz.isAgg3
  z3 := Tryz.sizeOf3
  v3 := Tryz.zeroValue3
  t4 := Tryz.underlying4
  a4 := Tryz.isAgg4
  z4 := Tryz.sizeOf4
  v4 := Tryz.zeroValue4
  t5 := Tryz.underlying5
  a5 := Tryz.isAgg5
  z5 := Tryz.sizeOf5
  v5 := Tryz.zeroValue5
  t9 := Tryz.underlying9
  a9 := Tryz.isAgg9
  z9 := Tryz.sizeOf9
  v9 := Tryz.zeroValue9
  t22 := Tryz.underlying22
  a22 := Tryz.isAgg22
  z22 := Tryz.sizeOf22
  v22 := Tryz.zeroValue22
  t23 := Tryz.underlying2
  a23 := Tryz.isAgg2
  z23 := Tryz.sizeOf2
  v23 := Tryz.zeroValue2
  t44 := Tryz.underlying95
  a44 := Tryz.isAgg95
  z44 := Tryz.sizeOf95
  v44 := Tryz.zeroValue95
  t51 := Tryz.underlying78
  a51 := Tryz.isAgg78
  z51 := Tryz.sizeOf78
  v51 := Tryz.zeroValue78
  t60 := Tryz.underlying89
  a60 := Tryz.isAgg89
  z60 := Tryz.sizeOf89
  v60 := Tryz.zeroValue89
  t61 := Tryz.underlying90
  a61 := Tryz.isAgg90
  z61 := Tryz.sizeOf90
  v61 := Tryz.zeroValue90
  t67 := Tryz.underlying98
  a67 := Tryz.isAgg98
  z67 := Tryz.sizeOf98
  v67 := Tryz.zeroValue98
  t69 := Tryz.underlying82
  a69 := Tryz.isAgg82
  z69 := Tryz.sizeOf82
  v69 := Tryz.zeroValue82
  t75 := Tryz.underlying119
  a75 := Tryz.isAgg119
  z75 := Tryz.sizeOf119
  v75 := Tryz.zeroValue119
  t79 := Tryz.underlying123
  a79 := Tryz.isAgg123
  z79 := Tryz.sizeOf123
  v79 := Tryz.zeroValue123
  t83 := Tryz.underlying132
  a83 := Tryz.isAgg132
  z83 := Tryz.sizeOf132
  v83 := Tryz.zeroValue132
  t84 := Tryz.underlying133
  a84 := Tryz.isAgg133
  z84 := Tryz.sizeOf133
  v84 := Tryz.zeroValue133 }
end Go.Proofs
