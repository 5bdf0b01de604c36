/-
  slices.Sort of integers: the shelf's contract laid at this program (written by the kit's lay-plain.mjs out of one shelf_lay_g line).
-/
import Derived.Shelf.SlGeneric
import Derived.Shelf.SortG.Plain
import Derived.Shelf.SortG.SortNone
import Derived.Ground.SlgnProg
import Derived.Test.YtadkpmmbnenemaaDoorProg
namespace Go.Proofs
open Go.Shelf
def Tryd.sortI_ren : Go.Shelf.Ren := ⟨fun | 53 => 26 | 64 => 35 | 63 => 34 | 78 => 48 | 79 => 49 | 70 => 39 | 71 => 40 | 72 => 41 | 73 => 42 | 74 => 43 | 75 => 44 | 59 => 45 | 76 => 46 | 77 => 47 | 88 => 54 | 89 => 55 | 90 => 56 | 91 => 57 | 92 => 58 | 68 => 59 | 96 => 64 | n => n, fun | 22 => 22 | 23 => 2 | 3 => 3 | 51 => 55 | 0 => 0 | 67 => 69 | 69 => 71 | 4 => 4 | 61 => 61 | 60 => 60 | 44 => 66 | 5 => 5 | 9 => 9 | 75 => 77 | 79 => 81 | 83 => 88 | 84 => 89 | n => n, fun | n => n⟩
theorem Tryd.sortI : Go.Proofs.SlLaysN.n53 Tryd.prog Tryd.sortI_ren := {
  mixed := by kernel_rfl
  f53 := ⟨Tryd.f26.name, by decide, Tryd.func26.trans (congrArg some (by kernel_rfl))⟩
  f59 := ⟨Tryd.f45.name, by decide, Tryd.func45.trans (congrArg some (by kernel_rfl))⟩
  f63 := ⟨Tryd.f34.name, by decide, Tryd.func34.trans (congrArg some (by kernel_rfl))⟩
  f64 := Tryd.func35.trans (congrArg some (by kernel_rfl))
  f68 := ⟨Tryd.f59.name, by decide, Tryd.func59.trans (congrArg some (by kernel_rfl))⟩
  f70 := ⟨Tryd.f39.name, by decide, Tryd.func39.trans (congrArg some (by kernel_rfl))⟩
  f71 := ⟨Tryd.f40.name, by decide, Tryd.func40.trans (congrArg some (by kernel_rfl))⟩
  f72 := ⟨Tryd.f41.name, by decide, Tryd.func41.trans (congrArg some (by kernel_rfl))⟩
  f73 := ⟨Tryd.f42.name, by decide, Tryd.func42.trans (congrArg some (by kernel_rfl))⟩
  f74 := ⟨Tryd.f43.name, by decide, Tryd.func43.trans (congrArg some (by kernel_rfl))⟩
  f75 := ⟨Tryd.f44.name, by decide, Tryd.func44.trans (congrArg some (by kernel_rfl))⟩
  f76 := ⟨Tryd.f46.name, by decide, Tryd.func46.trans (congrArg some (by kernel_rfl))⟩
  f77 := ⟨Tryd.f47.name, by decide, Tryd.func47.trans (congrArg some (by kernel_rfl))⟩
  f78 := Tryd.func48.trans (congrArg some (by kernel_rfl))
  f79 := Tryd.func49.trans (congrArg some (by kernel_rfl))
  f88 := ⟨Tryd.f54.name, by decide, Tryd.func54.trans (congrArg some (by kernel_rfl))⟩
  f89 := Tryd.func55.trans (congrArg some (by kernel_rfl))
  f90 := Tryd.func56.trans (congrArg some (by kernel_rfl))
  f91 := ⟨Tryd.f57.name, by decide, Tryd.func57.trans (congrArg some (by kernel_rfl))⟩
  f92 := ⟨Tryd.f58.name, by decide, Tryd.func58.trans (congrArg some (by kernel_rfl))⟩
  f96 := ⟨Tryd.f64.name, by decide, Tryd.func64.trans (congrArg some (by kernel_rfl))⟩
  t0 := Tryd.underlying0
  a0 := Tryd.isAgg0
  z0 := Tryd.sizeOf0
  v0 := Tryd.zeroValue0
  t3 := Tryd.underlying3
  a3 := Tryd.isAgg3
  z3 := Tryd.sizeOf3
  v3 := Tryd.zeroValue3
  t4 := Tryd.underlying4
  a4 := Tryd.isAgg4
  z4 := Tryd.sizeOf4
  v4 := Tryd.zeroValue4
  t5 := Tryd.underlying5
  a5 := Tryd.isAgg5
  z5 := Tryd.sizeOf5
  v5 := Tryd.zeroValue5
  t9 := Tryd.underlying9
  a9 := Tryd.isAgg9
  z9 := Tryd.sizeOf9
  v9 := Tryd.zeroValue9
  t22 := Tryd.underlying22
  a22 := Tryd.isAgg22
  z22 := Tryd.sizeOf22
  v22 := Tryd.zeroValue22
  t23 := Tryd.underlying2
  a23 := Tryd.isAgg2
  z23 := Tryd.sizeOf2
  v23 := Tryd.zeroValue2
  t44 := Tryd.underlying66
  a44 := Tryd.isAgg66
  z44 := Tryd.sizeOf66
  v44 := Tryd.zeroValue66
  t51 := Tryd.underlying55
  a51 := Tryd.isAgg55
  z51 := Tryd.sizeOf55
  v51 := Tryd.zeroValue55
  t60 := Tryd.underlying60
  a60 := Tryd.isAgg60
  z60 := Tryd.sizeOf60
  v60 := Tryd.zeroValue60
  t61 := Tryd.underlying61
  a61 := Tryd.isAgg61
  z61 := Tryd.sizeOf61
  v61 := Tryd.zeroValue61
  t67 := Tryd.underlying69
  a67 := Tryd.isAgg69
  z67 := Tryd.sizeOf69
  v67 := Tryd.zeroValue69
  t69 := Tryd.underlying71
  a69 := Tryd.isAgg71
  z69 := Tryd.sizeOf71
  v69 := Tryd.zeroValue71
  t75 := Tryd.underlying77
  a75 := Tryd.isAgg77
  z75 := Tryd.sizeOf77
  v75 := Tryd.zeroValue77
  t79 := Tryd.underlying81
  a79 := Tryd.isAgg81
  z79 := Tryd.sizeOf81
  v79 := Tryd.zeroValue81
  t83 := Tryd.underlying88
  a83 := Tryd.isAgg88
  z83 := Tryd.sizeOf88
  v83 := Tryd.zeroValue88
  t84 := Tryd.underlying89
  a84 := Tryd.isAgg89
  z84 := Tryd.sizeOf89
  v84 := Tryd.zeroValue89 }
end Go.Proofs
