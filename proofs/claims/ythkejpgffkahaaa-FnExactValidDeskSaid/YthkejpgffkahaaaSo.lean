/-
  slices.Sort of integers: the shelf's contract laid at this program (written by the kit's lay-plain.mjs out of one shelf_lay_g line).
-/
import Derived.Shelf.SlGeneric
import Derived.Shelf.SortG.Plain
import Derived.Shelf.SortG.SortNone
import Derived.Ground.SlgnProg
import Derived.Test.YthkejpgffkahaaaProg
namespace Go.Proofs
open Go.Shelf
def Try.sortI_ren : Go.Shelf.Ren := ⟨fun | 53 => 34 | 64 => 46 | 63 => 45 | 78 => 59 | 79 => 60 | 70 => 50 | 71 => 51 | 72 => 52 | 73 => 53 | 74 => 54 | 75 => 55 | 59 => 56 | 76 => 57 | 77 => 58 | 88 => 62 | 89 => 63 | 90 => 64 | 91 => 65 | 92 => 66 | 68 => 67 | 96 => 68 | n => n, fun | 22 => 25 | 23 => 2 | 3 => 3 | 51 => 77 | 0 => 0 | 67 => 90 | 69 => 22 | 4 => 4 | 61 => 82 | 60 => 81 | 44 => 87 | 5 => 5 | 9 => 9 | 75 => 93 | 79 => 97 | 83 => 99 | 84 => 100 | n => n, fun | n => n⟩
theorem Try.sortI : Go.Proofs.SlLaysN.n53 Try.prog Try.sortI_ren := {
  mixed := by kernel_rfl
  f53 := ⟨Try.f34.name, by decide, Try.func34.trans (congrArg some (by kernel_rfl))⟩
  f59 := ⟨Try.f56.name, by decide, Try.func56.trans (congrArg some (by kernel_rfl))⟩
  f63 := ⟨Try.f45.name, by decide, Try.func45.trans (congrArg some (by kernel_rfl))⟩
  f64 := Try.func46.trans (congrArg some (by kernel_rfl))
  f68 := ⟨Try.f67.name, by decide, Try.func67.trans (congrArg some (by kernel_rfl))⟩
  f70 := ⟨Try.f50.name, by decide, Try.func50.trans (congrArg some (by kernel_rfl))⟩
  f71 := ⟨Try.f51.name, by decide, Try.func51.trans (congrArg some (by kernel_rfl))⟩
  f72 := ⟨Try.f52.name, by decide, Try.func52.trans (congrArg some (by kernel_rfl))⟩
  f73 := ⟨Try.f53.name, by decide, Try.func53.trans (congrArg some (by kernel_rfl))⟩
  f74 := ⟨Try.f54.name, by decide, Try.func54.trans (congrArg some (by kernel_rfl))⟩
  f75 := ⟨Try.f55.name, by decide, Try.func55.trans (congrArg some (by kernel_rfl))⟩
  f76 := ⟨Try.f57.name, by decide, Try.func57.trans (congrArg some (by kernel_rfl))⟩
  f77 := ⟨Try.f58.name, by decide, Try.func58.trans (congrArg some (by kernel_rfl))⟩
  f78 := Try.func59.trans (congrArg some (by kernel_rfl))
  f79 := Try.func60.trans (congrArg some (by kernel_rfl))
  f88 := ⟨Try.f62.name, by decide, Try.func62.trans (congrArg some (by kernel_rfl))⟩
  f89 := Try.func63.trans (congrArg some (by kernel_rfl))
  f90 := Try.func64.trans (congrArg some (by kernel_rfl))
  f91 := ⟨Try.f65.name, by decide, Try.func65.trans (congrArg some (by kernel_rfl))⟩
  f92 := ⟨Try.f66.name, by decide, Try.func66.trans (congrArg some (by kernel_rfl))⟩
  f96 := ⟨Try.f68.name, by decide, Try.func68.trans (congrArg some (by kernel_rfl))⟩
  t0 := Try.underlying0
  a0 := Try.isAgg0
  z0 := Try.sizeOf0
  v0 := Try.zeroValue0
  t3 := Try.underlying3
  a3 := Try.isAgg3
  z3 := Try.sizeOf3
  v3 := Try.zeroValue3
  t4 := Try.underlying4
  a4 := Try.isAgg4
  z4 := Try.sizeOf4
  v4 := Try.zeroValue4
  t5 := Try.underlying5
  a5 := Try.isAgg5
  z5 := Try.sizeOf5
  v5 := Try.zeroValue5
  t9 := Try.underlying9
  a9 := Try.isAgg9
  z9 := Try.sizeOf9
  v9 := Try.zeroValue9
  t22 := Try.underlying25
  a22 := Try.isAgg25
  z22 := Try.sizeOf25
  v22 := Try.zeroValue25
  t23 := Try.underlying2
  a23 := Try.isAgg2
  z23 := Try.sizeOf2
  v23 := Try.zeroValue2
  t44 := Try.underlying87
  a44 := Try.isAgg87
  z44 := Try.sizeOf87
  v44 := Try.zeroValue87
  t51 := Try.underlying77
  a51 := Try.isAgg77
  z51 := Try.sizeOf77
  v51 := Try.zeroValue77
  t60 := Try.underlying81
  a60 := Try.isAgg81
  z60 := Try.sizeOf81
  v60 := Try.zeroValue81
  t61 := Try.underlying82
  a61 := Try.isAgg82
  z61 := Try.sizeOf82
  v61 := Try.zeroValue82
  t67 := Try.underlying90
  a67 := Try.isAgg90
  z67 := Try.sizeOf90
  v67 := Try.zeroValue90
  t69 := Try.underlying22
  a69 := Try.isAgg22
  z69 := Try.sizeOf22
  v69 := Try.zeroValue22
  t75 := Try.underlying93
  a75 := Try.isAgg93
  z75 := Try.sizeOf93
  v75 := Try.zeroValue93
  t79 := Try.underlying97
  a79 := Try.isAgg97
  z79 := Try.sizeOf97
  v79 := Try.zeroValue97
  t83 := Try.underlying99
  a83 := Try.isAgg99
  z83 := Try.sizeOf99
  v83 := Try.zeroValue99
  t84 := Try.underlying100
  a84 := Try.isAgg100
  z84 := Try.sizeOf100
  v84 := Try.zeroValue100 }
end Go.Proofs
