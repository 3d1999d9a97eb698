/- the kit's contract of slices.Sort, laid at this program (printed by the kit's lay-plain.mjs) -/
import Derived.Shelf.SortG.Plain
import Derived.Shelf.SortG.SortNone
import Derived.Test.YtioiebjgjimeiaaProg
namespace Go.Proofs.Ytioiebjgjimeiaa
open Go.Shelf

def sortI_ren : Go.Shelf.Ren := ⟨fun | 53 => 177 | 64 => 196 | 63 => 195 | 78 => 208 | 79 => 209 | 70 => 200 | 71 => 201 | 72 => 202 | 73 => 203 | 74 => 204 | 75 => 205 | 59 => 197 | 76 => 206 | 77 => 207 | 88 => 211 | 89 => 212 | 90 => 213 | 91 => 214 | 92 => 215 | 68 => 210 | 96 => 216 | n => n, fun | 22 => 28 | 23 => 2 | 3 => 3 | 51 => 153 | 0 => 0 | 67 => 163 | 69 => 165 | 4 => 4 | 61 => 157 | 60 => 156 | 44 => 140 | 5 => 5 | 9 => 9 | 75 => 166 | 79 => 170 | 83 => 172 | 84 => 173 | n => n, fun | n => n⟩
theorem sortI : Go.Proofs.SlLaysN.n53 Try.prog sortI_ren := {
  mixed := by kernel_rfl
  f53 := ⟨Try.f177.name, by decide, Try.func177.trans (congrArg some (by kernel_rfl))⟩
  f59 := ⟨Try.f197.name, by decide, Try.func197.trans (congrArg some (by kernel_rfl))⟩
  f63 := ⟨Try.f195.name, by decide, Try.func195.trans (congrArg some (by kernel_rfl))⟩
  f64 := Try.func196.trans (congrArg some (by kernel_rfl))
  f68 := ⟨Try.f210.name, by decide, Try.func210.trans (congrArg some (by kernel_rfl))⟩
  f70 := ⟨Try.f200.name, by decide, Try.func200.trans (congrArg some (by kernel_rfl))⟩
  f71 := ⟨Try.f201.name, by decide, Try.func201.trans (congrArg some (by kernel_rfl))⟩
  f72 := ⟨Try.f202.name, by decide, Try.func202.trans (congrArg some (by kernel_rfl))⟩
  f73 := ⟨Try.f203.name, by decide, Try.func203.trans (congrArg some (by kernel_rfl))⟩
  f74 := ⟨Try.f204.name, by decide, Try.func204.trans (congrArg some (by kernel_rfl))⟩
  f75 := ⟨Try.f205.name, by decide, Try.func205.trans (congrArg some (by kernel_rfl))⟩
  f76 := ⟨Try.f206.name, by decide, Try.func206.trans (congrArg some (by kernel_rfl))⟩
  f77 := ⟨Try.f207.name, by decide, Try.func207.trans (congrArg some (by kernel_rfl))⟩
  f78 := Try.func208.trans (congrArg some (by kernel_rfl))
  f79 := Try.func209.trans (congrArg some (by kernel_rfl))
  f88 := ⟨Try.f211.name, by decide, Try.func211.trans (congrArg some (by kernel_rfl))⟩
  f89 := Try.func212.trans (congrArg some (by kernel_rfl))
  f90 := Try.func213.trans (congrArg some (by kernel_rfl))
  f91 := ⟨Try.f214.name, by decide, Try.func214.trans (congrArg some (by kernel_rfl))⟩
  f92 := ⟨Try.f215.name, by decide, Try.func215.trans (congrArg some (by kernel_rfl))⟩
  f96 := ⟨Try.f216.name, by decide, Try.func216.trans (congrArg some (by kernel_rfl))⟩
  t0 := Try.underlying0
  a0 := Try.isAgg0
  z0 := Try.sizeOf0
  v0 := Try.zeroValue0
  t3 := Try.underlying3
  a3 := Try.isAgg3
  z3 := Try.sizeOf3
  v3 := Try.zeroValue3
  t4 := Try.underlying4
  a4 := Try.isAgg4
  z4 := Try.sizeOf4
  v4 := Try.zeroValue4
  t5 := Try.underlying5
  a5 := Try.isAgg5
  z5 := Try.sizeOf5
  v5 := Try.zeroValue5
  t9 := Try.underlying9
  a9 := Try.isAgg9
  z9 := Try.sizeOf9
  v9 := Try.zeroValue9
  t22 := Try.underlying28
  a22 := Try.isAgg28
  z22 := Try.sizeOf28
  v22 := Try.zeroValue28
  t23 := Try.underlying2
  a23 := Try.isAgg2
  z23 := Try.sizeOf2
  v23 := Try.zeroValue2
  t44 := Try.underlying140
  a44 := Try.isAgg140
  z44 := Try.sizeOf140
  v44 := Try.zeroValue140
  t51 := Try.underlying153
  a51 := Try.isAgg153
  z51 := Try.sizeOf153
  v51 := Try.zeroValue153
  t60 := Try.underlying156
  a60 := Try.isAgg156
  z60 := Try.sizeOf156
  v60 := Try.zeroValue156
  t61 := Try.underlying157
  a61 := Try.isAgg157
  z61 := Try.sizeOf157
  v61 := Try.zeroValue157
  t67 := Try.underlying163
  a67 := Try.isAgg163
  z67 := Try.sizeOf163
  v67 := Try.zeroValue163
  t69 := Try.underlying165
  a69 := Try.isAgg165
  z69 := Try.sizeOf165
  v69 := Try.zeroValue165
  t75 := Try.underlying166
  a75 := Try.isAgg166
  z75 := Try.sizeOf166
  v75 := Try.zeroValue166
  t79 := Try.underlying170
  a79 := Try.isAgg170
  z79 := Try.sizeOf170
  v79 := Try.zeroValue170
  t83 := Try.underlying172
  a83 := Try.isAgg172
  z83 := Try.sizeOf172
  v83 := Try.zeroValue172
  t84 := Try.underlying173
  a84 := Try.isAgg173
  z84 := Try.sizeOf173
  v84 := Try.zeroValue173 }

end Go.Proofs.Ytioiebjgjimeiaa
