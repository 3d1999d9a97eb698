/- the kit's contract of slices.Sort, laid at this program (printed by the kit's lay-plain.mjs) -/
import Derived.Shelf.SortG.Plain
import Derived.Shelf.SortG.SortNone
import Derived.Test.YtfiikbcffpcbkaaProg
namespace Go.Proofs.Ytfiikbcffpcbkaa
open Go.Shelf

def sortI_ren : Go.Shelf.Ren := ⟨fun | 53 => 165 | 64 => 175 | 63 => 174 | 78 => 186 | 79 => 187 | 70 => 178 | 71 => 179 | 72 => 180 | 73 => 181 | 74 => 182 | 75 => 183 | 59 => 166 | 76 => 184 | 77 => 185 | 88 => 188 | 89 => 189 | 90 => 190 | 91 => 191 | 92 => 192 | 68 => 176 | 96 => 193 | n => n, fun | 22 => 28 | 23 => 2 | 3 => 3 | 51 => 106 | 0 => 0 | 67 => 163 | 69 => 63 | 4 => 4 | 61 => 157 | 60 => 156 | 44 => 118 | 5 => 5 | 9 => 9 | 75 => 165 | 79 => 169 | 83 => 171 | 84 => 172 | n => n, fun | n => n⟩
theorem sortI : Go.Proofs.SlLaysN.n53 Try.prog sortI_ren := {
  mixed := by kernel_rfl
  f53 := ⟨Try.f165.name, by decide, Try.func165.trans (congrArg some (by kernel_rfl))⟩
  f59 := ⟨Try.f166.name, by decide, Try.func166.trans (congrArg some (by kernel_rfl))⟩
  f63 := ⟨Try.f174.name, by decide, Try.func174.trans (congrArg some (by kernel_rfl))⟩
  f64 := Try.func175.trans (congrArg some (by kernel_rfl))
  f68 := ⟨Try.f176.name, by decide, Try.func176.trans (congrArg some (by kernel_rfl))⟩
  f70 := ⟨Try.f178.name, by decide, Try.func178.trans (congrArg some (by kernel_rfl))⟩
  f71 := ⟨Try.f179.name, by decide, Try.func179.trans (congrArg some (by kernel_rfl))⟩
  f72 := ⟨Try.f180.name, by decide, Try.func180.trans (congrArg some (by kernel_rfl))⟩
  f73 := ⟨Try.f181.name, by decide, Try.func181.trans (congrArg some (by kernel_rfl))⟩
  f74 := ⟨Try.f182.name, by decide, Try.func182.trans (congrArg some (by kernel_rfl))⟩
  f75 := ⟨Try.f183.name, by decide, Try.func183.trans (congrArg some (by kernel_rfl))⟩
  f76 := ⟨Try.f184.name, by decide, Try.func184.trans (congrArg some (by kernel_rfl))⟩
  f77 := ⟨Try.f185.name, by decide, Try.func185.trans (congrArg some (by kernel_rfl))⟩
  f78 := Try.func186.trans (congrArg some (by kernel_rfl))
  f79 := Try.func187.trans (congrArg some (by kernel_rfl))
  f88 := ⟨Try.f188.name, by decide, Try.func188.trans (congrArg some (by kernel_rfl))⟩
  f89 := Try.func189.trans (congrArg some (by kernel_rfl))
  f90 := Try.func190.trans (congrArg some (by kernel_rfl))
  f91 := ⟨Try.f191.name, by decide, Try.func191.trans (congrArg some (by kernel_rfl))⟩
  f92 := ⟨Try.f192.name, by decide, Try.func192.trans (congrArg some (by kernel_rfl))⟩
  f96 := ⟨Try.f193.name, by decide, Try.func193.trans (congrArg some (by kernel_rfl))⟩
  t0 := Try.underlying0
  a0 := Try.isAgg0
  z0 := Try.sizeOf0
  v0 := Try.zeroValue0
  t3 := Try.underlying3
  a3 := Try.isAgg3
  z3 := Try.sizeOf3
  v3 := Try.zeroValue3
  t4 := Try.underlying4
  a4 := Try.isAgg4
  z4 := Try.sizeOf4
  v4 := Try.zeroValue4
  t5 := Try.underlying5
  a5 := Try.isAgg5
  z5 := Try.sizeOf5
  v5 := Try.zeroValue5
  t9 := Try.underlying9
  a9 := Try.isAgg9
  z9 := Try.sizeOf9
  v9 := Try.zeroValue9
  t22 := Try.underlying28
  a22 := Try.isAgg28
  z22 := Try.sizeOf28
  v22 := Try.zeroValue28
  t23 := Try.underlying2
  a23 := Try.isAgg2
  z23 := Try.sizeOf2
  v23 := Try.zeroValue2
  t44 := Try.underlying118
  a44 := Try.isAgg118
  z44 := Try.sizeOf118
  v44 := Try.zeroValue118
  t51 := Try.underlying106
  a51 := Try.isAgg106
  z51 := Try.sizeOf106
  v51 := Try.zeroValue106
  t60 := Try.underlying156
  a60 := Try.isAgg156
  z60 := Try.sizeOf156
  v60 := Try.zeroValue156
  t61 := Try.underlying157
  a61 := Try.isAgg157
  z61 := Try.sizeOf157
  v61 := Try.zeroValue157
  t67 := Try.underlying163
  a67 := Try.isAgg163
  z67 := Try.sizeOf163
  v67 := Try.zeroValue163
  t69 := Try.underlying63
  a69 := Try.isAgg63
  z69 := Try.sizeOf63
  v69 := Try.zeroValue63
  t75 := Try.underlying165
  a75 := Try.isAgg165
  z75 := Try.sizeOf165
  v75 := Try.zeroValue165
  t79 := Try.underlying169
  a79 := Try.isAgg169
  z79 := Try.sizeOf169
  v79 := Try.zeroValue169
  t83 := Try.underlying171
  a83 := Try.isAgg171
  z83 := Try.sizeOf171
  v83 := Try.zeroValue171
  t84 := Try.underlying172
  a84 := Try.isAgg172
  z84 := Try.sizeOf172
  v84 := Try.zeroValue172 }

end Go.Proofs.Ytfiikbcffpcbkaa
