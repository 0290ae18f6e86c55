/- Contracts of the shelf, laid at the program. No conditions. -/
import Derived.Shelf.SlGeneric
import Derived.Shelf.SortG.Plain
import Derived.Shelf.SortG.SortNone
import Derived.Ground.SlgnProg
import Derived.Test.YtokhnmchnfkiiaaAmS
import Derived.Test.YtokhnmchnfkiiaaProg
namespace Go.Proofs.Ytokhnmchnfkiiaa.Am
open Go Go.RowKit Go.Proofs Go.Shelf
set_option linter.unusedSimpArgs false
set_option linter.unusedVariables false
def sortStr_ren : Go.Shelf.Ren := ⟨fun | 54 => 139 | 64 => 144 | 65 => 143 | 78 => 154 | 79 => 155 | 80 => 145 | 81 => 146 | 82 => 147 | 83 => 148 | 84 => 149 | 85 => 150 | 61 => 151 | 86 => 152 | 87 => 153 | 93 => 156 | 89 => 157 | 90 => 158 | 94 => 159 | 95 => 160 | 69 => 161 | 97 => 162 | n => n, fun | 25 => 34 | 26 => 9 | 3 => 3 | 51 => 158 | 0 => 0 | 67 => 169 | 69 => 171 | 4 => 4 | 61 => 161 | 60 => 160 | 44 => 166 | 5 => 5 | 9 => 9 | 75 => 172 | 79 => 176 | 83 => 178 | 84 => 179 | n => n, fun | n => n⟩
theorem sortStr : Go.Proofs.SlLaysN.n54 Try.prog sortStr_ren := {
  mixed := by kernel_rfl
  f54 := ⟨Try.f139.name, by decide, Try.func139.trans (congrArg some (by kernel_rfl))⟩
  f61 := ⟨Try.f151.name, by decide, Try.func151.trans (congrArg some (by kernel_rfl))⟩
  f64 := Try.func144.trans (congrArg some (by kernel_rfl))
  f65 := ⟨Try.f143.name, by decide, Try.func143.trans (congrArg some (by kernel_rfl))⟩
  f69 := ⟨Try.f161.name, by decide, Try.func161.trans (congrArg some (by kernel_rfl))⟩
  f78 := Try.func154.trans (congrArg some (by kernel_rfl))
  f79 := Try.func155.trans (congrArg some (by kernel_rfl))
  f80 := ⟨Try.f145.name, by decide, Try.func145.trans (congrArg some (by kernel_rfl))⟩
  f81 := ⟨Try.f146.name, by decide, Try.func146.trans (congrArg some (by kernel_rfl))⟩
  f82 := ⟨Try.f147.name, by decide, Try.func147.trans (congrArg some (by kernel_rfl))⟩
  f83 := ⟨Try.f148.name, by decide, Try.func148.trans (congrArg some (by kernel_rfl))⟩
  f84 := ⟨Try.f149.name, by decide, Try.func149.trans (congrArg some (by kernel_rfl))⟩
  f85 := ⟨Try.f150.name, by decide, Try.func150.trans (congrArg some (by kernel_rfl))⟩
  f86 := ⟨Try.f152.name, by decide, Try.func152.trans (congrArg some (by kernel_rfl))⟩
  f87 := ⟨Try.f153.name, by decide, Try.func153.trans (congrArg some (by kernel_rfl))⟩
  f89 := Try.func157.trans (congrArg some (by kernel_rfl))
  f90 := Try.func158.trans (congrArg some (by kernel_rfl))
  f93 := ⟨Try.f156.name, by decide, Try.func156.trans (congrArg some (by kernel_rfl))⟩
  f94 := ⟨Try.f159.name, by decide, Try.func159.trans (congrArg some (by kernel_rfl))⟩
  f95 := ⟨Try.f160.name, by decide, Try.func160.trans (congrArg some (by kernel_rfl))⟩
  f97 := ⟨Try.f162.name, by decide, Try.func162.trans (congrArg some (by kernel_rfl))⟩
  t0 := Try.underlying0
  a0 := Try.isAgg0
  z0 := Try.sizeOf0
  v0 := Try.zeroValue0
  t3 := Try.underlying3
  a3 := Try.isAgg3
  z3 := Try.sizeOf3
  v3 := Try.zeroValue3
  t4 := Try.underlying4
  a4 := Try.isAgg4
  z4 := Try.sizeOf4
  v4 := Try.zeroValue4
  t5 := Try.underlying5
  a5 := Try.isAgg5
  z5 := Try.sizeOf5
  v5 := Try.zeroValue5
  t9 := Try.underlying9
  a9 := Try.isAgg9
  z9 := Try.sizeOf9
  v9 := Try.zeroValue9
  t25 := Try.underlying34
  a25 := Try.isAgg34
  z25 := Try.sizeOf34
  v25 := Try.zeroValue34
  t26 := Try.underlying9
  a26 := Try.isAgg9
  z26 := Try.sizeOf9
  v26 := Try.zeroValue9
  t44 := Try.underlying166
  a44 := Try.isAgg166
  z44 := Try.sizeOf166
  v44 := Try.zeroValue166
  t51 := Try.underlying158
  a51 := Try.isAgg158
  z51 := Try.sizeOf158
  v51 := Try.zeroValue158
  t60 := Try.underlying160
  a60 := Try.isAgg160
  z60 := Try.sizeOf160
  v60 := Try.zeroValue160
  t61 := Try.underlying161
  a61 := Try.isAgg161
  z61 := Try.sizeOf161
  v61 := Try.zeroValue161
  t67 := Try.underlying169
  a67 := Try.isAgg169
  z67 := Try.sizeOf169
  v67 := Try.zeroValue169
  t69 := Try.underlying171
  a69 := Try.isAgg171
  z69 := Try.sizeOf171
  v69 := Try.zeroValue171
  t75 := Try.underlying172
  a75 := Try.isAgg172
  z75 := Try.sizeOf172
  v75 := Try.zeroValue172
  t79 := Try.underlying176
  a79 := Try.isAgg176
  z79 := Try.sizeOf176
  v79 := Try.zeroValue176
  t83 := Try.underlying178
  a83 := Try.isAgg178
  z83 := Try.sizeOf178
  v83 := Try.zeroValue178
  t84 := Try.underlying179
  a84 := Try.isAgg179
  z84 := Try.sizeOf179
  v84 := Try.zeroValue179 }
end Go.Proofs.Ytokhnmchnfkiiaa.Am
