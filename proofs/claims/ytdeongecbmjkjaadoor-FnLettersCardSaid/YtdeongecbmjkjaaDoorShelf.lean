/- The numbers of the library's sorting functions in this program, and that their bodies are those that the library's contracts were proved of. -/
import Derived.Shelf.Sort.Plain
import Derived.Shelf.Slices.In.SortNone2
import Derived.Ground.NamesProg
import Derived.Test.YtdeongecbmjkjaaDoorProg
namespace Go.Proofs.YtdeongecbmjkjaaDoor
open Go.Shelf
def laysInts_ren : Go.Shelf.Ren := ⟨fun | 191 => 102 | 189 => 112 | 125 => 128 | 257 => 127 | 128 => 147 | 129 => 131 | 294 => 138 | 295 => 139 | 296 => 140 | 297 => 141 | 298 => 142 | 299 => 143 | 216 => 144 | 300 => 145 | 301 => 146 | 328 => 152 | 329 => 153 | 330 => 154 | 331 => 155 | 332 => 156 | 215 => 157 | 343 => 158 | n => n, fun | 28 => 29 | 0 => 0 | 3 => 3 | 46 => 137 | 51 => 155 | 53 => 139 | 4 => 4 | 183 => 166 | 182 => 165 | 131 => 102 | 5 => 5 | 9 => 9 | 218 => 178 | 222 => 182 | 228 => 186 | 229 => 187 | n => n, fun | n => n⟩
theorem laysInts : Go.Proofs.Lays.n191 Tryd.prog laysInts_ren := {
  mixed := by kernel_rfl
  f125 := Tryd.func128.trans (congrArg some (by kernel_rfl))
  f128 := Tryd.func147.trans (congrArg some (by kernel_rfl))
  f129 := Tryd.func131.trans (congrArg some (by kernel_rfl))
  f189 := Tryd.func112.trans (congrArg some (by kernel_rfl))
  f191 := Tryd.func102.trans (congrArg some (by kernel_rfl))
  f215 := Tryd.func157.trans (congrArg some (by kernel_rfl))
  f216 := Tryd.func144.trans (congrArg some (by kernel_rfl))
  f257 := Tryd.func127.trans (congrArg some (by kernel_rfl))
  f294 := Tryd.func138.trans (congrArg some (by kernel_rfl))
  f295 := Tryd.func139.trans (congrArg some (by kernel_rfl))
  f296 := Tryd.func140.trans (congrArg some (by kernel_rfl))
  f297 := Tryd.func141.trans (congrArg some (by kernel_rfl))
  f298 := Tryd.func142.trans (congrArg some (by kernel_rfl))
  f299 := Tryd.func143.trans (congrArg some (by kernel_rfl))
  f300 := Tryd.func145.trans (congrArg some (by kernel_rfl))
  f301 := Tryd.func146.trans (congrArg some (by kernel_rfl))
  f328 := Tryd.func152.trans (congrArg some (by kernel_rfl))
  f329 := Tryd.func153.trans (congrArg some (by kernel_rfl))
  f330 := Tryd.func154.trans (congrArg some (by kernel_rfl))
  f331 := Tryd.func155.trans (congrArg some (by kernel_rfl))
  f332 := Tryd.func156.trans (congrArg some (by kernel_rfl))
  f343 := Tryd.func158.trans (congrArg some (by kernel_rfl))
  t0 := Tryd.underlying0
  a0 := Tryd.isAgg0
  z0 := Tryd.sizeOf0
  v0 := Tryd.zeroValue0
  t3 := Tryd.underlying3
  a3 := Tryd.isAgg3
  z3 := Tryd.sizeOf3
  v3 := Tryd.zeroValue3
  t4 := Tryd.underlying4
  a4 := Tryd.isAgg4
  z4 := Tryd.sizeOf4
  v4 := Tryd.zeroValue4
  t5 := Tryd.underlying5
  a5 := Tryd.isAgg5
  z5 := Tryd.sizeOf5
  v5 := Tryd.zeroValue5
  t9 := Tryd.underlying9
  a9 := Tryd.isAgg9
  z9 := Tryd.sizeOf9
  v9 := Tryd.zeroValue9
  t28 := Tryd.underlying29
  a28 := Tryd.isAgg29
  z28 := Tryd.sizeOf29
  v28 := Tryd.zeroValue29
  t46 := Tryd.underlying137
  a46 := Tryd.isAgg137
  z46 := Tryd.sizeOf137
  v46 := Tryd.zeroValue137
  t51 := Tryd.underlying155
  a51 := Tryd.isAgg155
  z51 := Tryd.sizeOf155
  v51 := Tryd.zeroValue155
  t53 := Tryd.underlying139
  a53 := Tryd.isAgg139
  z53 := Tryd.sizeOf139
  v53 := Tryd.zeroValue139
  t131 := Tryd.underlying102
  a131 := Tryd.isAgg102
  z131 := Tryd.sizeOf102
  v131 := Tryd.zeroValue102
  t182 := Tryd.underlying165
  a182 := Tryd.isAgg165
  z182 := Tryd.sizeOf165
  v182 := Tryd.zeroValue165
  t183 := Tryd.underlying166
  a183 := Tryd.isAgg166
  z183 := Tryd.sizeOf166
  v183 := Tryd.zeroValue166
  t218 := Tryd.underlying178
  a218 := Tryd.isAgg178
  z218 := Tryd.sizeOf178
  v218 := Tryd.zeroValue178
  t222 := Tryd.underlying182
  a222 := Tryd.isAgg182
  z222 := Tryd.sizeOf182
  v222 := Tryd.zeroValue182
  t228 := Tryd.underlying186
  a228 := Tryd.isAgg186
  z228 := Tryd.sizeOf186
  v228 := Tryd.zeroValue186
  t229 := Tryd.underlying187
  a229 := Tryd.isAgg187
  z229 := Tryd.sizeOf187
  v229 := Tryd.zeroValue187 }
end Go.Proofs.YtdeongecbmjkjaaDoor
