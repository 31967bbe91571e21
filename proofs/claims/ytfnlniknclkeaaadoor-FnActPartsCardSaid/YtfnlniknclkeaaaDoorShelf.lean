/- The numbers of the library's sorting functions in this program, and that their bodies are those that the library's contracts were proved of. -/
import Derived.Shelf.Sort.Plain
import Derived.Shelf.Slices.In.SortNone2
import Derived.Ground.NamesProg
import Derived.Test.YtfnlniknclkeaaaDoorProg
namespace Go.Proofs.YtfnlniknclkeaaaDoor
open Go.Shelf
def laysInts_ren : Go.Shelf.Ren := ⟨fun | 191 => 81 | 189 => 95 | 125 => 106 | 257 => 105 | 128 => 120 | 129 => 100 | 294 => 111 | 295 => 112 | 296 => 113 | 297 => 114 | 298 => 115 | 299 => 116 | 216 => 117 | 300 => 118 | 301 => 119 | 328 => 121 | 329 => 122 | 330 => 123 | 331 => 124 | 332 => 125 | 215 => 126 | 343 => 127 | n => n, fun | 28 => 25 | 0 => 0 | 3 => 3 | 46 => 96 | 51 => 126 | 53 => 113 | 4 => 4 | 183 => 139 | 182 => 138 | 131 => 65 | 5 => 5 | 9 => 9 | 218 => 147 | 222 => 151 | 228 => 153 | 229 => 154 | n => n, fun | n => n⟩
theorem laysInts : Go.Proofs.Lays.n191 Tryd.prog laysInts_ren := {
  mixed := by kernel_rfl
  f125 := Tryd.func106.trans (congrArg some (by kernel_rfl))
  f128 := Tryd.func120.trans (congrArg some (by kernel_rfl))
  f129 := Tryd.func100.trans (congrArg some (by kernel_rfl))
  f189 := Tryd.func95.trans (congrArg some (by kernel_rfl))
  f191 := Tryd.func81.trans (congrArg some (by kernel_rfl))
  f215 := Tryd.func126.trans (congrArg some (by kernel_rfl))
  f216 := Tryd.func117.trans (congrArg some (by kernel_rfl))
  f257 := Tryd.func105.trans (congrArg some (by kernel_rfl))
  f294 := Tryd.func111.trans (congrArg some (by kernel_rfl))
  f295 := Tryd.func112.trans (congrArg some (by kernel_rfl))
  f296 := Tryd.func113.trans (congrArg some (by kernel_rfl))
  f297 := Tryd.func114.trans (congrArg some (by kernel_rfl))
  f298 := Tryd.func115.trans (congrArg some (by kernel_rfl))
  f299 := Tryd.func116.trans (congrArg some (by kernel_rfl))
  f300 := Tryd.func118.trans (congrArg some (by kernel_rfl))
  f301 := Tryd.func119.trans (congrArg some (by kernel_rfl))
  f328 := Tryd.func121.trans (congrArg some (by kernel_rfl))
  f329 := Tryd.func122.trans (congrArg some (by kernel_rfl))
  f330 := Tryd.func123.trans (congrArg some (by kernel_rfl))
  f331 := Tryd.func124.trans (congrArg some (by kernel_rfl))
  f332 := Tryd.func125.trans (congrArg some (by kernel_rfl))
  f343 := Tryd.func127.trans (congrArg some (by kernel_rfl))
  t0 := Tryd.underlying0
  a0 := Tryd.isAgg0
  z0 := Tryd.sizeOf0
  v0 := Tryd.zeroValue0
  t3 := Tryd.underlying3
  a3 := Tryd.isAgg3
  z3 := Tryd.sizeOf3
  v3 := Tryd.zeroValue3
  t4 := Tryd.underlying4
  a4 := Tryd.isAgg4
  z4 := Tryd.sizeOf4
  v4 := Tryd.zeroValue4
  t5 := Tryd.underlying5
  a5 := Tryd.isAgg5
  z5 := Tryd.sizeOf5
  v5 := Tryd.zeroValue5
  t9 := Tryd.underlying9
  a9 := Tryd.isAgg9
  z9 := Tryd.sizeOf9
  v9 := Tryd.zeroValue9
  t28 := Tryd.underlying25
  a28 := Tryd.isAgg25
  z28 := Tryd.sizeOf25
  v28 := Tryd.zeroValue25
  t46 := Tryd.underlying96
  a46 := Tryd.isAgg96
  z46 := Tryd.sizeOf96
  v46 := Tryd.zeroValue96
  t51 := Tryd.underlying126
  a51 := Tryd.isAgg126
  z51 := Tryd.sizeOf126
  v51 := Tryd.zeroValue126
  t53 := Tryd.underlying113
  a53 := Tryd.isAgg113
  z53 := Tryd.sizeOf113
  v53 := Tryd.zeroValue113
  t131 := Tryd.underlying65
  a131 := Tryd.isAgg65
  z131 := Tryd.sizeOf65
  v131 := Tryd.zeroValue65
  t182 := Tryd.underlying138
  a182 := Tryd.isAgg138
  z182 := Tryd.sizeOf138
  v182 := Tryd.zeroValue138
  t183 := Tryd.underlying139
  a183 := Tryd.isAgg139
  z183 := Tryd.sizeOf139
  v183 := Tryd.zeroValue139
  t218 := Tryd.underlying147
  a218 := Tryd.isAgg147
  z218 := Tryd.sizeOf147
  v218 := Tryd.zeroValue147
  t222 := Tryd.underlying151
  a222 := Tryd.isAgg151
  z222 := Tryd.sizeOf151
  v222 := Tryd.zeroValue151
  t228 := Tryd.underlying153
  a228 := Tryd.isAgg153
  z228 := Tryd.sizeOf153
  v228 := Tryd.zeroValue153
  t229 := Tryd.underlying154
  a229 := Tryd.isAgg154
  z229 := Tryd.sizeOf154
  v229 := Tryd.zeroValue154 }
end Go.Proofs.YtfnlniknclkeaaaDoor
