/- The shelf contract that sorts, laid at this program: the numbers of its functions and types. Printed by lay-plain. -/
import Derived.Shelf.SlGeneric
import Derived.Shelf.SlLaysF0
import Derived.Ground.SlsfProg
import Derived.Test.YtnodjlgihhinpaaDoorProg
namespace Go.Proofs
open Go.Shelf
def Tryd.sortK_ren : Go.Shelf.Ren := ⟨fun | 6 => 83 | 15 => 103 | 14 => 102 | 28 => 124 | 29 => 125 | 20 => 116 | 21 => 117 | 22 => 118 | 23 => 119 | 24 => 120 | 25 => 121 | 26 => 122 | 27 => 123 | 46 => 131 | 47 => 132 | 48 => 133 | 49 => 134 | 50 => 135 | 57 => 136 | n => n, fun | 22 => 90 | 24 => 93 | 25 => 102 | 3 => 3 | 39 => 115 | 0 => 0 | 53 => 74 | 55 => 40 | 4 => 4 | 46 => 180 | 45 => 179 | 50 => 184 | 5 => 5 | 9 => 9 | 66 => 189 | 70 => 192 | 76 => 194 | 77 => 195 | n => n, fun | n => n⟩
theorem Tryd.sortK : Go.Proofs.SlLaysF0.n6 Tryd.prog Tryd.sortK_ren := {
  mixed := by kernel_rfl
  f6 := ⟨Tryd.f83.name, by decide, Tryd.func83.trans (congrArg some (by kernel_rfl))⟩
  f14 := ⟨Tryd.f102.name, by decide, Tryd.func102.trans (congrArg some (by kernel_rfl))⟩
  f15 := Tryd.func103.trans (congrArg some (by kernel_rfl))
  f20 := ⟨Tryd.f116.name, by decide, Tryd.func116.trans (congrArg some (by kernel_rfl))⟩
  f21 := ⟨Tryd.f117.name, by decide, Tryd.func117.trans (congrArg some (by kernel_rfl))⟩
  f22 := ⟨Tryd.f118.name, by decide, Tryd.func118.trans (congrArg some (by kernel_rfl))⟩
  f23 := ⟨Tryd.f119.name, by decide, Tryd.func119.trans (congrArg some (by kernel_rfl))⟩
  f24 := ⟨Tryd.f120.name, by decide, Tryd.func120.trans (congrArg some (by kernel_rfl))⟩
  f25 := ⟨Tryd.f121.name, by decide, Tryd.func121.trans (congrArg some (by kernel_rfl))⟩
  f26 := ⟨Tryd.f122.name, by decide, Tryd.func122.trans (congrArg some (by kernel_rfl))⟩
  f27 := ⟨Tryd.f123.name, by decide, Tryd.func123.trans (congrArg some (by kernel_rfl))⟩
  f28 := Tryd.func124.trans (congrArg some (by kernel_rfl))
  f29 := Tryd.func125.trans (congrArg some (by kernel_rfl))
  f46 := ⟨Tryd.f131.name, by decide, Tryd.func131.trans (congrArg some (by kernel_rfl))⟩
  f47 := Tryd.func132.trans (congrArg some (by kernel_rfl))
  f48 := Tryd.func133.trans (congrArg some (by kernel_rfl))
  f49 := ⟨Tryd.f134.name, by decide, Tryd.func134.trans (congrArg some (by kernel_rfl))⟩
  f50 := ⟨Tryd.f135.name, by decide, Tryd.func135.trans (congrArg some (by kernel_rfl))⟩
  f57 := ⟨Tryd.f136.name, by decide, Tryd.func136.trans (congrArg some (by kernel_rfl))⟩
  t0 := Tryd.underlying0
  a0 := Tryd.isAgg0
  z0 := Tryd.sizeOf0
  v0 := Tryd.zeroValue0
  t3 := Tryd.underlying3
  a3 := Tryd.isAgg3
  z3 := Tryd.sizeOf3
  v3 := Tryd.zeroValue3
  t4 := Tryd.underlying4
  a4 := Tryd.isAgg4
  z4 := Tryd.sizeOf4
  v4 := Tryd.zeroValue4
  t5 := Tryd.underlying5
  a5 := Tryd.isAgg5
  z5 := Tryd.sizeOf5
  v5 := Tryd.zeroValue5
  t9 := Tryd.underlying9
  a9 := Tryd.isAgg9
  z9 := Tryd.sizeOf9
  v9 := Tryd.zeroValue9
  t22 := Tryd.underlying90
  a22 := Tryd.isAgg90
  z22 := Tryd.sizeOf90
  v22 := Tryd.zeroValue90
  t25 := Tryd.underlying102
  a25 := Tryd.isAgg102
  z25 := Tryd.sizeOf102
  v25 := Tryd.zeroValue102
  t39 := Tryd.underlying115
  a39 := Tryd.isAgg115
  z39 := Tryd.sizeOf115
  v39 := Tryd.zeroValue115
  t45 := Tryd.underlying179
  a45 := Tryd.isAgg179
  z45 := Tryd.sizeOf179
  v45 := Tryd.zeroValue179
  t46 := Tryd.underlying180
  a46 := Tryd.isAgg180
  z46 := Tryd.sizeOf180
  v46 := Tryd.zeroValue180
  t50 := Tryd.underlying184
  a50 := Tryd.isAgg184
  z50 := Tryd.sizeOf184
  v50 := Tryd.zeroValue184
  t53 := Tryd.underlying74
  a53 := Tryd.isAgg74
  z53 := Tryd.sizeOf74
  v53 := Tryd.zeroValue74
  t55 := Tryd.underlying40
  a55 := Tryd.isAgg40
  z55 := Tryd.sizeOf40
  v55 := Tryd.zeroValue40
  t66 := Tryd.underlying189
  a66 := Tryd.isAgg189
  z66 := Tryd.sizeOf189
  v66 := Tryd.zeroValue189
  t70 := Tryd.underlying192
  a70 := Tryd.isAgg192
  z70 := Tryd.sizeOf192
  v70 := Tryd.zeroValue192
  t76 := Tryd.underlying194
  a76 := Tryd.isAgg194
  z76 := Tryd.sizeOf194
  v76 := Tryd.zeroValue194
  t77 := Tryd.underlying195
  a77 := Tryd.isAgg195
  z77 := Tryd.sizeOf195
  v77 := Tryd.zeroValue195 }
end Go.Proofs
