/- slices.SortFunc of timers: where its parts lie. Conditions: none. -/
import Derived.Shelf.SlGeneric
import Derived.Shelf.SlSortCmp.NoneTotal
import Derived.Ground.SlsfProg
import Derived.Test.YtiknkeakielncaaProg
namespace Go.Proofs.Ytiknkeakielncaa.So
open Go Go.Proofs Go.Shelf
def sortT_ren : Go.Shelf.Ren := ⟨fun | 6 => 68 | 15 => 101 | 14 => 100 | 28 => 123 | 29 => 124 | 20 => 115 | 21 => 116 | 22 => 117 | 23 => 118 | 24 => 119 | 25 => 120 | 26 => 121 | 27 => 122 | 46 => 135 | 47 => 136 | 48 => 137 | 49 => 138 | 50 => 139 | 57 => 159 | n => n, fun | 22 => 120 | 24 => 126 | 25 => 133 | 3 => 3 | 39 => 189 | 0 => 0 | 53 => 31 | 55 => 216 | 4 => 4 | 46 => 209 | 45 => 208 | 50 => 77 | 5 => 5 | 9 => 9 | 66 => 225 | 70 => 229 | 76 => 243 | 77 => 244 | n => n, fun | n => n⟩
theorem sortT : Go.Proofs.SlLaysF0.n6 Try.prog sortT_ren := {
  mixed := by kernel_rfl
  f6 := ⟨Try.f68.name, by decide, Try.func68.trans (congrArg some (by kernel_rfl))⟩
  f14 := ⟨Try.f100.name, by decide, Try.func100.trans (congrArg some (by kernel_rfl))⟩
  f15 := Try.func101.trans (congrArg some (by kernel_rfl))
  f20 := ⟨Try.f115.name, by decide, Try.func115.trans (congrArg some (by kernel_rfl))⟩
  f21 := ⟨Try.f116.name, by decide, Try.func116.trans (congrArg some (by kernel_rfl))⟩
  f22 := ⟨Try.f117.name, by decide, Try.func117.trans (congrArg some (by kernel_rfl))⟩
  f23 := ⟨Try.f118.name, by decide, Try.func118.trans (congrArg some (by kernel_rfl))⟩
  f24 := ⟨Try.f119.name, by decide, Try.func119.trans (congrArg some (by kernel_rfl))⟩
  f25 := ⟨Try.f120.name, by decide, Try.func120.trans (congrArg some (by kernel_rfl))⟩
  f26 := ⟨Try.f121.name, by decide, Try.func121.trans (congrArg some (by kernel_rfl))⟩
  f27 := ⟨Try.f122.name, by decide, Try.func122.trans (congrArg some (by kernel_rfl))⟩
  f28 := Try.func123.trans (congrArg some (by kernel_rfl))
  f29 := Try.func124.trans (congrArg some (by kernel_rfl))
  f46 := ⟨Try.f135.name, by decide, Try.func135.trans (congrArg some (by kernel_rfl))⟩
  f47 := Try.func136.trans (congrArg some (by kernel_rfl))
  f48 := Try.func137.trans (congrArg some (by kernel_rfl))
  f49 := ⟨Try.f138.name, by decide, Try.func138.trans (congrArg some (by kernel_rfl))⟩
  f50 := ⟨Try.f139.name, by decide, Try.func139.trans (congrArg some (by kernel_rfl))⟩
  f57 := ⟨Try.f159.name, by decide, Try.func159.trans (congrArg some (by kernel_rfl))⟩
  t0 := Try.underlying0
  a0 := Try.isAgg0
  z0 := Try.sizeOf0
  v0 := Try.zeroValue0
  t3 := Try.underlying3
  a3 := Try.isAgg3
  z3 := Try.sizeOf3
  v3 := Try.zeroValue3
  t4 := Try.underlying4
  a4 := Try.isAgg4
  z4 := Try.sizeOf4
  v4 := Try.zeroValue4
  t5 := Try.underlying5
  a5 := Try.isAgg5
  z5 := Try.sizeOf5
  v5 := Try.zeroValue5
  t9 := Try.underlying9
  a9 := Try.isAgg9
  z9 := Try.sizeOf9
  v9 := Try.zeroValue9
  t22 := Try.underlying120
  a22 := Try.isAgg120
  z22 := Try.sizeOf120
  v22 := Try.zeroValue120
  t25 := Try.underlying133
  a25 := Try.isAgg133
  z25 := Try.sizeOf133
  v25 := Try.zeroValue133
  t39 := Try.underlying189
  a39 := Try.isAgg189
  z39 := Try.sizeOf189
  v39 := Try.zeroValue189
  t45 := Try.underlying208
  a45 := Try.isAgg208
  z45 := Try.sizeOf208
  v45 := Try.zeroValue208
  t46 := Try.underlying209
  a46 := Try.isAgg209
  z46 := Try.sizeOf209
  v46 := Try.zeroValue209
  t50 := Try.underlying77
  a50 := Try.isAgg77
  z50 := Try.sizeOf77
  v50 := Try.zeroValue77
  t53 := Try.underlying31
  a53 := Try.isAgg31
  z53 := Try.sizeOf31
  v53 := Try.zeroValue31
  t55 := Try.underlying216
  a55 := Try.isAgg216
  z55 := Try.sizeOf216
  v55 := Try.zeroValue216
  t66 := Try.underlying225
  a66 := Try.isAgg225
  z66 := Try.sizeOf225
  v66 := Try.zeroValue225
  t70 := Try.underlying229
  a70 := Try.isAgg229
  z70 := Try.sizeOf229
  v70 := Try.zeroValue229
  t76 := Try.underlying243
  a76 := Try.isAgg243
  z76 := Try.sizeOf243
  v76 := Try.zeroValue243
  t77 := Try.underlying244
  a77 := Try.isAgg244
  z77 := Try.sizeOf244
  v77 := Try.zeroValue244 }
end Go.Proofs.Ytiknkeakielncaa.So
