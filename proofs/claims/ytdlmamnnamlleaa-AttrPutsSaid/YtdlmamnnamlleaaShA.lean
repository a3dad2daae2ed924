/-
  DERIVED: THE SHELF's CONTRACTS AT THIS DUMP, IN PLAIN WORDS (tools/lay-plain.mjs out of '(seat)ShA0.lean', which tools/lay-shelf.mjs wrote): THE SAME DECLARATIONS UNDER THE SAME NAMES: 'import', 'namespace', 'open', 'def', 'theorem' AND NOTHING ELSE: no command of the shelf's: FOR A HAND-IN. Each laying: the table of numbers ('.._ren') and one theorem, a field a fact of the dump's own or the kernel's comparison; each contract: ONE APPLICATION.
-/
import Derived.Shelf.SlGeneric
import Derived.Shelf.SlSortCmp.WholeK
import Derived.Ground.SlsfProg
import Derived.Test.YtdlmamnnamlleaaProg
namespace Go.Proofs
open Go.Shelf
def Try.attrSort_ren : Go.Shelf.Ren := ⟨fun | 6 => 84 | 15 => 130 | 14 => 129 | 28 => 158 | 29 => 159 | 20 => 150 | 21 => 151 | 22 => 152 | 23 => 153 | 24 => 154 | 25 => 155 | 26 => 156 | 27 => 157 | 46 => 165 | 47 => 166 | 48 => 167 | 49 => 168 | 50 => 169 | 57 => 179 | n => n, fun | 22 => 32 | 24 => 120 | 25 => 136 | 3 => 3 | 39 => 193 | 0 => 0 | 53 => 217 | 55 => 25 | 4 => 4 | 46 => 210 | 45 => 209 | 50 => 214 | 5 => 5 | 9 => 9 | 66 => 225 | 70 => 229 | 76 => 236 | 77 => 237 | n => n, fun | n => n⟩
theorem Try.attrSort : Go.Proofs.SlLaysF0.n6 Try.prog Try.attrSort_ren := {
  mixed := by kernel_rfl
  f6 := ⟨Try.f84.name, by decide, Try.func84.trans (congrArg some (by kernel_rfl))⟩
  f14 := ⟨Try.f129.name, by decide, Try.func129.trans (congrArg some (by kernel_rfl))⟩
  f15 := Try.func130.trans (congrArg some (by kernel_rfl))
  f20 := ⟨Try.f150.name, by decide, Try.func150.trans (congrArg some (by kernel_rfl))⟩
  f21 := ⟨Try.f151.name, by decide, Try.func151.trans (congrArg some (by kernel_rfl))⟩
  f22 := ⟨Try.f152.name, by decide, Try.func152.trans (congrArg some (by kernel_rfl))⟩
  f23 := ⟨Try.f153.name, by decide, Try.func153.trans (congrArg some (by kernel_rfl))⟩
  f24 := ⟨Try.f154.name, by decide, Try.func154.trans (congrArg some (by kernel_rfl))⟩
  f25 := ⟨Try.f155.name, by decide, Try.func155.trans (congrArg some (by kernel_rfl))⟩
  f26 := ⟨Try.f156.name, by decide, Try.func156.trans (congrArg some (by kernel_rfl))⟩
  f27 := ⟨Try.f157.name, by decide, Try.func157.trans (congrArg some (by kernel_rfl))⟩
  f28 := Try.func158.trans (congrArg some (by kernel_rfl))
  f29 := Try.func159.trans (congrArg some (by kernel_rfl))
  f46 := ⟨Try.f165.name, by decide, Try.func165.trans (congrArg some (by kernel_rfl))⟩
  f47 := Try.func166.trans (congrArg some (by kernel_rfl))
  f48 := Try.func167.trans (congrArg some (by kernel_rfl))
  f49 := ⟨Try.f168.name, by decide, Try.func168.trans (congrArg some (by kernel_rfl))⟩
  f50 := ⟨Try.f169.name, by decide, Try.func169.trans (congrArg some (by kernel_rfl))⟩
  f57 := ⟨Try.f179.name, by decide, Try.func179.trans (congrArg some (by kernel_rfl))⟩
  t0 := Try.underlying0
  a0 := Try.isAgg0
  z0 := Try.sizeOf0
  v0 := Try.zeroValue0
  t3 := Try.underlying3
  a3 := Try.isAgg3
  z3 := Try.sizeOf3
  v3 := Try.zeroValue3
  t4 := Try.underlying4
  a4 := Try.isAgg4
  z4 := Try.sizeOf4
  v4 := Try.zeroValue4
  t5 := Try.underlying5
  a5 := Try.isAgg5
  z5 := Try.sizeOf5
  v5 := Try.zeroValue5
  t9 := Try.underlying9
  a9 := Try.isAgg9
  z9 := Try.sizeOf9
  v9 := Try.zeroValue9
  t22 := Try.underlying32
  a22 := Try.isAgg32
  z22 := Try.sizeOf32
  v22 := Try.zeroValue32
  t25 := Try.underlying136
  a25 := Try.isAgg136
  z25 := Try.sizeOf136
  v25 := Try.zeroValue136
  t39 := Try.underlying193
  a39 := Try.isAgg193
  z39 := Try.sizeOf193
  v39 := Try.zeroValue193
  t45 := Try.underlying209
  a45 := Try.isAgg209
  z45 := Try.sizeOf209
  v45 := Try.zeroValue209
  t46 := Try.underlying210
  a46 := Try.isAgg210
  z46 := Try.sizeOf210
  v46 := Try.zeroValue210
  t50 := Try.underlying214
  a50 := Try.isAgg214
  z50 := Try.sizeOf214
  v50 := Try.zeroValue214
  t53 := Try.underlying217
  a53 := Try.isAgg217
  z53 := Try.sizeOf217
  v53 := Try.zeroValue217
  t55 := Try.underlying25
  a55 := Try.isAgg25
  z55 := Try.sizeOf25
  v55 := Try.zeroValue25
  t66 := Try.underlying225
  a66 := Try.isAgg225
  z66 := Try.sizeOf225
  v66 := Try.zeroValue225
  t70 := Try.underlying229
  a70 := Try.isAgg229
  z70 := Try.sizeOf229
  v70 := Try.zeroValue229
  t76 := Try.underlying236
  a76 := Try.isAgg236
  z76 := Try.sizeOf236
  v76 := Try.zeroValue236
  t77 := Try.underlying237
  a77 := Try.isAgg237
  z77 := Try.sizeOf237
  v77 := Try.zeroValue237 }
end Go.Proofs
