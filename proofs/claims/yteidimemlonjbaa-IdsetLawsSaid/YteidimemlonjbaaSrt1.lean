/- What the shelf's proof of slices.Sort at []int takes of the program. No conditions: a kit of our own. -/
import Derived.Test.YteidimemlonjbaaProg
import Derived.Shelf.Sort.Plain
namespace Go.Proofs.Yteidimemlonjbaa.Sx
open Go Go.Shelf Go.RowKit
set_option linter.unusedVariables false

/-- The shelf's numbers of functions and types, as the program's. -/
def sortRen : Ren where
  f := fun x => match x with
    | 189 => 55
    | 125 => 71
    | 257 => 70
    | 128 => 91
    | 129 => 92
    | 294 => 82
    | 295 => 83
    | 296 => 84
    | 297 => 85
    | 298 => 86
    | 299 => 87
    | 216 => 88
    | 300 => 89
    | 301 => 90
    | 328 => 97
    | 329 => 98
    | 330 => 99
    | 331 => 100
    | 332 => 101
    | 215 => 102
    | 343 => 103
    | n => n
  t := fun x => match x with
    | 28 => 22
    | 3 => 3
    | 46 => 83
    | 0 => 0
    | 51 => 107
    | 53 => 52
    | 4 => 4
    | 183 => 100
    | 182 => 99
    | 131 => 24
    | 5 => 5
    | 9 => 9
    | 218 => 112
    | 222 => 116
    | 228 => 118
    | 229 => 119
    | n => n
  g := fun x => x
theorem sortLays : Lays.n189 Try.prog sortRen :=
  { mixed := Eq.refl true, f125 := Eq.trans Try.func71 (congrArg some (Eq.refl (Body.n125 sortRen))), f128 := Eq.trans Try.func91 (congrArg some (Eq.refl (Body.n128 sortRen))), f129 := Eq.trans Try.func92 (congrArg some (Eq.refl (Body.n129 sortRen))), f189 := Eq.trans Try.func55 (congrArg some (Eq.refl (Body.n189 sortRen))), f215 := Eq.trans Try.func102 (congrArg some (Eq.refl (Body.n215 sortRen))), f216 := Eq.trans Try.func88 (congrArg some (Eq.refl (Body.n216 sortRen))), f257 := Eq.trans Try.func70 (congrArg some (Eq.refl (Body.n257 sortRen))), f294 := Eq.trans Try.func82 (congrArg some (Eq.refl (Body.n294 sortRen))), f295 := Eq.trans Try.func83 (congrArg some (Eq.refl (Body.n295 sortRen))), f296 := Eq.trans Try.func84 (congrArg some (Eq.refl (Body.n296 sortRen))), f297 := Eq.trans Try.func85 (congrArg some (Eq.refl (Body.n297 sortRen))), f298 := Eq.trans Try.func86 (congrArg some (Eq.refl (Body.n298 sortRen))), f299 := Eq.trans Try.func87 (congrArg some (Eq.refl (Body.n299 sortRen))), f300 := Eq.trans Try.func89 (congrArg some (Eq.refl (Body.n300 sortRen))), f301 := Eq.trans Try.func90 (congrArg some (Eq.refl (Body.n301 sortRen))), f328 := Eq.trans Try.func97 (congrArg some (Eq.refl (Body.n328 sortRen))), f329 := Eq.trans Try.func98 (congrArg some (Eq.refl (Body.n329 sortRen))), f330 := Eq.trans Try.func99 (congrArg some (Eq.refl (Body.n330 sortRen))), f331 := Eq.trans Try.func100 (congrArg some (Eq.refl (Body.n331 sortRen))), f332 := Eq.trans Try.func101 (congrArg some (Eq.refl (Body.n332 sortRen))), f343 := Eq.trans Try.func103 (congrArg some (Eq.refl (Body.n343 sortRen))), t0 := Try.underlying0, a0 := Try.isAgg0, z0 := Try.sizeOf0, v0 := Try.zeroValue0, t3 := Try.underlying3, a3 := Try.isAgg3, z3 := Try.sizeOf3, v3 := Try.zeroValue3, t4 := Try.underlying4, a4 := Try.isAgg4, z4 := Try.sizeOf4, v4 := Try.zeroValue4, t5 := Try.underlying5, a5 := Try.isAgg5, z5 := Try.sizeOf5, v5 := Try.zeroValue5, t9 := Try.underlying9, a9 := Try.isAgg9, z9 := Try.sizeOf9, v9 := Try.zeroValue9, t28 := Try.underlying22, a28 := Try.isAgg22, z28 := Try.sizeOf22, v28 := Try.zeroValue22, t46 := Try.underlying83, a46 := Try.isAgg83, z46 := Try.sizeOf83, v46 := Try.zeroValue83, t51 := Try.underlying107, a51 := Try.isAgg107, z51 := Try.sizeOf107, v51 := Try.zeroValue107, t53 := Try.underlying52, a53 := Try.isAgg52, z53 := Try.sizeOf52, v53 := Try.zeroValue52, t131 := Try.underlying24, a131 := Try.isAgg24, z131 := Try.sizeOf24, v131 := Try.zeroValue24, t182 := Try.underlying99, a182 := Try.isAgg99, z182 := Try.sizeOf99, v182 := Try.zeroValue99, t183 := Try.underlying100, a183 := Try.isAgg100, z183 := Try.sizeOf100, v183 := Try.zeroValue100, t218 := Try.underlying112, a218 := Try.isAgg112, z218 := Try.sizeOf112, v218 := Try.zeroValue112, t222 := Try.underlying116, a222 := Try.isAgg116, z222 := Try.sizeOf116, v222 := Try.zeroValue116, t228 := Try.underlying118, a228 := Try.isAgg118, z228 := Try.sizeOf118, v228 := Try.zeroValue118, t229 := Try.underlying119, a229 := Try.isAgg119, z229 := Try.sizeOf119, v229 := Try.zeroValue119 }
end Go.Proofs.Yteidimemlonjbaa.Sx
