/- The library's functions of this program are those of the shelf's contracts. (made by program) -/
import Derived.Shelf.SlIterI.Nil
import Derived.Shelf.SortM.Plain
import Derived.Shelf.SortM.SortNone
import Derived.Test.YthdkiocnbbeigaaProg
namespace Go.AMJ
open Go Go.Proofs Go.RowKit Go.Maps Go.Sort Go.Shelf

def keysA_ren : Shelf.Ren where
  f x := match x with
    | 7 => 51
    | 10 => 62
    | n => n
  t x := match x with
    | 23 => 65
    | 26 => 3
    | 3 => 35
    | 28 => 97
    | 0 => 0
    | 27 => 96
    | 33 => 74
    | 4 => 4
    | n => n
  g x := x

theorem keysA : SlLaysZI.n7 Try.prog keysA_ren :=
  { mixed := (by kernel_rfl), f7 := ⟨Try.f51.name, of_decide_eq_true (by kernel_rfl), Try.func51⟩, f10 := ⟨Try.f62.name, of_decide_eq_true (by kernel_rfl), Try.func62⟩, t0 := Try.underlying0, a0 := Try.isAgg0, z0 := Try.sizeOf0, v0 := Try.zeroValue0, t4 := Try.underlying4, a4 := Try.isAgg4, z4 := Try.sizeOf4, v4 := Try.zeroValue4, t23 := Try.underlying65, a23 := Try.isAgg65, z23 := Try.sizeOf65, v23 := Try.zeroValue65, t26 := Try.underlying3, a26 := Try.isAgg3, z26 := Try.sizeOf3, v26 := Try.zeroValue3, t27 := Try.underlying96, a27 := Try.isAgg96, z27 := Try.sizeOf96, v27 := Try.zeroValue96, t28 := Try.underlying97, a28 := Try.isAgg97, z28 := Try.sizeOf97, v28 := Try.zeroValue97, t33 := Try.underlying74, a33 := Try.isAgg74, z33 := Try.sizeOf74, v33 := Try.zeroValue74 }

def sortedA_ren : Shelf.Ren where
  f x := match x with
    | 6 => 50
    | 8 => 61
    | 9 => 47
    | 11 => 83
    | 13 => 55
    | 12 => 59
    | 23 => 71
    | 24 => 72
    | 14 => 74
    | 15 => 75
    | 16 => 76
    | 17 => 77
    | 18 => 78
    | 19 => 79
    | 20 => 80
    | 21 => 81
    | 22 => 82
    | 25 => 89
    | 26 => 85
    | 27 => 86
    | 28 => 90
    | 29 => 91
    | 30 => 92
    | 31 => 94
    | n => n
  t x := match x with
    | 26 => 3
    | 28 => 97
    | 24 => 62
    | 0 => 0
    | 3 => 3
    | 37 => 100
    | 48 => 122
    | 50 => 22
    | 4 => 4
    | 40 => 115
    | 39 => 114
    | 45 => 119
    | 5 => 5
    | 9 => 9
    | 51 => 132
    | 55 => 136
    | 57 => 140
    | 58 => 141
    | 33 => 74
    | n => n
  g x := x

theorem sortedA : SlLaysZI.n6 Try.prog sortedA_ren :=
  { mixed := (by kernel_rfl), f6 := ⟨Try.f50.name, of_decide_eq_true (by kernel_rfl), Try.func50⟩, f8 := ⟨Try.f61.name, of_decide_eq_true (by kernel_rfl), Try.func61⟩, f11 := ⟨Try.f83.name, of_decide_eq_true (by kernel_rfl), Try.func83⟩, t0 := Try.underlying0, a0 := Try.isAgg0, z0 := Try.sizeOf0, v0 := Try.zeroValue0, t24 := Try.underlying62, a24 := Try.isAgg62, z24 := Try.sizeOf62, v24 := Try.zeroValue62, t26 := Try.underlying3, a26 := Try.isAgg3, z26 := Try.sizeOf3, v26 := Try.zeroValue3, t28 := Try.underlying97, a28 := Try.isAgg97, z28 := Try.sizeOf97, v28 := Try.zeroValue97, i26 := by kernel_rfl }

def sortA_ren : Shelf.Ren where
  f x := match x with
    | 5 => 47
    | 8 => 55
    | 7 => 59
    | 19 => 71
    | 20 => 72
    | 10 => 74
    | 11 => 75
    | 12 => 76
    | 13 => 77
    | 14 => 78
    | 15 => 79
    | 16 => 80
    | 17 => 81
    | 18 => 82
    | 30 => 89
    | 31 => 85
    | 32 => 86
    | 33 => 90
    | 34 => 91
    | 35 => 92
    | 40 => 94
    | n => n
  t x := match x with
    | 23 => 62
    | 25 => 3
    | 3 => 3
    | 32 => 100
    | 22 => 62
    | 0 => 0
    | 44 => 122
    | 46 => 22
    | 4 => 4
    | 36 => 115
    | 35 => 114
    | 41 => 119
    | 5 => 5
    | 9 => 9
    | 53 => 132
    | 57 => 136
    | 63 => 140
    | 64 => 141
    | n => n
  g x := x

set_option maxRecDepth 100000 in
theorem sortA : SlLaysM.n5 Try.prog sortA_ren :=
  { mixed := (by kernel_rfl), f5 := ⟨Try.f47.name, of_decide_eq_true (by kernel_rfl), Try.func47⟩, f7 := ⟨Try.f59.name, of_decide_eq_true (by kernel_rfl), Try.func59⟩, f8 := Try.func55, f10 := ⟨Try.f74.name, of_decide_eq_true (by kernel_rfl), Try.func74⟩, f11 := ⟨Try.f75.name, of_decide_eq_true (by kernel_rfl), Try.func75⟩, f12 := ⟨Try.f76.name, of_decide_eq_true (by kernel_rfl), Try.func76⟩, f13 := ⟨Try.f77.name, of_decide_eq_true (by kernel_rfl), Try.func77⟩, f14 := ⟨Try.f78.name, of_decide_eq_true (by kernel_rfl), Try.func78⟩, f15 := ⟨Try.f79.name, of_decide_eq_true (by kernel_rfl), Try.func79⟩, f16 := ⟨Try.f80.name, of_decide_eq_true (by kernel_rfl), Try.func80⟩, f17 := ⟨Try.f81.name, of_decide_eq_true (by kernel_rfl), Try.func81⟩, f18 := ⟨Try.f82.name, of_decide_eq_true (by kernel_rfl), Try.func82⟩, f19 := Try.func71, f20 := Try.func72, f30 := ⟨Try.f89.name, of_decide_eq_true (by kernel_rfl), Try.func89⟩, f31 := Try.func85, f32 := Try.func86, f33 := ⟨Try.f90.name, of_decide_eq_true (by kernel_rfl), Try.func90⟩, f34 := ⟨Try.f91.name, of_decide_eq_true (by kernel_rfl), Try.func91⟩, f35 := ⟨Try.f92.name, of_decide_eq_true (by kernel_rfl), Try.func92⟩, f40 := ⟨Try.f94.name, of_decide_eq_true (by kernel_rfl), Try.func94⟩, t0 := Try.underlying0, a0 := Try.isAgg0, z0 := Try.sizeOf0, v0 := Try.zeroValue0, t3 := Try.underlying3, a3 := Try.isAgg3, z3 := Try.sizeOf3, v3 := Try.zeroValue3, t4 := Try.underlying4, a4 := Try.isAgg4, z4 := Try.sizeOf4, v4 := Try.zeroValue4, t5 := Try.underlying5, a5 := Try.isAgg5, z5 := Try.sizeOf5, v5 := Try.zeroValue5, t9 := Try.underlying9, a9 := Try.isAgg9, z9 := Try.sizeOf9, v9 := Try.zeroValue9, t22 := Try.underlying62, a22 := Try.isAgg62, z22 := Try.sizeOf62, v22 := Try.zeroValue62, t23 := Try.underlying62, a23 := Try.isAgg62, z23 := Try.sizeOf62, v23 := Try.zeroValue62, t25 := Try.underlying3, a25 := Try.isAgg3, z25 := Try.sizeOf3, v25 := Try.zeroValue3, t32 := Try.underlying100, a32 := Try.isAgg100, z32 := Try.sizeOf100, v32 := Try.zeroValue100, t35 := Try.underlying114, a35 := Try.isAgg114, z35 := Try.sizeOf114, v35 := Try.zeroValue114, t36 := Try.underlying115, a36 := Try.isAgg115, z36 := Try.sizeOf115, v36 := Try.zeroValue115, t41 := Try.underlying119, a41 := Try.isAgg119, z41 := Try.sizeOf119, v41 := Try.zeroValue119, t44 := Try.underlying122, a44 := Try.isAgg122, z44 := Try.sizeOf122, v44 := Try.zeroValue122, t46 := Try.underlying22, a46 := Try.isAgg22, z46 := Try.sizeOf22, v46 := Try.zeroValue22, t53 := Try.underlying132, a53 := Try.isAgg132, z53 := Try.sizeOf132, v53 := Try.zeroValue132, t57 := Try.underlying136, a57 := Try.isAgg136, z57 := Try.sizeOf136, v57 := Try.zeroValue136, t63 := Try.underlying140, a63 := Try.isAgg140, z63 := Try.sizeOf140, v63 := Try.zeroValue140, t64 := Try.underlying141, a64 := Try.isAgg141, z64 := Try.sizeOf141, v64 := Try.zeroValue141 }

end Go.AMJ
