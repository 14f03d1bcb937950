/- What is proved: the program bears the library functions that the named 'Lays' structures list, under the numberings given here (shelf of library contracts). Conditions: none. -/
import Derived.Shelf.Strconv.Itoa4
import Derived.Lib.AppendIntMem
import Derived.Lib.SmallJoins
import Derived.KernelRfl
import Derived.Test.YteacmboidfdpmaaDoorProg
namespace Go.Proofs.YteacmboidfdpmaaDoor.Shelf
open Go Go.Proofs Go.Shelf
def laysLaysMn173_ren : Ren :=
  {
    f := fun x =>
      match x with
      | 173 => 23
      | 246 => 27
      | 283 => 34
      | 284 => 35
      | 285 => 36
      | 286 => 37
      | 129 => 48
      | 317 => 47
      | 318 => 49
      | 319 => 50
      | 320 => 51
      | 337 => 55
      | 338 => 56
      | n => n,
    t := fun x =>
      match x with
      | 2 => 2
      | 3 => 3
      | 9 => 9
      | 4 => 4
      | 171 => 63
      | 0 => 0
      | 53 => 55
      | 37 => 50
      | 5 => 5
      | 173 => 66
      | 212 => 76
      | 51 => 77
      | 20 => 20
      | 213 => 78
      | 46 => 58
      | 232 => 88
      | 233 => 89
      | n => n,
    g := fun x =>
      match x with
      | 17 => 3
      | 18 => 4
      | 19 => 5
      | n => n }
set_option maxRecDepth 100000 in
theorem laysLaysMn173 : LaysM.n173 Tryd.prog laysLaysMn173_ren :=
  { mixed := by kernel_rfl,
    f129 := Tryd.func48.trans (congrArg some (by kernel_rfl)),
    f173 := Tryd.func23.trans (congrArg some (by kernel_rfl)),
    f246 := Tryd.func27.trans (congrArg some (by kernel_rfl)),
    f283 := Tryd.func34.trans (congrArg some (by kernel_rfl)),
    f284 := Tryd.func35.trans (congrArg some (by kernel_rfl)),
    f285 := Tryd.func36.trans (congrArg some (by kernel_rfl)),
    f286 := Tryd.func37.trans (congrArg some (by kernel_rfl)),
    f317 := Tryd.func47.trans (congrArg some (by kernel_rfl)),
    f318 := Tryd.func49.trans (congrArg some (by kernel_rfl)),
    f319 := Tryd.func50.trans (congrArg some (by kernel_rfl)),
    f320 := Tryd.func51.trans (congrArg some (by kernel_rfl)),
    f337 := Tryd.func55.trans (congrArg some (by kernel_rfl)),
    f338 := Tryd.func56.trans (congrArg some (by kernel_rfl)),
    t0 := Tryd.underlying0,
    a0 := Tryd.isAgg0,
    z0 := Tryd.sizeOf0,
    v0 := Tryd.zeroValue0,
    t2 := Tryd.underlying2,
    a2 := Tryd.isAgg2,
    z2 := Tryd.sizeOf2,
    v2 := Tryd.zeroValue2,
    t3 := Tryd.underlying3,
    a3 := Tryd.isAgg3,
    z3 := Tryd.sizeOf3,
    v3 := Tryd.zeroValue3,
    t4 := Tryd.underlying4,
    a4 := Tryd.isAgg4,
    z4 := Tryd.sizeOf4,
    v4 := Tryd.zeroValue4,
    t5 := Tryd.underlying5,
    a5 := Tryd.isAgg5,
    z5 := Tryd.sizeOf5,
    v5 := Tryd.zeroValue5,
    t9 := Tryd.underlying9,
    a9 := Tryd.isAgg9,
    z9 := Tryd.sizeOf9,
    v9 := Tryd.zeroValue9,
    t20 := Tryd.underlying20,
    a20 := Tryd.isAgg20,
    z20 := Tryd.sizeOf20,
    v20 := Tryd.zeroValue20,
    t37 := Tryd.underlying50,
    a37 := Tryd.isAgg50,
    z37 := Tryd.sizeOf50,
    v37 := Tryd.zeroValue50,
    t46 := Tryd.underlying58,
    a46 := Tryd.isAgg58,
    z46 := Tryd.sizeOf58,
    v46 := Tryd.zeroValue58,
    t51 := Tryd.underlying77,
    a51 := Tryd.isAgg77,
    z51 := Tryd.sizeOf77,
    v51 := Tryd.zeroValue77,
    t53 := Tryd.underlying55,
    a53 := Tryd.isAgg55,
    z53 := Tryd.sizeOf55,
    v53 := Tryd.zeroValue55,
    t171 := Tryd.underlying63,
    a171 := Tryd.isAgg63,
    z171 := Tryd.sizeOf63,
    v171 := Tryd.zeroValue63,
    t173 := Tryd.underlying66,
    a173 := Tryd.isAgg66,
    z173 := Tryd.sizeOf66,
    v173 := Tryd.zeroValue66,
    t212 := Tryd.underlying76,
    a212 := Tryd.isAgg76,
    z212 := Tryd.sizeOf76,
    v212 := Tryd.zeroValue76,
    t213 := Tryd.underlying78,
    a213 := Tryd.isAgg78,
    z213 := Tryd.sizeOf78,
    t232 := Tryd.underlying88,
    a232 := Tryd.isAgg88,
    z232 := Tryd.sizeOf88,
    v232 := Tryd.zeroValue88,
    t233 := Tryd.underlying89,
    a233 := Tryd.isAgg89,
    z233 := Tryd.sizeOf89,
    v233 := Tryd.zeroValue89,
    g17 := by kernel_rfl,
    g18 := by kernel_rfl,
    g19 := by kernel_rfl,
    i0 := by kernel_rfl,
    i2 := by kernel_rfl,
    i3 := by kernel_rfl,
    i4 := by kernel_rfl,
    i5 := by kernel_rfl,
    i9 := by kernel_rfl,
    i20 := by kernel_rfl,
    i37 := by kernel_rfl,
    i46 := by kernel_rfl,
    i51 := by kernel_rfl,
    i53 := by kernel_rfl,
    i171 := by kernel_rfl,
    i173 := by kernel_rfl,
    i212 := by kernel_rfl,
    i232 := by kernel_rfl,
    i233 := by kernel_rfl,
    m17 := by kernel_rfl,
    m18 := by kernel_rfl,
    m19 := by kernel_rfl }
end Go.Proofs.YteacmboidfdpmaaDoor.Shelf
