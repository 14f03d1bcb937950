/- What is proved: contracts of the Go functions that the law FnExactReadDeed reaches: a call of each returns what the Lean function '.f' of its name says. Conditions: as each theorem '.calls' states. Written by a program of this session after the kit's print. -/
import Derived.Test.YteacmboidfdpmaaDoorProg
import Derived.Below
import Derived.Deep.Draws
import Derived.Deep.AppendLies
import Derived.Maps.AppendAt
import Derived.OwnWalk
import Derived.Laws.BytesArg
import Derived.Laws.MakeOwn
import Derived.Laws.OwnMore
import Derived.Deep.OwnRows
import Derived.Tactics
import Derived.Lib.ConvBytes
import Derived.Laws.Slices
import Derived.WalkKit
import Derived.KernelRfl
import Derived.RowKit3
import Derived.Deep.LoopGhost
import Derived.Deep.QuietTactic
import Derived.BigQuiet
import Derived.WideLaws
import Derived.Deep.DeepCutAuto
import Derived.Deep.CutBlock
import Derived.Deep.RegionHeld3
import Derived.Laws.Rows
import Derived.Lib.AppendStr
import Derived.ArgAppend
import Derived.Laws.IdiomCopy
import Derived.OrdersHeld
import Derived.Laws.BitsLemmas
import Derived.RowKit
import Derived.Test.YteacmboidfdpmaaDoorWWords
import Derived.Test.YteacmboidfdpmaaDoorWLast
import Derived.Test.YteacmboidfdpmaaDoorWTab
import Derived.Test.YteacmboidfdpmaaDoorWFour
import Derived.Test.YteacmboidfdpmaaDoorWQPut
import Derived.Test.YteacmboidfdpmaaDoorWApart
import Derived.Test.YteacmboidfdpmaaDoorWArr
import Derived.Test.YteacmboidfdpmaaDoorWZeros
import Derived.Test.YteacmboidfdpmaaDoorWFoot
import Derived.Test.YteacmboidfdpmaaDoorWKept
import Derived.Test.YteacmboidfdpmaaDoorWShare
import Derived.Test.YteacmboidfdpmaaDoorWN
import Derived.Test.YteacmboidfdpmaaDoorWFootNe
import Derived.Test.YteacmboidfdpmaaDoorWAt
import Derived.Test.YteacmboidfdpmaaDoorWEqStruct
import Derived.Test.YteacmboidfdpmaaDoorWRepsOne
import Derived.Test.YteacmboidfdpmaaDoorWInv
import Derived.Test.YteacmboidfdpmaaDoorWInvWords
import Derived.Test.YteacmboidfdpmaaDoorWGuard
import Derived.Test.YteacmboidfdpmaaDoorWNEv
import Derived.Test.YteacmboidfdpmaaDoorWMore
namespace Go.Proofs.YteacmboidfdpmaaDoor.QFnExactReadDeed
open Go.RowKit Go.Proofs.YteacmboidfdpmaaDoorW.PrintWords Go.Proofs.YteacmboidfdpmaaDoorW.PrintLast Go.Proofs.YteacmboidfdpmaaDoorW.PrintMore
attribute [local go_sem] max2_int min2_int max_two min_two max_three min_three max_four min_four   -- for this text's walks alone
set_option linter.unusedVariables false
set_option linter.unusedSimpArgs false



def errW : Option Int → Value
  | none => .nilIface
  | some c => .iface 0 (.int .i64 c)
theorem errW_none : errW none = .nilIface := rfl
theorem errW_some (c : Int) : errW (some c) = .iface 0 (.int .i64 c) := rfl

theorem info4 : (Tryd.prog.info? 4).map (fun i => (i.zero, i.size, i.bytes)) = some (some (.bool false), 1, 1) := by kernel_rfl
theorem info9 : (Tryd.prog.info? 9).map (fun i => (i.zero, i.size, i.bytes)) = some (some (.string ⟨#[]⟩), 1, 16) := by kernel_rfl
-- the values' own types

end Go.Proofs.YteacmboidfdpmaaDoor.QFnExactReadDeed
