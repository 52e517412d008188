-- Written by xprint.py, a program of this session's: YtebioeboegmhlaaDoor.
import Derived.Test.YtebioeboegmhlaaDoorProg
import Derived.Below
import Derived.Deep.Draws
import Derived.Deep.AppendLies
import Derived.Maps.AppendAt
import Derived.OwnWalk
import Derived.Laws.BytesArg
import Derived.Laws.MakeOwn
import Derived.Laws.OwnMore
import Derived.Deep.OwnRows
import Derived.Tactics
import Derived.Lib.ConvBytes
import Derived.Laws.Slices
import Derived.WalkKit
import Derived.KernelRfl
import Derived.RowKit3
import Derived.Deep.LoopGhost
import Derived.Deep.QuietTactic
import Derived.BigQuiet
import Derived.WideLaws
import Derived.Deep.DeepCutAuto
import Derived.Deep.CutBlock
import Derived.Deep.RegionHeld3
import Derived.Laws.Rows
import Derived.Lib.AppendStr
import Derived.ArgAppend
import Derived.Laws.IdiomCopy
import Derived.OrdersHeld
import Derived.Laws.BitsLemmas
import Derived.RowKit
import Derived.Test.YtebioeboegmhlaaDoorGiven
import Derived.Test.YtebioeboegmhlaaDoorWWords
import Derived.Test.YtebioeboegmhlaaDoorWLast
import Derived.Test.YtebioeboegmhlaaDoorWTab
import Derived.Test.YtebioeboegmhlaaDoorWFour
import Derived.Test.YtebioeboegmhlaaDoorWQPut
import Derived.Test.YtebioeboegmhlaaDoorWApart
import Derived.Test.YtebioeboegmhlaaDoorWArr
import Derived.Test.YtebioeboegmhlaaDoorWZeros
import Derived.Test.YtebioeboegmhlaaDoorWFoot
import Derived.Test.YtebioeboegmhlaaDoorWKept
import Derived.Test.YtebioeboegmhlaaDoorWShare
import Derived.Test.YtebioeboegmhlaaDoorWN
import Derived.Test.YtebioeboegmhlaaDoorWFootNe
import Derived.Test.YtebioeboegmhlaaDoorWAt
import Derived.Test.YtebioeboegmhlaaDoorWEqStruct
import Derived.Test.YtebioeboegmhlaaDoorWRepsOne
import Derived.Test.YtebioeboegmhlaaDoorWInv
import Derived.Test.YtebioeboegmhlaaDoorWInvWords
import Derived.Test.YtebioeboegmhlaaDoorWGuard
import Derived.Test.YtebioeboegmhlaaDoorWNEv
import Derived.Test.YtebioeboegmhlaaDoorWMore
namespace Go.Proofs.YtebioeboegmhlaaDoor.X
open Go.RowKit Go.Proofs.YtebioeboegmhlaaDoorW.PrintWords Go.Proofs.YtebioeboegmhlaaDoorW.PrintLast Go.Proofs.YtebioeboegmhlaaDoorW.PrintMore
attribute [local go_sem] max2_int min2_int max_two min_two max_three min_three max_four min_four   -- for this text's walks alone
set_option linter.unusedVariables false
set_option linter.unusedSimpArgs false



def errW : Option Int → Value
  | none => .nilIface
  | some c => .iface 0 (.int .i64 c)
theorem errW_none : errW none = .nilIface := rfl
theorem errW_some (c : Int) : errW (some c) = .iface 0 (.int .i64 c) := rfl

theorem info9 : (Tryd.prog.info? 9).map (fun i => (i.zero, i.size, i.bytes)) = some (some (.string ⟨#[]⟩), 1, 16) := by kernel_rfl
-- the values' own types

end Go.Proofs.YtebioeboegmhlaaDoor.X
