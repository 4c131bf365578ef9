-- Written by a program of this session (wip/tools), out of the translation. Not trusted: Lean checks it.
import Derived.Test.YtoghhgceanlkkaaProg
import Derived.Below
import Derived.Deep.Draws
import Derived.Deep.AppendLies
import Derived.Maps.AppendAt
import Derived.OwnWalk
import Derived.Laws.BytesArg
import Derived.Laws.MakeOwn
import Derived.Laws.OwnMore
import Derived.Deep.OwnRows
import Derived.Tactics
import Derived.Lib.ConvBytes
import Derived.Laws.Slices
import Derived.WalkKit
import Derived.KernelRfl
import Derived.RowKit3
import Derived.Deep.LoopGhost
import Derived.Deep.QuietTactic
import Derived.BigQuiet
import Derived.WideLaws
import Derived.Deep.DeepCutAuto
import Derived.Deep.CutBlock
import Derived.Deep.RegionHeld3
import Derived.Laws.Rows
import Derived.Lib.AppendStr
import Derived.ArgAppend
import Derived.Laws.IdiomCopy
import Derived.OrdersHeld
import Derived.Laws.BitsLemmas
import Derived.RowKit
import Derived.WalkLawsBesides
import Derived.Test.YtoghhgceanlkkaaWWords
import Derived.Test.YtoghhgceanlkkaaWLast
import Derived.Test.YtoghhgceanlkkaaWTab
import Derived.Test.YtoghhgceanlkkaaWFour
import Derived.Test.YtoghhgceanlkkaaWQPut
import Derived.Test.YtoghhgceanlkkaaWApart
import Derived.Test.YtoghhgceanlkkaaWArr
import Derived.Test.YtoghhgceanlkkaaWZeros
import Derived.Test.YtoghhgceanlkkaaWFoot
import Derived.Test.YtoghhgceanlkkaaWKept
import Derived.Test.YtoghhgceanlkkaaWShare
import Derived.Test.YtoghhgceanlkkaaWN
import Derived.Test.YtoghhgceanlkkaaWFootNe
import Derived.Test.YtoghhgceanlkkaaWAt
import Derived.Test.YtoghhgceanlkkaaWEqStruct
import Derived.Test.YtoghhgceanlkkaaWRepsOne
import Derived.Test.YtoghhgceanlkkaaWInv
import Derived.Test.YtoghhgceanlkkaaWInvWords
import Derived.Test.YtoghhgceanlkkaaWGuard
import Derived.Test.YtoghhgceanlkkaaWNEv
import Derived.Test.YtoghhgceanlkkaaWMore
namespace Go.Proofs.Ytoghhgceanlkkaa.Q
open Go.RowKit Go.Proofs.YtoghhgceanlkkaaW.PrintWords Go.Proofs.YtoghhgceanlkkaaW.PrintLast Go.Proofs.YtoghhgceanlkkaaW.PrintMore
attribute [local go_sem] max2_int min2_int max_two min_two max_three min_three max_four min_four   -- for this text's walks alone
set_option linter.unusedVariables false
set_option linter.unusedSimpArgs false



def errW : Option Int → Value
  | none => .nilIface
  | some c => .iface 0 (.int .i64 c)
theorem errW_none : errW none = .nilIface := rfl
theorem errW_some (c : Int) : errW (some c) = .iface 0 (.int .i64 c) := rfl

theorem info3 : (Try.prog.info? 3).map (fun i => (i.zero, i.size, i.bytes)) = some (some (.int .i64 0), 1, 8) := by kernel_rfl
-- the values' own types

end Go.Proofs.Ytoghhgceanlkkaa.Q
