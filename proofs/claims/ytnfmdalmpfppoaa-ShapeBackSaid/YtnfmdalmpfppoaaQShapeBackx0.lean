import Derived.Test.YtnfmdalmpfppoaaProg
import Derived.Below
import Derived.WalkMore
import Derived.Deep.Draws
import Derived.Deep.AppendLies
import Derived.Maps.AppendAt
import Derived.OwnWalk
import Derived.Laws.BytesArg
import Derived.Laws.MakeOwn
import Derived.Laws.OwnMore
import Derived.Deep.OwnRows
import Derived.Tactics
import Derived.Lib.ConvBytes
import Derived.Laws.Slices
import Derived.WalkKit
import Derived.KernelRfl
import Derived.RowKit3
import Derived.Deep.LoopGhost
import Derived.Deep.QuietTactic
import Derived.BigQuiet
import Derived.WideLaws
import Derived.Deep.DeepCutAuto
import Derived.Deep.CutBlock
import Derived.Deep.RegionHeld3
import Derived.Laws.Rows
import Derived.Lib.AppendStr
import Derived.ArgAppend
import Derived.Laws.IdiomCopy
import Derived.OrdersHeld
import Derived.Laws.BitsLemmas
import Derived.RowKit
import Derived.Test.YtnfmdalmpfppoaaWWords
import Derived.Test.YtnfmdalmpfppoaaWLast
import Derived.Test.YtnfmdalmpfppoaaWTab
import Derived.Test.YtnfmdalmpfppoaaWFour
import Derived.Test.YtnfmdalmpfppoaaWQPut
import Derived.Test.YtnfmdalmpfppoaaWApart
import Derived.Test.YtnfmdalmpfppoaaWArr
import Derived.Test.YtnfmdalmpfppoaaWZeros
import Derived.Test.YtnfmdalmpfppoaaWFoot
import Derived.Test.YtnfmdalmpfppoaaWKept
import Derived.Test.YtnfmdalmpfppoaaWShare
import Derived.Test.YtnfmdalmpfppoaaWN
import Derived.Test.YtnfmdalmpfppoaaWFootNe
import Derived.Test.YtnfmdalmpfppoaaWAt
import Derived.Test.YtnfmdalmpfppoaaWEqStruct
import Derived.Test.YtnfmdalmpfppoaaWRepsOne
import Derived.Test.YtnfmdalmpfppoaaWInv
import Derived.Test.YtnfmdalmpfppoaaWInvWords
import Derived.Test.YtnfmdalmpfppoaaWGuard
import Derived.Test.YtnfmdalmpfppoaaWNEv
import Derived.Test.YtnfmdalmpfppoaaWMore
namespace Go.Proofs.Ytnfmdalmpfppoaa.QShapeBack
open Go.RowKit Go.Proofs.YtnfmdalmpfppoaaW.PrintWords Go.Proofs.YtnfmdalmpfppoaaW.PrintLast Go.Proofs.YtnfmdalmpfppoaaW.PrintMore
attribute [local go_sem] max2_int min2_int max_two min_two max_three min_three max_four min_four   -- for this text's walks alone
set_option linter.unusedVariables false
set_option linter.unusedSimpArgs false



def errW : Option Int → Value
  | none => .nilIface
  | some c => .iface 0 (.int .i64 c)
theorem errW_none : errW none = .nilIface := rfl
theorem errW_some (c : Int) : errW (some c) = .iface 0 (.int .i64 c) := rfl

theorem info3 : (Try.prog.info? 3).map (fun i => (i.zero, i.size, i.bytes)) = some (some (.int .i64 0), 1, 8) := by kernel_rfl
-- the values' own types

end Go.Proofs.Ytnfmdalmpfppoaa.QShapeBack
