-- PRINTED BY print.sh 35421559b90ae4d0a3588c463048766b98c2df88dd9212a6774a882060cdf62d: not written by this session
import Derived.Test.YtgjcidhjonhamaaProg
import Derived.Below
import Derived.Deep.Draws
import Derived.Deep.AppendLies
import Derived.Maps.AppendAt
import Derived.OwnWalk
import Derived.Laws.BytesArg
import Derived.Laws.MakeOwn
import Derived.Laws.OwnMore
import Derived.Deep.OwnRows
import Derived.Tactics
import Derived.Lib.ConvBytes
import Derived.Laws.Slices
import Derived.WalkKit
import Derived.KernelRfl
import Derived.RowKit3
import Derived.Deep.LoopGhost
import Derived.Deep.QuietTactic
import Derived.BigQuiet
import Derived.WideLaws
import Derived.Deep.DeepCutAuto
import Derived.Deep.CutBlock
import Derived.Deep.RegionHeld3
import Derived.Laws.Rows
import Derived.Lib.AppendStr
import Derived.ArgAppend
import Derived.Laws.IdiomCopy
import Derived.OrdersHeld
import Derived.Laws.BitsLemmas
import Derived.RowKit
import Derived.Test.YtgjcidhjonhamaaWWords
import Derived.Test.YtgjcidhjonhamaaWLast
import Derived.Test.YtgjcidhjonhamaaWTab
import Derived.Test.YtgjcidhjonhamaaWFour
import Derived.Test.YtgjcidhjonhamaaWQPut
import Derived.Test.YtgjcidhjonhamaaWApart
import Derived.Test.YtgjcidhjonhamaaWArr
import Derived.Test.YtgjcidhjonhamaaWZeros
import Derived.Test.YtgjcidhjonhamaaWFoot
import Derived.Test.YtgjcidhjonhamaaWKept
import Derived.Test.YtgjcidhjonhamaaWShare
import Derived.Test.YtgjcidhjonhamaaWN
import Derived.Test.YtgjcidhjonhamaaWFootNe
import Derived.Test.YtgjcidhjonhamaaWAt
import Derived.Test.YtgjcidhjonhamaaWEqStruct
import Derived.Test.YtgjcidhjonhamaaWRepsOne
import Derived.Test.YtgjcidhjonhamaaWInv
import Derived.Test.YtgjcidhjonhamaaWInvWords
import Derived.Test.YtgjcidhjonhamaaWGuard
import Derived.Test.YtgjcidhjonhamaaWNEv
import Derived.Test.YtgjcidhjonhamaaWMore
namespace Go.Proofs.Ytgjcidhjonhamaa.PHeadBack
open Go.RowKit Go.Proofs.YtgjcidhjonhamaaW.PrintWords Go.Proofs.YtgjcidhjonhamaaW.PrintLast Go.Proofs.YtgjcidhjonhamaaW.PrintMore
attribute [local go_sem] max2_int min2_int max_two min_two max_three min_three max_four min_four   -- for this text's walks alone
set_option linter.unusedVariables false
set_option linter.unusedSimpArgs false



def errW : Option Int → Value
  | none => .nilIface
  | some c => .iface 0 (.int .i64 c)
theorem errW_none : errW none = .nilIface := rfl
theorem errW_some (c : Int) : errW (some c) = .iface 0 (.int .i64 c) := rfl

theorem info3 : (Try.prog.info? 3).map (fun i => (i.zero, i.size, i.bytes)) = some (some (.int .i64 0), 1, 8) := by kernel_rfl
-- the values' own types

end Go.Proofs.Ytgjcidhjonhamaa.PHeadBack
