-- PRINTED BY print.sh 35421559b90ae4d0a3588c463048766b98c2df88dd9212a6774a882060cdf62d: not written by this session
import Derived.Test.YtldbckbldddaaaaProg
import Derived.Below
import Derived.Deep.Draws
import Derived.Deep.AppendLies
import Derived.Maps.AppendAt
import Derived.OwnWalk
import Derived.Laws.BytesArg
import Derived.Laws.MakeOwn
import Derived.Laws.OwnMore
import Derived.Deep.OwnRows
import Derived.Tactics
import Derived.Lib.ConvBytes
import Derived.Laws.Slices
import Derived.WalkKit
import Derived.KernelRfl
import Derived.RowKit3
import Derived.Deep.LoopGhost
import Derived.Deep.QuietTactic
import Derived.BigQuiet
import Derived.WideLaws
import Derived.Deep.DeepCutAuto
import Derived.Deep.CutBlock
import Derived.Deep.RegionHeld3
import Derived.Laws.Rows
import Derived.Lib.AppendStr
import Derived.ArgAppend
import Derived.Laws.IdiomCopy
import Derived.OrdersHeld
import Derived.Laws.BitsLemmas
import Derived.RowKit
import Derived.Test.YtldbckbldddaaaaWWords
import Derived.Test.YtldbckbldddaaaaWLast
import Derived.Test.YtldbckbldddaaaaWTab
import Derived.Test.YtldbckbldddaaaaWFour
import Derived.Test.YtldbckbldddaaaaWQPut
import Derived.Test.YtldbckbldddaaaaWApart
import Derived.Test.YtldbckbldddaaaaWArr
import Derived.Test.YtldbckbldddaaaaWZeros
import Derived.Test.YtldbckbldddaaaaWFoot
import Derived.Test.YtldbckbldddaaaaWKept
import Derived.Test.YtldbckbldddaaaaWShare
import Derived.Test.YtldbckbldddaaaaWN
import Derived.Test.YtldbckbldddaaaaWFootNe
import Derived.Test.YtldbckbldddaaaaWAt
import Derived.Test.YtldbckbldddaaaaWEqStruct
import Derived.Test.YtldbckbldddaaaaWRepsOne
import Derived.Test.YtldbckbldddaaaaWInv
import Derived.Test.YtldbckbldddaaaaWInvWords
import Derived.Test.YtldbckbldddaaaaWGuard
import Derived.Test.YtldbckbldddaaaaWNEv
import Derived.Test.YtldbckbldddaaaaWMore
namespace Go.Proofs.Ytldbckbldddaaaa.PFnExactNameFault
open Go.RowKit Go.Proofs.YtldbckbldddaaaaW.PrintWords Go.Proofs.YtldbckbldddaaaaW.PrintLast Go.Proofs.YtldbckbldddaaaaW.PrintMore
attribute [local go_sem] max2_int min2_int max_two min_two max_three min_three max_four min_four   -- for this text's walks alone
set_option linter.unusedVariables false
set_option linter.unusedSimpArgs false



def errW : Option Int → Value
  | none => .nilIface
  | some c => .iface 0 (.int .i64 c)
theorem errW_none : errW none = .nilIface := rfl
theorem errW_some (c : Int) : errW (some c) = .iface 0 (.int .i64 c) := rfl

-- the values' own types

end Go.Proofs.Ytldbckbldddaaaa.PFnExactNameFault
