-- PRINTED BY print.sh 35421559b90ae4d0a3588c463048766b98c2df88dd9212a6774a882060cdf62d: not written by this session
import Derived.Test.YtceabidnjlpkeaaProg
import Derived.Below
import Derived.Deep.Draws
import Derived.Deep.AppendLies
import Derived.Maps.AppendAt
import Derived.OwnWalk
import Derived.Laws.BytesArg
import Derived.Laws.MakeOwn
import Derived.Laws.OwnMore
import Derived.Deep.OwnRows
import Derived.Tactics
import Derived.Lib.ConvBytes
import Derived.Laws.Slices
import Derived.WalkKit
import Derived.KernelRfl
import Derived.RowKit3
import Derived.Deep.LoopGhost
import Derived.Deep.QuietTactic
import Derived.BigQuiet
import Derived.WideLaws
import Derived.Deep.DeepCutAuto
import Derived.Deep.CutBlock
import Derived.Deep.RegionHeld3
import Derived.Laws.Rows
import Derived.Lib.AppendStr
import Derived.ArgAppend
import Derived.Laws.IdiomCopy
import Derived.OrdersHeld
import Derived.Laws.BitsLemmas
import Derived.RowKit
import Derived.Test.YtceabidnjlpkeaaWWords
import Derived.Test.YtceabidnjlpkeaaWLast
import Derived.Test.YtceabidnjlpkeaaWTab
import Derived.Test.YtceabidnjlpkeaaWFour
import Derived.Test.YtceabidnjlpkeaaWQPut
import Derived.Test.YtceabidnjlpkeaaWApart
import Derived.Test.YtceabidnjlpkeaaWArr
import Derived.Test.YtceabidnjlpkeaaWZeros
import Derived.Test.YtceabidnjlpkeaaWFoot
import Derived.Test.YtceabidnjlpkeaaWKept
import Derived.Test.YtceabidnjlpkeaaWShare
import Derived.Test.YtceabidnjlpkeaaWN
import Derived.Test.YtceabidnjlpkeaaWFootNe
import Derived.Test.YtceabidnjlpkeaaWAt
import Derived.Test.YtceabidnjlpkeaaWEqStruct
import Derived.Test.YtceabidnjlpkeaaWRepsOne
import Derived.Test.YtceabidnjlpkeaaWInv
import Derived.Test.YtceabidnjlpkeaaWInvWords
import Derived.Test.YtceabidnjlpkeaaWGuard
import Derived.Test.YtceabidnjlpkeaaWNEv
import Derived.Test.YtceabidnjlpkeaaWMore
namespace Go.Proofs.Ytceabidnjlpkeaa.PFnExactRotationDistance
open Go.RowKit Go.Proofs.YtceabidnjlpkeaaW.PrintWords Go.Proofs.YtceabidnjlpkeaaW.PrintLast Go.Proofs.YtceabidnjlpkeaaW.PrintMore
attribute [local go_sem] max2_int min2_int max_two min_two max_three min_three max_four min_four   -- for this text's walks alone
set_option linter.unusedVariables false
set_option linter.unusedSimpArgs false



def errW : Option Int → Value
  | none => .nilIface
  | some c => .iface 0 (.int .i64 c)
theorem errW_none : errW none = .nilIface := rfl
theorem errW_some (c : Int) : errW (some c) = .iface 0 (.int .i64 c) := rfl

theorem info4 : (Try.prog.info? 4).map (fun i => (i.zero, i.size, i.bytes)) = some (some (.bool false), 1, 1) := by kernel_rfl
theorem info9 : (Try.prog.info? 9).map (fun i => (i.zero, i.size, i.bytes)) = some (some (.string ⟨#[]⟩), 1, 16) := by kernel_rfl
-- the values' own types

end Go.Proofs.Ytceabidnjlpkeaa.PFnExactRotationDistance
