-- WRITTEN BY a program of this session (see wip/tools)
import Derived.Test.YtlpbebijhfkmeaaProg
import Derived.Lib.Walk
import Derived.Lib.Bytealg
import Derived.Below
import Derived.Deep.Draws
import Derived.Deep.AppendLies
import Derived.Maps.AppendAt
import Derived.OwnWalk
import Derived.Laws.BytesArg
import Derived.Laws.MakeOwn
import Derived.Laws.OwnMore
import Derived.Deep.OwnRows
import Derived.Tactics
import Derived.Lib.ConvBytes
import Derived.Laws.Slices
import Derived.WalkKit
import Derived.KernelRfl
import Derived.RowKit3
import Derived.Deep.LoopGhost
import Derived.Deep.QuietTactic
import Derived.BigQuiet
import Derived.WideLaws
import Derived.Deep.DeepCutAuto
import Derived.Deep.CutBlock
import Derived.Deep.RegionHeld3
import Derived.Laws.Rows
import Derived.Lib.AppendStr
import Derived.ArgAppend
import Derived.Laws.IdiomCopy
import Derived.OrdersHeld
import Derived.Laws.BitsLemmas
import Derived.RowKit
import Derived.Test.YtlpbebijhfkmeaaWWords
import Derived.Test.YtlpbebijhfkmeaaWLast
import Derived.Test.YtlpbebijhfkmeaaWTab
import Derived.Test.YtlpbebijhfkmeaaWFour
import Derived.Test.YtlpbebijhfkmeaaWQPut
import Derived.Test.YtlpbebijhfkmeaaWApart
import Derived.Test.YtlpbebijhfkmeaaWArr
import Derived.Test.YtlpbebijhfkmeaaWZeros
import Derived.Test.YtlpbebijhfkmeaaWFoot
import Derived.Test.YtlpbebijhfkmeaaWKept
import Derived.Test.YtlpbebijhfkmeaaWShare
import Derived.Test.YtlpbebijhfkmeaaWN
import Derived.Test.YtlpbebijhfkmeaaWFootNe
import Derived.Test.YtlpbebijhfkmeaaWAt
import Derived.Test.YtlpbebijhfkmeaaWEqStruct
import Derived.Test.YtlpbebijhfkmeaaWRepsOne
import Derived.Test.YtlpbebijhfkmeaaWInv
import Derived.Test.YtlpbebijhfkmeaaWInvWords
import Derived.Test.YtlpbebijhfkmeaaWGuard
import Derived.Test.YtlpbebijhfkmeaaWNEv
import Derived.Test.YtlpbebijhfkmeaaWMore
namespace Go.Proofs.Ytlpbebijhfkmeaa.PVlq
open Go.RowKit Go.Proofs.YtlpbebijhfkmeaaW.PrintWords Go.Proofs.YtlpbebijhfkmeaaW.PrintLast Go.Proofs.YtlpbebijhfkmeaaW.PrintMore
attribute [local go_sem] max2_int min2_int max_two min_two max_three min_three max_four min_four   -- for this text's walks alone
set_option linter.unusedVariables false
set_option linter.unusedSimpArgs false



def errW : Option Int → Value
  | none => .nilIface
  | some c => .iface 0 (.int .i64 c)
theorem errW_none : errW none = .nilIface := rfl
theorem errW_some (c : Int) : errW (some c) = .iface 0 (.int .i64 c) := rfl

theorem info4 : (Try.prog.info? 4).map (fun i => (i.zero, i.size, i.bytes)) = some (some (.bool false), 1, 1) := by kernel_rfl
theorem info9 : (Try.prog.info? 9).map (fun i => (i.zero, i.size, i.bytes)) = some (some (.string ⟨#[]⟩), 1, 16) := by kernel_rfl
-- the values' own types

end Go.Proofs.Ytlpbebijhfkmeaa.PVlq
