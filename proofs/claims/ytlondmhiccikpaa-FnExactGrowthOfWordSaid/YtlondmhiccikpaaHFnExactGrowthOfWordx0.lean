/- Written by this session's program hprint.py out of the loaded functions: what each function computes, and the proof that the machine's call does just that. -/
import Derived.Test.YtlondmhiccikpaaProg
import Derived.Below
import Derived.Deep.Draws
import Derived.Deep.AppendLies
import Derived.Maps.AppendAt
import Derived.OwnWalk
import Derived.Laws.BytesArg
import Derived.Laws.MakeOwn
import Derived.Laws.OwnMore
import Derived.Deep.OwnRows
import Derived.Tactics
import Derived.Lib.ConvBytes
import Derived.Laws.Slices
import Derived.WalkKit
import Derived.KernelRfl
import Derived.RowKit3
import Derived.Deep.LoopGhost
import Derived.Deep.QuietTactic
import Derived.BigQuiet
import Derived.WideLaws
import Derived.Deep.DeepCutAuto
import Derived.Deep.CutBlock
import Derived.Deep.RegionHeld3
import Derived.Laws.Rows
import Derived.Lib.AppendStr
import Derived.ArgAppend
import Derived.Laws.IdiomCopy
import Derived.OrdersHeld
import Derived.Laws.BitsLemmas
import Derived.RowKit
import Derived.Test.YtlondmhiccikpaaWWords
import Derived.Test.YtlondmhiccikpaaWLast
import Derived.Test.YtlondmhiccikpaaWTab
import Derived.Test.YtlondmhiccikpaaWFour
import Derived.Test.YtlondmhiccikpaaWQPut
import Derived.Test.YtlondmhiccikpaaWApart
import Derived.Test.YtlondmhiccikpaaWArr
import Derived.Test.YtlondmhiccikpaaWZeros
import Derived.Test.YtlondmhiccikpaaWFoot
import Derived.Test.YtlondmhiccikpaaWKept
import Derived.Test.YtlondmhiccikpaaWShare
import Derived.Test.YtlondmhiccikpaaWN
import Derived.Test.YtlondmhiccikpaaWFootNe
import Derived.Test.YtlondmhiccikpaaWAt
import Derived.Test.YtlondmhiccikpaaWEqStruct
import Derived.Test.YtlondmhiccikpaaWRepsOne
import Derived.Test.YtlondmhiccikpaaWInv
import Derived.Test.YtlondmhiccikpaaWInvWords
import Derived.Test.YtlondmhiccikpaaWGuard
import Derived.Test.YtlondmhiccikpaaWNEv
import Derived.Test.YtlondmhiccikpaaWMore
namespace Go.Proofs.Ytlondmhiccikpaa.HFnExactGrowthOfWord
open Go.RowKit Go.Proofs.YtlondmhiccikpaaW.PrintWords Go.Proofs.YtlondmhiccikpaaW.PrintLast Go.Proofs.YtlondmhiccikpaaW.PrintMore
attribute [local go_sem] max2_int min2_int max_two min_two max_three min_three max_four min_four   -- for this text's walks alone
set_option linter.unusedVariables false
set_option linter.unusedSimpArgs false



def errW : Option Int → Value
  | none => .nilIface
  | some c => .iface 0 (.int .i64 c)
theorem errW_none : errW none = .nilIface := rfl
theorem errW_some (c : Int) : errW (some c) = .iface 0 (.int .i64 c) := rfl

theorem ob_ (A : Option Addr) (n c : Nat) : (Value.slice A n c).ownBlock = A.map (fun a => a.block) := by cases A <;> rfl
theorem info3 : (Try.prog.info? 3).map (fun i => (i.zero, i.size, i.bytes)) = some (some (.int .i64 0), 1, 8) := by kernel_rfl
-- the values' own types

end Go.Proofs.Ytlondmhiccikpaa.HFnExactGrowthOfWord
