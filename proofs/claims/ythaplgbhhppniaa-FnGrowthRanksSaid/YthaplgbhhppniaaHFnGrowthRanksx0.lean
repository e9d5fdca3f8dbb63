/- Written by this session's program hprint.py out of the loaded functions: what each function computes, and the proof that the machine's call does just that. -/
import Derived.Test.YthaplgbhhppniaaProg
import Derived.Below
import Derived.Deep.Draws
import Derived.Deep.AppendLies
import Derived.Maps.AppendAt
import Derived.OwnWalk
import Derived.Laws.BytesArg
import Derived.Laws.MakeOwn
import Derived.Laws.OwnMore
import Derived.Deep.OwnRows
import Derived.Tactics
import Derived.Lib.ConvBytes
import Derived.Laws.Slices
import Derived.WalkKit
import Derived.KernelRfl
import Derived.RowKit3
import Derived.Deep.LoopGhost
import Derived.Deep.QuietTactic
import Derived.BigQuiet
import Derived.WideLaws
import Derived.Deep.DeepCutAuto
import Derived.Deep.CutBlock
import Derived.Deep.RegionHeld3
import Derived.Laws.Rows
import Derived.Lib.AppendStr
import Derived.ArgAppend
import Derived.Laws.IdiomCopy
import Derived.OrdersHeld
import Derived.Laws.BitsLemmas
import Derived.RowKit
import Derived.Test.YthaplgbhhppniaaWWords
import Derived.Test.YthaplgbhhppniaaWLast
import Derived.Test.YthaplgbhhppniaaWTab
import Derived.Test.YthaplgbhhppniaaWFour
import Derived.Test.YthaplgbhhppniaaWQPut
import Derived.Test.YthaplgbhhppniaaWApart
import Derived.Test.YthaplgbhhppniaaWArr
import Derived.Test.YthaplgbhhppniaaWZeros
import Derived.Test.YthaplgbhhppniaaWFoot
import Derived.Test.YthaplgbhhppniaaWKept
import Derived.Test.YthaplgbhhppniaaWShare
import Derived.Test.YthaplgbhhppniaaWN
import Derived.Test.YthaplgbhhppniaaWFootNe
import Derived.Test.YthaplgbhhppniaaWAt
import Derived.Test.YthaplgbhhppniaaWEqStruct
import Derived.Test.YthaplgbhhppniaaWRepsOne
import Derived.Test.YthaplgbhhppniaaWInv
import Derived.Test.YthaplgbhhppniaaWInvWords
import Derived.Test.YthaplgbhhppniaaWGuard
import Derived.Test.YthaplgbhhppniaaWNEv
import Derived.Test.YthaplgbhhppniaaWMore
namespace Go.Proofs.Ythaplgbhhppniaa.HFnGrowthRanks
open Go.RowKit Go.Proofs.YthaplgbhhppniaaW.PrintWords Go.Proofs.YthaplgbhhppniaaW.PrintLast Go.Proofs.YthaplgbhhppniaaW.PrintMore
attribute [local go_sem] max2_int min2_int max_two min_two max_three min_three max_four min_four   -- for this text's walks alone
set_option linter.unusedVariables false
set_option linter.unusedSimpArgs false



def errW : Option Int → Value
  | none => .nilIface
  | some c => .iface 0 (.int .i64 c)
theorem errW_none : errW none = .nilIface := rfl
theorem errW_some (c : Int) : errW (some c) = .iface 0 (.int .i64 c) := rfl

theorem ob_ (A : Option Addr) (n c : Nat) : (Value.slice A n c).ownBlock = A.map (fun a => a.block) := by cases A <;> rfl
theorem info3 : (Try.prog.info? 3).map (fun i => (i.zero, i.size, i.bytes)) = some (some (.int .i64 0), 1, 8) := by kernel_rfl
-- the values' own types

end Go.Proofs.Ythaplgbhhppniaa.HFnGrowthRanks
