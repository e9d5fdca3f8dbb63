/- Plain laws on balanced words; no program is in sight here. -/
import Derived.Test.YteilcjohobmdhaaCoreA
namespace Go.Proofs.Yteilcjohobmdhaa.Core
open Go.RowKit Go.Proofs.YteilcjohobmdhaaW.PrintWords Go.Proofs.YteilcjohobmdhaaW.PrintLast Go.Proofs.YteilcjohobmdhaaW.PrintMore
set_option linter.unusedVariables false
set_option linter.unusedSimpArgs false

/-- Ones and zeros that never close more than is open, and close all. -/
def balW (o : Int) : List Int → Bool
  | [] => decide (o = 0)
  | x :: s => inB x 0 1 && (decide (0 ≤ o + (2 * x - 1)) && balW (o + (2 * x - 1)) s)
def isB (l : List Int) : Bool := balW 0 l && decide ((l.length : Int) ≤ 24)

end Go.Proofs.Yteilcjohobmdhaa.Core
