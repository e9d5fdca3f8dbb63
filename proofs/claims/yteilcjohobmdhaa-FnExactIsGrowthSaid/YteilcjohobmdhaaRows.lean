/-
  No cell of these rows narrows 'for every input' (looked for: loops, veiled, ifaces, maps, wideKeys, modest, calm, conditions, laid).
  DERIVED. THE GIVEN ROWS OF THIS SEAT. 6 by the template 'for every input the law returns true; each argument reads behind the call as it read before'; 0 by the template 'total and deterministic' (their statements: YteilcjohobmdhaaTotals.lean).
  GIVEN WITH THE SEED: the statements are not yours to turn. If you find one false, say at which input.
  Laid BY PROGRAM, IN A SANDBOX (cutbox-rows.mjs): the forced cells as the released guide's own fill.sh prints them over the translation 620611a54d5ffb56… (all of the seat's roots in one cut). By AI agents, Wed Nov 11 2026. No macro, syntax, notation, axiom, sorry.
-/
import Derived.Test.YteilcjohobmdhaaChecked
import GoSem.Claim
import GoSem.ClaimJoined
import GoSem.ClaimMapViews
import Derived.JoinedTies
import Derived.KernelRfl
namespace Go.Proofs.Yteilcjohobmdhaa
/- THE CELL 'sum', in the pinned program and in every row, IS THE sha256 OF THE DUMP (.gsa) THAT YteilcjohobmdhaaProg.lean LOADS. Nothing in Lean hashes anything: it is a label: what it is worth is what the hold of that sum in a sandbox is worth. -/
noncomputable def Try.pinned : Pinned := { name := "yteilcjohobmdhaa", sum := "620611a54d5ffb569eb8524c87ecd6a772ae363a2763275f92c20c2da15f9718", checked := Try.checked }
namespace Rows
def none {H : Type} : Left H := { results := [], args := [] }

/-- 'laws.FnExactCountGrowths': WHATEVER THE INPUT: true; the input reads as it did. -/
def fnExactCountGrowthsSpec : ChangeSpec := { name := "fnExactCountGrowths", fn := fun _ => fun
  | [d] => { results := [.lit (.bool true)], args := [d] }
  | _ => none }
def fnExactCountGrowthsRow : OpenClaim := { program := "yteilcjohobmdhaa", sum := "620611a54d5ffb569eb8524c87ecd6a772ae363a2763275f92c20c2da15f9718", func := "loop.example/g01104/laws.FnExactCountGrowths", spec := "fnExactCountGrowths", recurses := true, apart := false }
def FnExactCountGrowthsSaid : Prop := fnExactCountGrowthsRow.holds Try.pinned (OpenSpec.ofChange fnExactCountGrowthsSpec)

/-- ITS FALSE NEIGHBOUR: 'it returns false'. Refute it at one input. -/
def fnExactCountGrowthsWrong : ChangeSpec := { name := "fnExactCountGrowths", fn := fun _ => fun
  | [d] => { results := [.lit (.bool false)], args := [d] }
  | _ => none }
def FnExactCountGrowthsWrongFalsely : Prop := fnExactCountGrowthsRow.holds Try.pinned (OpenSpec.ofChange fnExactCountGrowthsWrong)

/-- 'laws.FnExactCountParted': WHATEVER THE INPUT: true; the input reads as it did. -/
def fnExactCountPartedSpec : ChangeSpec := { name := "fnExactCountParted", fn := fun _ => fun
  | [d1, d2] => { results := [.lit (.bool true)], args := [d1, d2] }
  | _ => none }
def fnExactCountPartedRow : OpenClaim := { program := "yteilcjohobmdhaa", sum := "620611a54d5ffb569eb8524c87ecd6a772ae363a2763275f92c20c2da15f9718", func := "loop.example/g01104/laws.FnExactCountParted", spec := "fnExactCountParted", apart := false }
def FnExactCountPartedSaid : Prop := fnExactCountPartedRow.holds Try.pinned (OpenSpec.ofChange fnExactCountPartedSpec)

/-- ITS FALSE NEIGHBOUR: 'it returns false'. Refute it at one input. -/
def fnExactCountPartedWrong : ChangeSpec := { name := "fnExactCountParted", fn := fun _ => fun
  | [d1, d2] => { results := [.lit (.bool false)], args := [d1, d2] }
  | _ => none }
def FnExactCountPartedWrongFalsely : Prop := fnExactCountPartedRow.holds Try.pinned (OpenSpec.ofChange fnExactCountPartedWrong)

/-- 'laws.FnExactIsWord': WHATEVER THE INPUT: true; the input reads as it did. -/
def fnExactIsWordSpec : ChangeSpec := { name := "fnExactIsWord", fn := fun _ => fun
  | [d] => { results := [.lit (.bool true)], args := [d] }
  | _ => none }
def fnExactIsWordRow : OpenClaim := { program := "yteilcjohobmdhaa", sum := "620611a54d5ffb569eb8524c87ecd6a772ae363a2763275f92c20c2da15f9718", func := "loop.example/g01104/laws.FnExactIsWord", spec := "fnExactIsWord", apart := false }
def FnExactIsWordSaid : Prop := fnExactIsWordRow.holds Try.pinned (OpenSpec.ofChange fnExactIsWordSpec)

/-- ITS FALSE NEIGHBOUR: 'it returns false'. Refute it at one input. -/
def fnExactIsWordWrong : ChangeSpec := { name := "fnExactIsWord", fn := fun _ => fun
  | [d] => { results := [.lit (.bool false)], args := [d] }
  | _ => none }
def FnExactIsWordWrongFalsely : Prop := fnExactIsWordRow.holds Try.pinned (OpenSpec.ofChange fnExactIsWordWrong)

/-- 'laws.FnExactIsBalancedWord': WHATEVER THE INPUT: true; the input reads as it did. -/
def fnExactIsBalancedWordSpec : ChangeSpec := { name := "fnExactIsBalancedWord", fn := fun _ => fun
  | [d] => { results := [.lit (.bool true)], args := [d] }
  | _ => none }
def fnExactIsBalancedWordRow : OpenClaim := { program := "yteilcjohobmdhaa", sum := "620611a54d5ffb569eb8524c87ecd6a772ae363a2763275f92c20c2da15f9718", func := "loop.example/g01104/laws.FnExactIsBalancedWord", spec := "fnExactIsBalancedWord", apart := false }
def FnExactIsBalancedWordSaid : Prop := fnExactIsBalancedWordRow.holds Try.pinned (OpenSpec.ofChange fnExactIsBalancedWordSpec)

/-- ITS FALSE NEIGHBOUR: 'it returns false'. Refute it at one input. -/
def fnExactIsBalancedWordWrong : ChangeSpec := { name := "fnExactIsBalancedWord", fn := fun _ => fun
  | [d] => { results := [.lit (.bool false)], args := [d] }
  | _ => none }
def FnExactIsBalancedWordWrongFalsely : Prop := fnExactIsBalancedWordRow.holds Try.pinned (OpenSpec.ofChange fnExactIsBalancedWordWrong)

/-- 'laws.FnExactCountBalanced': WHATEVER THE INPUT: true; the input reads as it did. -/
def fnExactCountBalancedSpec : ChangeSpec := { name := "fnExactCountBalanced", fn := fun _ => fun
  | [d] => { results := [.lit (.bool true)], args := [d] }
  | _ => none }
def fnExactCountBalancedRow : OpenClaim := { program := "yteilcjohobmdhaa", sum := "620611a54d5ffb569eb8524c87ecd6a772ae363a2763275f92c20c2da15f9718", func := "loop.example/g01104/laws.FnExactCountBalanced", spec := "fnExactCountBalanced", apart := false }
def FnExactCountBalancedSaid : Prop := fnExactCountBalancedRow.holds Try.pinned (OpenSpec.ofChange fnExactCountBalancedSpec)

/-- ITS FALSE NEIGHBOUR: 'it returns false'. Refute it at one input. -/
def fnExactCountBalancedWrong : ChangeSpec := { name := "fnExactCountBalanced", fn := fun _ => fun
  | [d] => { results := [.lit (.bool false)], args := [d] }
  | _ => none }
def FnExactCountBalancedWrongFalsely : Prop := fnExactCountBalancedRow.holds Try.pinned (OpenSpec.ofChange fnExactCountBalancedWrong)

/-- 'laws.FnExactIsGrowth': WHATEVER THE INPUT: true; the input reads as it did. -/
def fnExactIsGrowthSpec : ChangeSpec := { name := "fnExactIsGrowth", fn := fun _ => fun
  | [d] => { results := [.lit (.bool true)], args := [d] }
  | _ => none }
def fnExactIsGrowthRow : OpenClaim := { program := "yteilcjohobmdhaa", sum := "620611a54d5ffb569eb8524c87ecd6a772ae363a2763275f92c20c2da15f9718", func := "loop.example/g01104/laws.FnExactIsGrowth", spec := "fnExactIsGrowth", apart := false }
def FnExactIsGrowthSaid : Prop := fnExactIsGrowthRow.holds Try.pinned (OpenSpec.ofChange fnExactIsGrowthSpec)

/-- ITS FALSE NEIGHBOUR: 'it returns false'. Refute it at one input. -/
def fnExactIsGrowthWrong : ChangeSpec := { name := "fnExactIsGrowth", fn := fun _ => fun
  | [d] => { results := [.lit (.bool false)], args := [d] }
  | _ => none }
def FnExactIsGrowthWrongFalsely : Prop := fnExactIsGrowthRow.holds Try.pinned (OpenSpec.ofChange fnExactIsGrowthWrong)

/- THE SECOND FORM. 'bulk': how many values and letters a reading holds, each counted each time it is reached (what is shared counts as often as it is met; a slice's spare places count too). A statement '..UptoSaid' is the law's where the arguments, and the package variables that the reading takes, are together of bulk at most 1048576: NARROWER than '..Said'. Prove '..Said' where nothing that the law and all that it calls make is longer than what came in: it says more and counts as full. Else prove '..UptoSaid'. A law counts once. -/
mutual
def uptoBulk {H : Type} : DataW H → Nat
  | .lit (.string bytes) => bytes.length + 1
  | .lit _ => 1
  | .nil => 1
  | .ptr d => uptoBulk d + 1
  | .slice elems spare => uptoBulkAll elems + uptoBulkAll spare + 1
  | .agg parts => uptoBulkAll parts + 1
  | .iface _ d => uptoBulk d + 1
  | .map entries => uptoBulkEntries entries + 1
  | .held _ => 1
def uptoBulkAll {H : Type} : List (DataW H) → Nat
  | [] => 0
  | d :: r => uptoBulk d + uptoBulkAll r
def uptoBulkEntries {H : Type} : List (Lit × DataW H) → Nat
  | [] => 0
  | x :: r => uptoBulkEntry x + uptoBulkEntries r
def uptoBulkEntry {H : Type} : Lit × DataW H → Nat
  | (.string bytes, d) => bytes.length + uptoBulk d + 1
  | (_, d) => uptoBulk d + 1
 end
def uptoSmall : (H : Type) → List (DataW H) → Bool := fun _ ds => decide (uptoBulkAll ds ≤ 1048576)
def OpenSpec.upto (s : _root_.Go.ChangeSpec) : _root_.Go.OpenSpec := { _root_.Go.OpenSpec.ofChange s with cond := some uptoSmall }

/-- 'laws.FnExactCountGrowths', WHERE WHAT IT READS IS OF BULK AT MOST 1048576: true; the input reads as it did. -/
def fnExactCountGrowthsUptoRow : OpenClaim := { program := "yteilcjohobmdhaa", sum := "620611a54d5ffb569eb8524c87ecd6a772ae363a2763275f92c20c2da15f9718", func := "loop.example/g01104/laws.FnExactCountGrowths", spec := "fnExactCountGrowths", recurses := true, apart := false, narrowed := true }
def FnExactCountGrowthsUptoSaid : Prop := fnExactCountGrowthsUptoRow.holds Try.pinned (OpenSpec.upto fnExactCountGrowthsSpec)

/-- 'laws.FnExactCountParted', WHERE WHAT IT READS IS OF BULK AT MOST 1048576: true; the input reads as it did. -/
def fnExactCountPartedUptoRow : OpenClaim := { program := "yteilcjohobmdhaa", sum := "620611a54d5ffb569eb8524c87ecd6a772ae363a2763275f92c20c2da15f9718", func := "loop.example/g01104/laws.FnExactCountParted", spec := "fnExactCountParted", apart := false, narrowed := true }
def FnExactCountPartedUptoSaid : Prop := fnExactCountPartedUptoRow.holds Try.pinned (OpenSpec.upto fnExactCountPartedSpec)

/-- 'laws.FnExactIsWord', WHERE WHAT IT READS IS OF BULK AT MOST 1048576: true; the input reads as it did. -/
def fnExactIsWordUptoRow : OpenClaim := { program := "yteilcjohobmdhaa", sum := "620611a54d5ffb569eb8524c87ecd6a772ae363a2763275f92c20c2da15f9718", func := "loop.example/g01104/laws.FnExactIsWord", spec := "fnExactIsWord", apart := false, narrowed := true }
def FnExactIsWordUptoSaid : Prop := fnExactIsWordUptoRow.holds Try.pinned (OpenSpec.upto fnExactIsWordSpec)

/-- 'laws.FnExactIsBalancedWord', WHERE WHAT IT READS IS OF BULK AT MOST 1048576: true; the input reads as it did. -/
def fnExactIsBalancedWordUptoRow : OpenClaim := { program := "yteilcjohobmdhaa", sum := "620611a54d5ffb569eb8524c87ecd6a772ae363a2763275f92c20c2da15f9718", func := "loop.example/g01104/laws.FnExactIsBalancedWord", spec := "fnExactIsBalancedWord", apart := false, narrowed := true }
def FnExactIsBalancedWordUptoSaid : Prop := fnExactIsBalancedWordUptoRow.holds Try.pinned (OpenSpec.upto fnExactIsBalancedWordSpec)

/-- 'laws.FnExactCountBalanced', WHERE WHAT IT READS IS OF BULK AT MOST 1048576: true; the input reads as it did. -/
def fnExactCountBalancedUptoRow : OpenClaim := { program := "yteilcjohobmdhaa", sum := "620611a54d5ffb569eb8524c87ecd6a772ae363a2763275f92c20c2da15f9718", func := "loop.example/g01104/laws.FnExactCountBalanced", spec := "fnExactCountBalanced", apart := false, narrowed := true }
def FnExactCountBalancedUptoSaid : Prop := fnExactCountBalancedUptoRow.holds Try.pinned (OpenSpec.upto fnExactCountBalancedSpec)

/-- 'laws.FnExactIsGrowth', WHERE WHAT IT READS IS OF BULK AT MOST 1048576: true; the input reads as it did. -/
def fnExactIsGrowthUptoRow : OpenClaim := { program := "yteilcjohobmdhaa", sum := "620611a54d5ffb569eb8524c87ecd6a772ae363a2763275f92c20c2da15f9718", func := "loop.example/g01104/laws.FnExactIsGrowth", spec := "fnExactIsGrowth", apart := false, narrowed := true }
def FnExactIsGrowthUptoSaid : Prop := fnExactIsGrowthUptoRow.holds Try.pinned (OpenSpec.upto fnExactIsGrowthSpec)

end Rows
end Go.Proofs.Yteilcjohobmdhaa
