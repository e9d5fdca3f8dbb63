/-
  No cell of these rows narrows 'for every input' (looked for: loops, veiled, ifaces, maps, wideKeys, modest, calm, conditions, laid).
  DERIVED. THE GIVEN ROWS OF THIS SEAT. 12 by the template 'for every input the law returns true; each argument reads behind the call as it read before'; 0 by the template 'total and deterministic' (their statements: YtmcmglclgdgdnaaTotals.lean).
  GIVEN WITH THE SEED: the statements are not yours to turn. If you find one false, say at which input.
  Laid BY PROGRAM, IN A SANDBOX (cutbox-rows.mjs): the forced cells as the released guide's own fill.sh prints them over the translation 2072ca1e3738a645… (all of the seat's roots in one cut). By AI agents, Wed Nov 11 2026. No macro, syntax, notation, axiom, sorry.
-/
import Derived.Test.YtmcmglclgdgdnaaChecked
import GoSem.Claim
import GoSem.ClaimJoined
import GoSem.ClaimMapViews
import Derived.JoinedTies
import Derived.KernelRfl
namespace Go.Proofs.Ytmcmglclgdgdnaa
/- THE CELL 'sum', in the pinned program and in every row, IS THE sha256 OF THE DUMP (.gsa) THAT YtmcmglclgdgdnaaProg.lean LOADS. Nothing in Lean hashes anything: it is a label: what it is worth is what the hold of that sum in a sandbox is worth. -/
noncomputable def Try.pinned : Pinned := { name := "ytmcmglclgdgdnaa", sum := "2072ca1e3738a64576e58e696eb9b016f2ff7f56d854b138752664a2d9bcd4b6", checked := Try.checked }
namespace Rows
def none {H : Type} : Left H := { results := [], args := [] }

/-- 'laws.FnGrayBalanced': WHATEVER THE INPUT: true; the input reads as it did. -/
def fnGrayBalancedSpec : ChangeSpec := { name := "fnGrayBalanced", fn := fun _ => fun
  | [d1, d2] => { results := [.lit (.bool true)], args := [d1, d2] }
  | _ => none }
def fnGrayBalancedRow : OpenClaim := { program := "ytmcmglclgdgdnaa", sum := "2072ca1e3738a64576e58e696eb9b016f2ff7f56d854b138752664a2d9bcd4b6", func := "loop.example/g01104/laws.FnGrayBalanced", spec := "fnGrayBalanced", recurses := true, apart := false }
def FnGrayBalancedSaid : Prop := fnGrayBalancedRow.holds Try.pinned (OpenSpec.ofChange fnGrayBalancedSpec)

/-- ITS FALSE NEIGHBOUR: 'it returns false'. Refute it at one input. -/
def fnGrayBalancedWrong : ChangeSpec := { name := "fnGrayBalanced", fn := fun _ => fun
  | [d1, d2] => { results := [.lit (.bool false)], args := [d1, d2] }
  | _ => none }
def FnGrayBalancedWrongFalsely : Prop := fnGrayBalancedRow.holds Try.pinned (OpenSpec.ofChange fnGrayBalancedWrong)

/-- 'laws.FnExactIsLyndon': WHATEVER THE INPUT: true; the input reads as it did. -/
def fnExactIsLyndonSpec : ChangeSpec := { name := "fnExactIsLyndon", fn := fun _ => fun
  | [d] => { results := [.lit (.bool true)], args := [d] }
  | _ => none }
def fnExactIsLyndonRow : OpenClaim := { program := "ytmcmglclgdgdnaa", sum := "2072ca1e3738a64576e58e696eb9b016f2ff7f56d854b138752664a2d9bcd4b6", func := "loop.example/g01104/laws.FnExactIsLyndon", spec := "fnExactIsLyndon", apart := false }
def FnExactIsLyndonSaid : Prop := fnExactIsLyndonRow.holds Try.pinned (OpenSpec.ofChange fnExactIsLyndonSpec)

/-- ITS FALSE NEIGHBOUR: 'it returns false'. Refute it at one input. -/
def fnExactIsLyndonWrong : ChangeSpec := { name := "fnExactIsLyndon", fn := fun _ => fun
  | [d] => { results := [.lit (.bool false)], args := [d] }
  | _ => none }
def FnExactIsLyndonWrongFalsely : Prop := fnExactIsLyndonRow.holds Try.pinned (OpenSpec.ofChange fnExactIsLyndonWrong)

/-- 'laws.FnTreesAreWords': WHATEVER THE INPUT: true; the input reads as it did. -/
def fnTreesAreWordsSpec : ChangeSpec := { name := "fnTreesAreWords", fn := fun _ => fun
  | [d1, d2] => { results := [.lit (.bool true)], args := [d1, d2] }
  | _ => none }
def fnTreesAreWordsRow : OpenClaim := { program := "ytmcmglclgdgdnaa", sum := "2072ca1e3738a64576e58e696eb9b016f2ff7f56d854b138752664a2d9bcd4b6", func := "loop.example/g01104/laws.FnTreesAreWords", spec := "fnTreesAreWords", apart := false }
def FnTreesAreWordsSaid : Prop := fnTreesAreWordsRow.holds Try.pinned (OpenSpec.ofChange fnTreesAreWordsSpec)

/-- ITS FALSE NEIGHBOUR: 'it returns false'. Refute it at one input. -/
def fnTreesAreWordsWrong : ChangeSpec := { name := "fnTreesAreWords", fn := fun _ => fun
  | [d1, d2] => { results := [.lit (.bool false)], args := [d1, d2] }
  | _ => none }
def FnTreesAreWordsWrongFalsely : Prop := fnTreesAreWordsRow.holds Try.pinned (OpenSpec.ofChange fnTreesAreWordsWrong)

/-- 'laws.FnExactGrowthOf': WHATEVER THE INPUT: true; the input reads as it did. -/
def fnExactGrowthOfSpec : ChangeSpec := { name := "fnExactGrowthOf", fn := fun _ => fun
  | [d] => { results := [.lit (.bool true)], args := [d] }
  | _ => none }
def fnExactGrowthOfRow : OpenClaim := { program := "ytmcmglclgdgdnaa", sum := "2072ca1e3738a64576e58e696eb9b016f2ff7f56d854b138752664a2d9bcd4b6", func := "loop.example/g01104/laws.FnExactGrowthOf", spec := "fnExactGrowthOf", unfollowed := true, recurses := true, apart := false }
def FnExactGrowthOfSaid : Prop := fnExactGrowthOfRow.holds Try.pinned (OpenSpec.ofChange fnExactGrowthOfSpec)

/-- ITS FALSE NEIGHBOUR: 'it returns false'. Refute it at one input. -/
def fnExactGrowthOfWrong : ChangeSpec := { name := "fnExactGrowthOf", fn := fun _ => fun
  | [d] => { results := [.lit (.bool false)], args := [d] }
  | _ => none }
def FnExactGrowthOfWrongFalsely : Prop := fnExactGrowthOfRow.holds Try.pinned (OpenSpec.ofChange fnExactGrowthOfWrong)

/-- 'laws.FnDominance': WHATEVER THE INPUT: true; the input reads as it did. -/
def fnDominanceSpec : ChangeSpec := { name := "fnDominance", fn := fun _ => fun
  | [d1, d2] => { results := [.lit (.bool true)], args := [d1, d2] }
  | _ => none }
def fnDominanceRow : OpenClaim := { program := "ytmcmglclgdgdnaa", sum := "2072ca1e3738a64576e58e696eb9b016f2ff7f56d854b138752664a2d9bcd4b6", func := "loop.example/g01104/laws.FnDominance", spec := "fnDominance", recurses := true, apart := false }
def FnDominanceSaid : Prop := fnDominanceRow.holds Try.pinned (OpenSpec.ofChange fnDominanceSpec)

/-- ITS FALSE NEIGHBOUR: 'it returns false'. Refute it at one input. -/
def fnDominanceWrong : ChangeSpec := { name := "fnDominance", fn := fun _ => fun
  | [d1, d2] => { results := [.lit (.bool false)], args := [d1, d2] }
  | _ => none }
def FnDominanceWrongFalsely : Prop := fnDominanceRow.holds Try.pinned (OpenSpec.ofChange fnDominanceWrong)

/-- 'laws.FnExactStandardFactors': WHATEVER THE INPUT: true; the input reads as it did. -/
def fnExactStandardFactorsSpec : ChangeSpec := { name := "fnExactStandardFactors", fn := fun _ => fun
  | [d] => { results := [.lit (.bool true)], args := [d] }
  | _ => none }
def fnExactStandardFactorsRow : OpenClaim := { program := "ytmcmglclgdgdnaa", sum := "2072ca1e3738a64576e58e696eb9b016f2ff7f56d854b138752664a2d9bcd4b6", func := "loop.example/g01104/laws.FnExactStandardFactors", spec := "fnExactStandardFactors", apart := false }
def FnExactStandardFactorsSaid : Prop := fnExactStandardFactorsRow.holds Try.pinned (OpenSpec.ofChange fnExactStandardFactorsSpec)

/-- ITS FALSE NEIGHBOUR: 'it returns false'. Refute it at one input. -/
def fnExactStandardFactorsWrong : ChangeSpec := { name := "fnExactStandardFactors", fn := fun _ => fun
  | [d] => { results := [.lit (.bool false)], args := [d] }
  | _ => none }
def FnExactStandardFactorsWrongFalsely : Prop := fnExactStandardFactorsRow.holds Try.pinned (OpenSpec.ofChange fnExactStandardFactorsWrong)

/-- 'laws.FnExactBracketText': WHATEVER THE INPUT: true; the input reads as it did. -/
def fnExactBracketTextSpec : ChangeSpec := { name := "fnExactBracketText", fn := fun _ => fun
  | [d] => { results := [.lit (.bool true)], args := [d] }
  | _ => none }
def fnExactBracketTextRow : OpenClaim := { program := "ytmcmglclgdgdnaa", sum := "2072ca1e3738a64576e58e696eb9b016f2ff7f56d854b138752664a2d9bcd4b6", func := "loop.example/g01104/laws.FnExactBracketText", spec := "fnExactBracketText", recurses := true, apart := false }
def FnExactBracketTextSaid : Prop := fnExactBracketTextRow.holds Try.pinned (OpenSpec.ofChange fnExactBracketTextSpec)

/-- ITS FALSE NEIGHBOUR: 'it returns false'. Refute it at one input. -/
def fnExactBracketTextWrong : ChangeSpec := { name := "fnExactBracketText", fn := fun _ => fun
  | [d] => { results := [.lit (.bool false)], args := [d] }
  | _ => none }
def FnExactBracketTextWrongFalsely : Prop := fnExactBracketTextRow.holds Try.pinned (OpenSpec.ofChange fnExactBracketTextWrong)

/-- 'laws.FnExactNextLyndon': WHATEVER THE INPUT: true; the input reads as it did. -/
def fnExactNextLyndonSpec : ChangeSpec := { name := "fnExactNextLyndon", fn := fun _ => fun
  | [d1, d2, d3] => { results := [.lit (.bool true)], args := [d1, d2, d3] }
  | _ => none }
def fnExactNextLyndonRow : OpenClaim := { program := "ytmcmglclgdgdnaa", sum := "2072ca1e3738a64576e58e696eb9b016f2ff7f56d854b138752664a2d9bcd4b6", func := "loop.example/g01104/laws.FnExactNextLyndon", spec := "fnExactNextLyndon", apart := false }
def FnExactNextLyndonSaid : Prop := fnExactNextLyndonRow.holds Try.pinned (OpenSpec.ofChange fnExactNextLyndonSpec)

/-- ITS FALSE NEIGHBOUR: 'it returns false'. Refute it at one input. -/
def fnExactNextLyndonWrong : ChangeSpec := { name := "fnExactNextLyndon", fn := fun _ => fun
  | [d1, d2, d3] => { results := [.lit (.bool false)], args := [d1, d2, d3] }
  | _ => none }
def FnExactNextLyndonWrongFalsely : Prop := fnExactNextLyndonRow.holds Try.pinned (OpenSpec.ofChange fnExactNextLyndonWrong)

/-- 'laws.FnBalancedRanks': WHATEVER THE INPUT: true; the input reads as it did. -/
def fnBalancedRanksSpec : ChangeSpec := { name := "fnBalancedRanks", fn := fun _ => fun
  | [d1, d2] => { results := [.lit (.bool true)], args := [d1, d2] }
  | _ => none }
def fnBalancedRanksRow : OpenClaim := { program := "ytmcmglclgdgdnaa", sum := "2072ca1e3738a64576e58e696eb9b016f2ff7f56d854b138752664a2d9bcd4b6", func := "loop.example/g01104/laws.FnBalancedRanks", spec := "fnBalancedRanks", apart := false }
def FnBalancedRanksSaid : Prop := fnBalancedRanksRow.holds Try.pinned (OpenSpec.ofChange fnBalancedRanksSpec)

/-- ITS FALSE NEIGHBOUR: 'it returns false'. Refute it at one input. -/
def fnBalancedRanksWrong : ChangeSpec := { name := "fnBalancedRanks", fn := fun _ => fun
  | [d1, d2] => { results := [.lit (.bool false)], args := [d1, d2] }
  | _ => none }
def FnBalancedRanksWrongFalsely : Prop := fnBalancedRanksRow.holds Try.pinned (OpenSpec.ofChange fnBalancedRanksWrong)

/-- 'laws.FnLeastRotations': WHATEVER THE INPUT: true; the input reads as it did. -/
def fnLeastRotationsSpec : ChangeSpec := { name := "fnLeastRotations", fn := fun _ => fun
  | [d1, d2] => { results := [.lit (.bool true)], args := [d1, d2] }
  | _ => none }
def fnLeastRotationsRow : OpenClaim := { program := "ytmcmglclgdgdnaa", sum := "2072ca1e3738a64576e58e696eb9b016f2ff7f56d854b138752664a2d9bcd4b6", func := "loop.example/g01104/laws.FnLeastRotations", spec := "fnLeastRotations", apart := false }
def FnLeastRotationsSaid : Prop := fnLeastRotationsRow.holds Try.pinned (OpenSpec.ofChange fnLeastRotationsSpec)

/-- ITS FALSE NEIGHBOUR: 'it returns false'. Refute it at one input. -/
def fnLeastRotationsWrong : ChangeSpec := { name := "fnLeastRotations", fn := fun _ => fun
  | [d1, d2] => { results := [.lit (.bool false)], args := [d1, d2] }
  | _ => none }
def FnLeastRotationsWrongFalsely : Prop := fnLeastRotationsRow.holds Try.pinned (OpenSpec.ofChange fnLeastRotationsWrong)

/-- 'laws.FnExactLyndonFactors': WHATEVER THE INPUT: true; the input reads as it did. -/
def fnExactLyndonFactorsSpec : ChangeSpec := { name := "fnExactLyndonFactors", fn := fun _ => fun
  | [d] => { results := [.lit (.bool true)], args := [d] }
  | _ => none }
def fnExactLyndonFactorsRow : OpenClaim := { program := "ytmcmglclgdgdnaa", sum := "2072ca1e3738a64576e58e696eb9b016f2ff7f56d854b138752664a2d9bcd4b6", func := "loop.example/g01104/laws.FnExactLyndonFactors", spec := "fnExactLyndonFactors", apart := false }
def FnExactLyndonFactorsSaid : Prop := fnExactLyndonFactorsRow.holds Try.pinned (OpenSpec.ofChange fnExactLyndonFactorsSpec)

/-- ITS FALSE NEIGHBOUR: 'it returns false'. Refute it at one input. -/
def fnExactLyndonFactorsWrong : ChangeSpec := { name := "fnExactLyndonFactors", fn := fun _ => fun
  | [d] => { results := [.lit (.bool false)], args := [d] }
  | _ => none }
def FnExactLyndonFactorsWrongFalsely : Prop := fnExactLyndonFactorsRow.holds Try.pinned (OpenSpec.ofChange fnExactLyndonFactorsWrong)

/-- 'laws.FnLyndonLists': WHATEVER THE INPUT: true; the input reads as it did. -/
def fnLyndonListsSpec : ChangeSpec := { name := "fnLyndonLists", fn := fun _ => fun
  | [d1, d2] => { results := [.lit (.bool true)], args := [d1, d2] }
  | _ => none }
def fnLyndonListsRow : OpenClaim := { program := "ytmcmglclgdgdnaa", sum := "2072ca1e3738a64576e58e696eb9b016f2ff7f56d854b138752664a2d9bcd4b6", func := "loop.example/g01104/laws.FnLyndonLists", spec := "fnLyndonLists", unfollowed := true, recurses := true, apart := false }
def FnLyndonListsSaid : Prop := fnLyndonListsRow.holds Try.pinned (OpenSpec.ofChange fnLyndonListsSpec)

/-- ITS FALSE NEIGHBOUR: 'it returns false'. Refute it at one input. -/
def fnLyndonListsWrong : ChangeSpec := { name := "fnLyndonLists", fn := fun _ => fun
  | [d1, d2] => { results := [.lit (.bool false)], args := [d1, d2] }
  | _ => none }
def FnLyndonListsWrongFalsely : Prop := fnLyndonListsRow.holds Try.pinned (OpenSpec.ofChange fnLyndonListsWrong)

/- THE SECOND FORM. 'bulk': how many values and letters a reading holds, each counted each time it is reached (what is shared counts as often as it is met; a slice's spare places count too). A statement '..UptoSaid' is the law's where the arguments, and the package variables that the reading takes, are together of bulk at most 1048576: NARROWER than '..Said'. Prove '..Said' where nothing that the law and all that it calls make is longer than what came in: it says more and counts as full. Else prove '..UptoSaid'. A law counts once. -/
mutual
def uptoBulk {H : Type} : DataW H → Nat
  | .lit (.string bytes) => bytes.length + 1
  | .lit _ => 1
  | .nil => 1
  | .ptr d => uptoBulk d + 1
  | .slice elems spare => uptoBulkAll elems + uptoBulkAll spare + 1
  | .agg parts => uptoBulkAll parts + 1
  | .iface _ d => uptoBulk d + 1
  | .map entries => uptoBulkEntries entries + 1
  | .held _ => 1
def uptoBulkAll {H : Type} : List (DataW H) → Nat
  | [] => 0
  | d :: r => uptoBulk d + uptoBulkAll r
def uptoBulkEntries {H : Type} : List (Lit × DataW H) → Nat
  | [] => 0
  | x :: r => uptoBulkEntry x + uptoBulkEntries r
def uptoBulkEntry {H : Type} : Lit × DataW H → Nat
  | (.string bytes, d) => bytes.length + uptoBulk d + 1
  | (_, d) => uptoBulk d + 1
 end
def uptoSmall : (H : Type) → List (DataW H) → Bool := fun _ ds => decide (uptoBulkAll ds ≤ 1048576)
def OpenSpec.upto (s : _root_.Go.ChangeSpec) : _root_.Go.OpenSpec := { _root_.Go.OpenSpec.ofChange s with cond := some uptoSmall }

/-- 'laws.FnGrayBalanced', WHERE WHAT IT READS IS OF BULK AT MOST 1048576: true; the input reads as it did. -/
def fnGrayBalancedUptoRow : OpenClaim := { program := "ytmcmglclgdgdnaa", sum := "2072ca1e3738a64576e58e696eb9b016f2ff7f56d854b138752664a2d9bcd4b6", func := "loop.example/g01104/laws.FnGrayBalanced", spec := "fnGrayBalanced", recurses := true, apart := false, narrowed := true }
def FnGrayBalancedUptoSaid : Prop := fnGrayBalancedUptoRow.holds Try.pinned (OpenSpec.upto fnGrayBalancedSpec)

/-- 'laws.FnExactIsLyndon', WHERE WHAT IT READS IS OF BULK AT MOST 1048576: true; the input reads as it did. -/
def fnExactIsLyndonUptoRow : OpenClaim := { program := "ytmcmglclgdgdnaa", sum := "2072ca1e3738a64576e58e696eb9b016f2ff7f56d854b138752664a2d9bcd4b6", func := "loop.example/g01104/laws.FnExactIsLyndon", spec := "fnExactIsLyndon", apart := false, narrowed := true }
def FnExactIsLyndonUptoSaid : Prop := fnExactIsLyndonUptoRow.holds Try.pinned (OpenSpec.upto fnExactIsLyndonSpec)

/-- 'laws.FnTreesAreWords', WHERE WHAT IT READS IS OF BULK AT MOST 1048576: true; the input reads as it did. -/
def fnTreesAreWordsUptoRow : OpenClaim := { program := "ytmcmglclgdgdnaa", sum := "2072ca1e3738a64576e58e696eb9b016f2ff7f56d854b138752664a2d9bcd4b6", func := "loop.example/g01104/laws.FnTreesAreWords", spec := "fnTreesAreWords", apart := false, narrowed := true }
def FnTreesAreWordsUptoSaid : Prop := fnTreesAreWordsUptoRow.holds Try.pinned (OpenSpec.upto fnTreesAreWordsSpec)

/-- 'laws.FnExactGrowthOf', WHERE WHAT IT READS IS OF BULK AT MOST 1048576: true; the input reads as it did. -/
def fnExactGrowthOfUptoRow : OpenClaim := { program := "ytmcmglclgdgdnaa", sum := "2072ca1e3738a64576e58e696eb9b016f2ff7f56d854b138752664a2d9bcd4b6", func := "loop.example/g01104/laws.FnExactGrowthOf", spec := "fnExactGrowthOf", unfollowed := true, recurses := true, apart := false, narrowed := true }
def FnExactGrowthOfUptoSaid : Prop := fnExactGrowthOfUptoRow.holds Try.pinned (OpenSpec.upto fnExactGrowthOfSpec)

/-- 'laws.FnDominance', WHERE WHAT IT READS IS OF BULK AT MOST 1048576: true; the input reads as it did. -/
def fnDominanceUptoRow : OpenClaim := { program := "ytmcmglclgdgdnaa", sum := "2072ca1e3738a64576e58e696eb9b016f2ff7f56d854b138752664a2d9bcd4b6", func := "loop.example/g01104/laws.FnDominance", spec := "fnDominance", recurses := true, apart := false, narrowed := true }
def FnDominanceUptoSaid : Prop := fnDominanceUptoRow.holds Try.pinned (OpenSpec.upto fnDominanceSpec)

/-- 'laws.FnExactStandardFactors', WHERE WHAT IT READS IS OF BULK AT MOST 1048576: true; the input reads as it did. -/
def fnExactStandardFactorsUptoRow : OpenClaim := { program := "ytmcmglclgdgdnaa", sum := "2072ca1e3738a64576e58e696eb9b016f2ff7f56d854b138752664a2d9bcd4b6", func := "loop.example/g01104/laws.FnExactStandardFactors", spec := "fnExactStandardFactors", apart := false, narrowed := true }
def FnExactStandardFactorsUptoSaid : Prop := fnExactStandardFactorsUptoRow.holds Try.pinned (OpenSpec.upto fnExactStandardFactorsSpec)

/-- 'laws.FnExactBracketText', WHERE WHAT IT READS IS OF BULK AT MOST 1048576: true; the input reads as it did. -/
def fnExactBracketTextUptoRow : OpenClaim := { program := "ytmcmglclgdgdnaa", sum := "2072ca1e3738a64576e58e696eb9b016f2ff7f56d854b138752664a2d9bcd4b6", func := "loop.example/g01104/laws.FnExactBracketText", spec := "fnExactBracketText", recurses := true, apart := false, narrowed := true }
def FnExactBracketTextUptoSaid : Prop := fnExactBracketTextUptoRow.holds Try.pinned (OpenSpec.upto fnExactBracketTextSpec)

/-- 'laws.FnExactNextLyndon', WHERE WHAT IT READS IS OF BULK AT MOST 1048576: true; the input reads as it did. -/
def fnExactNextLyndonUptoRow : OpenClaim := { program := "ytmcmglclgdgdnaa", sum := "2072ca1e3738a64576e58e696eb9b016f2ff7f56d854b138752664a2d9bcd4b6", func := "loop.example/g01104/laws.FnExactNextLyndon", spec := "fnExactNextLyndon", apart := false, narrowed := true }
def FnExactNextLyndonUptoSaid : Prop := fnExactNextLyndonUptoRow.holds Try.pinned (OpenSpec.upto fnExactNextLyndonSpec)

/-- 'laws.FnBalancedRanks', WHERE WHAT IT READS IS OF BULK AT MOST 1048576: true; the input reads as it did. -/
def fnBalancedRanksUptoRow : OpenClaim := { program := "ytmcmglclgdgdnaa", sum := "2072ca1e3738a64576e58e696eb9b016f2ff7f56d854b138752664a2d9bcd4b6", func := "loop.example/g01104/laws.FnBalancedRanks", spec := "fnBalancedRanks", apart := false, narrowed := true }
def FnBalancedRanksUptoSaid : Prop := fnBalancedRanksUptoRow.holds Try.pinned (OpenSpec.upto fnBalancedRanksSpec)

/-- 'laws.FnLeastRotations', WHERE WHAT IT READS IS OF BULK AT MOST 1048576: true; the input reads as it did. -/
def fnLeastRotationsUptoRow : OpenClaim := { program := "ytmcmglclgdgdnaa", sum := "2072ca1e3738a64576e58e696eb9b016f2ff7f56d854b138752664a2d9bcd4b6", func := "loop.example/g01104/laws.FnLeastRotations", spec := "fnLeastRotations", apart := false, narrowed := true }
def FnLeastRotationsUptoSaid : Prop := fnLeastRotationsUptoRow.holds Try.pinned (OpenSpec.upto fnLeastRotationsSpec)

/-- 'laws.FnExactLyndonFactors', WHERE WHAT IT READS IS OF BULK AT MOST 1048576: true; the input reads as it did. -/
def fnExactLyndonFactorsUptoRow : OpenClaim := { program := "ytmcmglclgdgdnaa", sum := "2072ca1e3738a64576e58e696eb9b016f2ff7f56d854b138752664a2d9bcd4b6", func := "loop.example/g01104/laws.FnExactLyndonFactors", spec := "fnExactLyndonFactors", apart := false, narrowed := true }
def FnExactLyndonFactorsUptoSaid : Prop := fnExactLyndonFactorsUptoRow.holds Try.pinned (OpenSpec.upto fnExactLyndonFactorsSpec)

/-- 'laws.FnLyndonLists', WHERE WHAT IT READS IS OF BULK AT MOST 1048576: true; the input reads as it did. -/
def fnLyndonListsUptoRow : OpenClaim := { program := "ytmcmglclgdgdnaa", sum := "2072ca1e3738a64576e58e696eb9b016f2ff7f56d854b138752664a2d9bcd4b6", func := "loop.example/g01104/laws.FnLyndonLists", spec := "fnLyndonLists", unfollowed := true, recurses := true, apart := false, narrowed := true }
def FnLyndonListsUptoSaid : Prop := fnLyndonListsUptoRow.holds Try.pinned (OpenSpec.upto fnLyndonListsSpec)

end Rows
end Go.Proofs.Ytmcmglclgdgdnaa
