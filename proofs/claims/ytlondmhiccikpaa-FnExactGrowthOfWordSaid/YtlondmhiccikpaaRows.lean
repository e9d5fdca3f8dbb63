/-
  No cell of these rows narrows 'for every input' (looked for: loops, veiled, ifaces, maps, wideKeys, modest, calm, conditions, laid).
  DERIVED. THE GIVEN ROWS OF THIS SEAT. 12 by the template 'for every input the law returns true; each argument reads behind the call as it read before'; 0 by the template 'total and deterministic' (their statements: YtlondmhiccikpaaTotals.lean).
  GIVEN WITH THE SEED: the statements are not yours to turn. If you find one false, say at which input.
  Laid BY PROGRAM, IN A SANDBOX (cutbox-rows.mjs): the forced cells as the released guide's own fill.sh prints them over the translation fbde1c5c62b53844… (all of the seat's roots in one cut). By AI agents, Wed Nov 11 2026. No macro, syntax, notation, axiom, sorry.
-/
import Derived.Test.YtlondmhiccikpaaChecked
import GoSem.Claim
import GoSem.ClaimJoined
import GoSem.ClaimMapViews
import Derived.JoinedTies
import Derived.KernelRfl
namespace Go.Proofs.Ytlondmhiccikpaa
/- THE CELL 'sum', in the pinned program and in every row, IS THE sha256 OF THE DUMP (.gsa) THAT YtlondmhiccikpaaProg.lean LOADS. Nothing in Lean hashes anything: it is a label: what it is worth is what the hold of that sum in a sandbox is worth. -/
noncomputable def Try.pinned : Pinned := { name := "ytlondmhiccikpaa", sum := "fbde1c5c62b53844cb7f5b5f46bbe010f2257705c1f155749e65dbc42fca4813", checked := Try.checked }
namespace Rows
def none {H : Type} : Left H := { results := [], args := [] }

/-- 'laws.FnExactParentsOf': WHATEVER THE INPUT: true; the input reads as it did. -/
def fnExactParentsOfSpec : ChangeSpec := { name := "fnExactParentsOf", fn := fun _ => fun
  | [d] => { results := [.lit (.bool true)], args := [d] }
  | _ => none }
def fnExactParentsOfRow : OpenClaim := { program := "ytlondmhiccikpaa", sum := "fbde1c5c62b53844cb7f5b5f46bbe010f2257705c1f155749e65dbc42fca4813", func := "loop.example/g01104/laws.FnExactParentsOf", spec := "fnExactParentsOf", apart := false }
def FnExactParentsOfSaid : Prop := fnExactParentsOfRow.holds Try.pinned (OpenSpec.ofChange fnExactParentsOfSpec)

/-- ITS FALSE NEIGHBOUR: 'it returns false'. Refute it at one input. -/
def fnExactParentsOfWrong : ChangeSpec := { name := "fnExactParentsOf", fn := fun _ => fun
  | [d] => { results := [.lit (.bool false)], args := [d] }
  | _ => none }
def FnExactParentsOfWrongFalsely : Prop := fnExactParentsOfRow.holds Try.pinned (OpenSpec.ofChange fnExactParentsOfWrong)

/-- 'laws.FnBlocksAreGrowths': WHATEVER THE INPUT: true; the input reads as it did. -/
def fnBlocksAreGrowthsSpec : ChangeSpec := { name := "fnBlocksAreGrowths", fn := fun _ => fun
  | [d1, d2] => { results := [.lit (.bool true)], args := [d1, d2] }
  | _ => none }
def fnBlocksAreGrowthsRow : OpenClaim := { program := "ytlondmhiccikpaa", sum := "fbde1c5c62b53844cb7f5b5f46bbe010f2257705c1f155749e65dbc42fca4813", func := "loop.example/g01104/laws.FnBlocksAreGrowths", spec := "fnBlocksAreGrowths", unfollowed := true, recurses := true, apart := false }
def FnBlocksAreGrowthsSaid : Prop := fnBlocksAreGrowthsRow.holds Try.pinned (OpenSpec.ofChange fnBlocksAreGrowthsSpec)

/-- ITS FALSE NEIGHBOUR: 'it returns false'. Refute it at one input. -/
def fnBlocksAreGrowthsWrong : ChangeSpec := { name := "fnBlocksAreGrowths", fn := fun _ => fun
  | [d1, d2] => { results := [.lit (.bool false)], args := [d1, d2] }
  | _ => none }
def FnBlocksAreGrowthsWrongFalsely : Prop := fnBlocksAreGrowthsRow.holds Try.pinned (OpenSpec.ofChange fnBlocksAreGrowthsWrong)

/-- 'laws.FnExactPartedWith': WHATEVER THE INPUT: true; the input reads as it did. -/
def fnExactPartedWithSpec : ChangeSpec := { name := "fnExactPartedWith", fn := fun _ => fun
  | [d1, d2] => { results := [.lit (.bool true)], args := [d1, d2] }
  | _ => none }
def fnExactPartedWithRow : OpenClaim := { program := "ytlondmhiccikpaa", sum := "fbde1c5c62b53844cb7f5b5f46bbe010f2257705c1f155749e65dbc42fca4813", func := "loop.example/g01104/laws.FnExactPartedWith", spec := "fnExactPartedWith", recurses := true, apart := false }
def FnExactPartedWithSaid : Prop := fnExactPartedWithRow.holds Try.pinned (OpenSpec.ofChange fnExactPartedWithSpec)

/-- ITS FALSE NEIGHBOUR: 'it returns false'. Refute it at one input. -/
def fnExactPartedWithWrong : ChangeSpec := { name := "fnExactPartedWith", fn := fun _ => fun
  | [d1, d2] => { results := [.lit (.bool false)], args := [d1, d2] }
  | _ => none }
def FnExactPartedWithWrongFalsely : Prop := fnExactPartedWithRow.holds Try.pinned (OpenSpec.ofChange fnExactPartedWithWrong)

/-- 'laws.FnExactWordOfParents': WHATEVER THE INPUT: true; the input reads as it did. -/
def fnExactWordOfParentsSpec : ChangeSpec := { name := "fnExactWordOfParents", fn := fun _ => fun
  | [d] => { results := [.lit (.bool true)], args := [d] }
  | _ => none }
def fnExactWordOfParentsRow : OpenClaim := { program := "ytlondmhiccikpaa", sum := "fbde1c5c62b53844cb7f5b5f46bbe010f2257705c1f155749e65dbc42fca4813", func := "loop.example/g01104/laws.FnExactWordOfParents", spec := "fnExactWordOfParents", apart := false }
def FnExactWordOfParentsSaid : Prop := fnExactWordOfParentsRow.holds Try.pinned (OpenSpec.ofChange fnExactWordOfParentsSpec)

/-- ITS FALSE NEIGHBOUR: 'it returns false'. Refute it at one input. -/
def fnExactWordOfParentsWrong : ChangeSpec := { name := "fnExactWordOfParents", fn := fun _ => fun
  | [d] => { results := [.lit (.bool false)], args := [d] }
  | _ => none }
def FnExactWordOfParentsWrongFalsely : Prop := fnExactWordOfParentsRow.holds Try.pinned (OpenSpec.ofChange fnExactWordOfParentsWrong)

/-- 'laws.FnExactBalancedWith': WHATEVER THE INPUT: true; the input reads as it did. -/
def fnExactBalancedWithSpec : ChangeSpec := { name := "fnExactBalancedWith", fn := fun _ => fun
  | [d1, d2] => { results := [.lit (.bool true)], args := [d1, d2] }
  | _ => none }
def fnExactBalancedWithRow : OpenClaim := { program := "ytlondmhiccikpaa", sum := "fbde1c5c62b53844cb7f5b5f46bbe010f2257705c1f155749e65dbc42fca4813", func := "loop.example/g01104/laws.FnExactBalancedWith", spec := "fnExactBalancedWith", apart := false }
def FnExactBalancedWithSaid : Prop := fnExactBalancedWithRow.holds Try.pinned (OpenSpec.ofChange fnExactBalancedWithSpec)

/-- ITS FALSE NEIGHBOUR: 'it returns false'. Refute it at one input. -/
def fnExactBalancedWithWrong : ChangeSpec := { name := "fnExactBalancedWith", fn := fun _ => fun
  | [d1, d2] => { results := [.lit (.bool false)], args := [d1, d2] }
  | _ => none }
def FnExactBalancedWithWrongFalsely : Prop := fnExactBalancedWithRow.holds Try.pinned (OpenSpec.ofChange fnExactBalancedWithWrong)

/-- 'laws.FnExactRotateWord': WHATEVER THE INPUT: true; the input reads as it did. -/
def fnExactRotateWordSpec : ChangeSpec := { name := "fnExactRotateWord", fn := fun _ => fun
  | [d1, d2] => { results := [.lit (.bool true)], args := [d1, d2] }
  | _ => none }
def fnExactRotateWordRow : OpenClaim := { program := "ytlondmhiccikpaa", sum := "fbde1c5c62b53844cb7f5b5f46bbe010f2257705c1f155749e65dbc42fca4813", func := "loop.example/g01104/laws.FnExactRotateWord", spec := "fnExactRotateWord", apart := false }
def FnExactRotateWordSaid : Prop := fnExactRotateWordRow.holds Try.pinned (OpenSpec.ofChange fnExactRotateWordSpec)

/-- ITS FALSE NEIGHBOUR: 'it returns false'. Refute it at one input. -/
def fnExactRotateWordWrong : ChangeSpec := { name := "fnExactRotateWord", fn := fun _ => fun
  | [d1, d2] => { results := [.lit (.bool false)], args := [d1, d2] }
  | _ => none }
def FnExactRotateWordWrongFalsely : Prop := fnExactRotateWordRow.holds Try.pinned (OpenSpec.ofChange fnExactRotateWordWrong)

/-- 'laws.FnExactGrowthOfWord': WHATEVER THE INPUT: true; the input reads as it did. -/
def fnExactGrowthOfWordSpec : ChangeSpec := { name := "fnExactGrowthOfWord", fn := fun _ => fun
  | [d] => { results := [.lit (.bool true)], args := [d] }
  | _ => none }
def fnExactGrowthOfWordRow : OpenClaim := { program := "ytlondmhiccikpaa", sum := "fbde1c5c62b53844cb7f5b5f46bbe010f2257705c1f155749e65dbc42fca4813", func := "loop.example/g01104/laws.FnExactGrowthOfWord", spec := "fnExactGrowthOfWord", apart := false }
def FnExactGrowthOfWordSaid : Prop := fnExactGrowthOfWordRow.holds Try.pinned (OpenSpec.ofChange fnExactGrowthOfWordSpec)

/-- ITS FALSE NEIGHBOUR: 'it returns false'. Refute it at one input. -/
def fnExactGrowthOfWordWrong : ChangeSpec := { name := "fnExactGrowthOfWord", fn := fun _ => fun
  | [d] => { results := [.lit (.bool false)], args := [d] }
  | _ => none }
def FnExactGrowthOfWordWrongFalsely : Prop := fnExactGrowthOfWordRow.holds Try.pinned (OpenSpec.ofChange fnExactGrowthOfWordWrong)

/-- 'laws.FnExactConjugateOf': WHATEVER THE INPUT: true; the input reads as it did. -/
def fnExactConjugateOfSpec : ChangeSpec := { name := "fnExactConjugateOf", fn := fun _ => fun
  | [d] => { results := [.lit (.bool true)], args := [d] }
  | _ => none }
def fnExactConjugateOfRow : OpenClaim := { program := "ytlondmhiccikpaa", sum := "fbde1c5c62b53844cb7f5b5f46bbe010f2257705c1f155749e65dbc42fca4813", func := "loop.example/g01104/laws.FnExactConjugateOf", spec := "fnExactConjugateOf", apart := false }
def FnExactConjugateOfSaid : Prop := fnExactConjugateOfRow.holds Try.pinned (OpenSpec.ofChange fnExactConjugateOfSpec)

/-- ITS FALSE NEIGHBOUR: 'it returns false'. Refute it at one input. -/
def fnExactConjugateOfWrong : ChangeSpec := { name := "fnExactConjugateOf", fn := fun _ => fun
  | [d] => { results := [.lit (.bool false)], args := [d] }
  | _ => none }
def FnExactConjugateOfWrongFalsely : Prop := fnExactConjugateOfRow.holds Try.pinned (OpenSpec.ofChange fnExactConjugateOfWrong)

/-- 'laws.FnExactRankBalanced': WHATEVER THE INPUT: true; the input reads as it did. -/
def fnExactRankBalancedSpec : ChangeSpec := { name := "fnExactRankBalanced", fn := fun _ => fun
  | [d] => { results := [.lit (.bool true)], args := [d] }
  | _ => none }
def fnExactRankBalancedRow : OpenClaim := { program := "ytlondmhiccikpaa", sum := "fbde1c5c62b53844cb7f5b5f46bbe010f2257705c1f155749e65dbc42fca4813", func := "loop.example/g01104/laws.FnExactRankBalanced", spec := "fnExactRankBalanced", apart := false }
def FnExactRankBalancedSaid : Prop := fnExactRankBalancedRow.holds Try.pinned (OpenSpec.ofChange fnExactRankBalancedSpec)

/-- ITS FALSE NEIGHBOUR: 'it returns false'. Refute it at one input. -/
def fnExactRankBalancedWrong : ChangeSpec := { name := "fnExactRankBalanced", fn := fun _ => fun
  | [d] => { results := [.lit (.bool false)], args := [d] }
  | _ => none }
def FnExactRankBalancedWrongFalsely : Prop := fnExactRankBalancedRow.holds Try.pinned (OpenSpec.ofChange fnExactRankBalancedWrong)

/-- 'laws.FnExactRankParted': WHATEVER THE INPUT: true; the input reads as it did. -/
def fnExactRankPartedSpec : ChangeSpec := { name := "fnExactRankParted", fn := fun _ => fun
  | [d] => { results := [.lit (.bool true)], args := [d] }
  | _ => none }
def fnExactRankPartedRow : OpenClaim := { program := "ytlondmhiccikpaa", sum := "fbde1c5c62b53844cb7f5b5f46bbe010f2257705c1f155749e65dbc42fca4813", func := "loop.example/g01104/laws.FnExactRankParted", spec := "fnExactRankParted", apart := false }
def FnExactRankPartedSaid : Prop := fnExactRankPartedRow.holds Try.pinned (OpenSpec.ofChange fnExactRankPartedSpec)

/-- ITS FALSE NEIGHBOUR: 'it returns false'. Refute it at one input. -/
def fnExactRankPartedWrong : ChangeSpec := { name := "fnExactRankParted", fn := fun _ => fun
  | [d] => { results := [.lit (.bool false)], args := [d] }
  | _ => none }
def FnExactRankPartedWrongFalsely : Prop := fnExactRankPartedRow.holds Try.pinned (OpenSpec.ofChange fnExactRankPartedWrong)

/-- 'laws.FnExactLyndonUpTo': WHATEVER THE INPUT: true; the input reads as it did. -/
def fnExactLyndonUpToSpec : ChangeSpec := { name := "fnExactLyndonUpTo", fn := fun _ => fun
  | [d1, d2] => { results := [.lit (.bool true)], args := [d1, d2] }
  | _ => none }
def fnExactLyndonUpToRow : OpenClaim := { program := "ytlondmhiccikpaa", sum := "fbde1c5c62b53844cb7f5b5f46bbe010f2257705c1f155749e65dbc42fca4813", func := "loop.example/g01104/laws.FnExactLyndonUpTo", spec := "fnExactLyndonUpTo", unfollowed := true, recurses := true, apart := false }
def FnExactLyndonUpToSaid : Prop := fnExactLyndonUpToRow.holds Try.pinned (OpenSpec.ofChange fnExactLyndonUpToSpec)

/-- ITS FALSE NEIGHBOUR: 'it returns false'. Refute it at one input. -/
def fnExactLyndonUpToWrong : ChangeSpec := { name := "fnExactLyndonUpTo", fn := fun _ => fun
  | [d1, d2] => { results := [.lit (.bool false)], args := [d1, d2] }
  | _ => none }
def FnExactLyndonUpToWrongFalsely : Prop := fnExactLyndonUpToRow.holds Try.pinned (OpenSpec.ofChange fnExactLyndonUpToWrong)

/-- 'laws.FnExactBlocksOf': WHATEVER THE INPUT: true; the input reads as it did. -/
def fnExactBlocksOfSpec : ChangeSpec := { name := "fnExactBlocksOf", fn := fun _ => fun
  | [d] => { results := [.lit (.bool true)], args := [d] }
  | _ => none }
def fnExactBlocksOfRow : OpenClaim := { program := "ytlondmhiccikpaa", sum := "fbde1c5c62b53844cb7f5b5f46bbe010f2257705c1f155749e65dbc42fca4813", func := "loop.example/g01104/laws.FnExactBlocksOf", spec := "fnExactBlocksOf", apart := false }
def FnExactBlocksOfSaid : Prop := fnExactBlocksOfRow.holds Try.pinned (OpenSpec.ofChange fnExactBlocksOfSpec)

/-- ITS FALSE NEIGHBOUR: 'it returns false'. Refute it at one input. -/
def fnExactBlocksOfWrong : ChangeSpec := { name := "fnExactBlocksOf", fn := fun _ => fun
  | [d] => { results := [.lit (.bool false)], args := [d] }
  | _ => none }
def FnExactBlocksOfWrongFalsely : Prop := fnExactBlocksOfRow.holds Try.pinned (OpenSpec.ofChange fnExactBlocksOfWrong)

/- THE SECOND FORM. 'bulk': how many values and letters a reading holds, each counted each time it is reached (what is shared counts as often as it is met; a slice's spare places count too). A statement '..UptoSaid' is the law's where the arguments, and the package variables that the reading takes, are together of bulk at most 1048576: NARROWER than '..Said'. Prove '..Said' where nothing that the law and all that it calls make is longer than what came in: it says more and counts as full. Else prove '..UptoSaid'. A law counts once. -/
mutual
def uptoBulk {H : Type} : DataW H → Nat
  | .lit (.string bytes) => bytes.length + 1
  | .lit _ => 1
  | .nil => 1
  | .ptr d => uptoBulk d + 1
  | .slice elems spare => uptoBulkAll elems + uptoBulkAll spare + 1
  | .agg parts => uptoBulkAll parts + 1
  | .iface _ d => uptoBulk d + 1
  | .map entries => uptoBulkEntries entries + 1
  | .held _ => 1
def uptoBulkAll {H : Type} : List (DataW H) → Nat
  | [] => 0
  | d :: r => uptoBulk d + uptoBulkAll r
def uptoBulkEntries {H : Type} : List (Lit × DataW H) → Nat
  | [] => 0
  | x :: r => uptoBulkEntry x + uptoBulkEntries r
def uptoBulkEntry {H : Type} : Lit × DataW H → Nat
  | (.string bytes, d) => bytes.length + uptoBulk d + 1
  | (_, d) => uptoBulk d + 1
 end
def uptoSmall : (H : Type) → List (DataW H) → Bool := fun _ ds => decide (uptoBulkAll ds ≤ 1048576)
def OpenSpec.upto (s : _root_.Go.ChangeSpec) : _root_.Go.OpenSpec := { _root_.Go.OpenSpec.ofChange s with cond := some uptoSmall }

/-- 'laws.FnExactParentsOf', WHERE WHAT IT READS IS OF BULK AT MOST 1048576: true; the input reads as it did. -/
def fnExactParentsOfUptoRow : OpenClaim := { program := "ytlondmhiccikpaa", sum := "fbde1c5c62b53844cb7f5b5f46bbe010f2257705c1f155749e65dbc42fca4813", func := "loop.example/g01104/laws.FnExactParentsOf", spec := "fnExactParentsOf", apart := false, narrowed := true }
def FnExactParentsOfUptoSaid : Prop := fnExactParentsOfUptoRow.holds Try.pinned (OpenSpec.upto fnExactParentsOfSpec)

/-- 'laws.FnBlocksAreGrowths', WHERE WHAT IT READS IS OF BULK AT MOST 1048576: true; the input reads as it did. -/
def fnBlocksAreGrowthsUptoRow : OpenClaim := { program := "ytlondmhiccikpaa", sum := "fbde1c5c62b53844cb7f5b5f46bbe010f2257705c1f155749e65dbc42fca4813", func := "loop.example/g01104/laws.FnBlocksAreGrowths", spec := "fnBlocksAreGrowths", unfollowed := true, recurses := true, apart := false, narrowed := true }
def FnBlocksAreGrowthsUptoSaid : Prop := fnBlocksAreGrowthsUptoRow.holds Try.pinned (OpenSpec.upto fnBlocksAreGrowthsSpec)

/-- 'laws.FnExactPartedWith', WHERE WHAT IT READS IS OF BULK AT MOST 1048576: true; the input reads as it did. -/
def fnExactPartedWithUptoRow : OpenClaim := { program := "ytlondmhiccikpaa", sum := "fbde1c5c62b53844cb7f5b5f46bbe010f2257705c1f155749e65dbc42fca4813", func := "loop.example/g01104/laws.FnExactPartedWith", spec := "fnExactPartedWith", recurses := true, apart := false, narrowed := true }
def FnExactPartedWithUptoSaid : Prop := fnExactPartedWithUptoRow.holds Try.pinned (OpenSpec.upto fnExactPartedWithSpec)

/-- 'laws.FnExactWordOfParents', WHERE WHAT IT READS IS OF BULK AT MOST 1048576: true; the input reads as it did. -/
def fnExactWordOfParentsUptoRow : OpenClaim := { program := "ytlondmhiccikpaa", sum := "fbde1c5c62b53844cb7f5b5f46bbe010f2257705c1f155749e65dbc42fca4813", func := "loop.example/g01104/laws.FnExactWordOfParents", spec := "fnExactWordOfParents", apart := false, narrowed := true }
def FnExactWordOfParentsUptoSaid : Prop := fnExactWordOfParentsUptoRow.holds Try.pinned (OpenSpec.upto fnExactWordOfParentsSpec)

/-- 'laws.FnExactBalancedWith', WHERE WHAT IT READS IS OF BULK AT MOST 1048576: true; the input reads as it did. -/
def fnExactBalancedWithUptoRow : OpenClaim := { program := "ytlondmhiccikpaa", sum := "fbde1c5c62b53844cb7f5b5f46bbe010f2257705c1f155749e65dbc42fca4813", func := "loop.example/g01104/laws.FnExactBalancedWith", spec := "fnExactBalancedWith", apart := false, narrowed := true }
def FnExactBalancedWithUptoSaid : Prop := fnExactBalancedWithUptoRow.holds Try.pinned (OpenSpec.upto fnExactBalancedWithSpec)

/-- 'laws.FnExactRotateWord', WHERE WHAT IT READS IS OF BULK AT MOST 1048576: true; the input reads as it did. -/
def fnExactRotateWordUptoRow : OpenClaim := { program := "ytlondmhiccikpaa", sum := "fbde1c5c62b53844cb7f5b5f46bbe010f2257705c1f155749e65dbc42fca4813", func := "loop.example/g01104/laws.FnExactRotateWord", spec := "fnExactRotateWord", apart := false, narrowed := true }
def FnExactRotateWordUptoSaid : Prop := fnExactRotateWordUptoRow.holds Try.pinned (OpenSpec.upto fnExactRotateWordSpec)

/-- 'laws.FnExactGrowthOfWord', WHERE WHAT IT READS IS OF BULK AT MOST 1048576: true; the input reads as it did. -/
def fnExactGrowthOfWordUptoRow : OpenClaim := { program := "ytlondmhiccikpaa", sum := "fbde1c5c62b53844cb7f5b5f46bbe010f2257705c1f155749e65dbc42fca4813", func := "loop.example/g01104/laws.FnExactGrowthOfWord", spec := "fnExactGrowthOfWord", apart := false, narrowed := true }
def FnExactGrowthOfWordUptoSaid : Prop := fnExactGrowthOfWordUptoRow.holds Try.pinned (OpenSpec.upto fnExactGrowthOfWordSpec)

/-- 'laws.FnExactConjugateOf', WHERE WHAT IT READS IS OF BULK AT MOST 1048576: true; the input reads as it did. -/
def fnExactConjugateOfUptoRow : OpenClaim := { program := "ytlondmhiccikpaa", sum := "fbde1c5c62b53844cb7f5b5f46bbe010f2257705c1f155749e65dbc42fca4813", func := "loop.example/g01104/laws.FnExactConjugateOf", spec := "fnExactConjugateOf", apart := false, narrowed := true }
def FnExactConjugateOfUptoSaid : Prop := fnExactConjugateOfUptoRow.holds Try.pinned (OpenSpec.upto fnExactConjugateOfSpec)

/-- 'laws.FnExactRankBalanced', WHERE WHAT IT READS IS OF BULK AT MOST 1048576: true; the input reads as it did. -/
def fnExactRankBalancedUptoRow : OpenClaim := { program := "ytlondmhiccikpaa", sum := "fbde1c5c62b53844cb7f5b5f46bbe010f2257705c1f155749e65dbc42fca4813", func := "loop.example/g01104/laws.FnExactRankBalanced", spec := "fnExactRankBalanced", apart := false, narrowed := true }
def FnExactRankBalancedUptoSaid : Prop := fnExactRankBalancedUptoRow.holds Try.pinned (OpenSpec.upto fnExactRankBalancedSpec)

/-- 'laws.FnExactRankParted', WHERE WHAT IT READS IS OF BULK AT MOST 1048576: true; the input reads as it did. -/
def fnExactRankPartedUptoRow : OpenClaim := { program := "ytlondmhiccikpaa", sum := "fbde1c5c62b53844cb7f5b5f46bbe010f2257705c1f155749e65dbc42fca4813", func := "loop.example/g01104/laws.FnExactRankParted", spec := "fnExactRankParted", apart := false, narrowed := true }
def FnExactRankPartedUptoSaid : Prop := fnExactRankPartedUptoRow.holds Try.pinned (OpenSpec.upto fnExactRankPartedSpec)

/-- 'laws.FnExactLyndonUpTo', WHERE WHAT IT READS IS OF BULK AT MOST 1048576: true; the input reads as it did. -/
def fnExactLyndonUpToUptoRow : OpenClaim := { program := "ytlondmhiccikpaa", sum := "fbde1c5c62b53844cb7f5b5f46bbe010f2257705c1f155749e65dbc42fca4813", func := "loop.example/g01104/laws.FnExactLyndonUpTo", spec := "fnExactLyndonUpTo", unfollowed := true, recurses := true, apart := false, narrowed := true }
def FnExactLyndonUpToUptoSaid : Prop := fnExactLyndonUpToUptoRow.holds Try.pinned (OpenSpec.upto fnExactLyndonUpToSpec)

/-- 'laws.FnExactBlocksOf', WHERE WHAT IT READS IS OF BULK AT MOST 1048576: true; the input reads as it did. -/
def fnExactBlocksOfUptoRow : OpenClaim := { program := "ytlondmhiccikpaa", sum := "fbde1c5c62b53844cb7f5b5f46bbe010f2257705c1f155749e65dbc42fca4813", func := "loop.example/g01104/laws.FnExactBlocksOf", spec := "fnExactBlocksOf", apart := false, narrowed := true }
def FnExactBlocksOfUptoSaid : Prop := fnExactBlocksOfUptoRow.holds Try.pinned (OpenSpec.upto fnExactBlocksOfSpec)

end Rows
end Go.Proofs.Ytlondmhiccikpaa
