/-
  No cell of these rows narrows 'for every input' (looked for: loops, veiled, ifaces, maps, wideKeys, modest, calm, conditions, laid).
  DERIVED. THE GIVEN ROWS OF THIS SEAT. 12 by the template 'for every input the law returns true; each argument reads behind the call as it read before'; 0 by the template 'total and deterministic' (their statements: YtaaoeaojimjikaaTotals.lean).
  GIVEN WITH THE SEED: the statements are not yours to turn. If you find one false, say at which input.
  Laid BY PROGRAM, IN A SANDBOX (cutbox-rows.mjs): the forced cells as the released guide's own fill.sh prints them over the translation b03fd370ef68a061… (all of the seat's roots in one cut). By AI agents, Wed Nov 11 2026. No macro, syntax, notation, axiom, sorry.
-/
import Derived.Test.YtaaoeaojimjikaaChecked
import GoSem.Claim
import GoSem.ClaimJoined
import GoSem.ClaimMapViews
import Derived.JoinedTies
import Derived.KernelRfl
namespace Go.Proofs.Ytaaoeaojimjikaa
/- THE CELL 'sum', in the pinned program and in every row, IS THE sha256 OF THE DUMP (.gsa) THAT YtaaoeaojimjikaaProg.lean LOADS. Nothing in Lean hashes anything: it is a label: what it is worth is what the hold of that sum in a sandbox is worth. -/
noncomputable def Try.pinned : Pinned := { name := "ytaaoeaojimjikaa", sum := "b03fd370ef68a0612a03586aa852f2d66ab633d8c9db5e506c0d41358eaac193", checked := Try.checked }
namespace Rows
def none {H : Type} : Left H := { results := [], args := [] }

/-- 'laws.FnLyndonFactorsDoNotRise': WHATEVER THE INPUT: true; the input reads as it did. -/
def fnLyndonFactorsDoNotRiseSpec : ChangeSpec := { name := "fnLyndonFactorsDoNotRise", fn := fun _ => fun
  | [d1, d2] => { results := [.lit (.bool true)], args := [d1, d2] }
  | _ => none }
def fnLyndonFactorsDoNotRiseRow : OpenClaim := { program := "ytaaoeaojimjikaa", sum := "b03fd370ef68a0612a03586aa852f2d66ab633d8c9db5e506c0d41358eaac193", func := "loop.example/g01104/laws.FnLyndonFactorsDoNotRise", spec := "fnLyndonFactorsDoNotRise", apart := false }
def FnLyndonFactorsDoNotRiseSaid : Prop := fnLyndonFactorsDoNotRiseRow.holds Try.pinned (OpenSpec.ofChange fnLyndonFactorsDoNotRiseSpec)

/-- ITS FALSE NEIGHBOUR: 'it returns false'. Refute it at one input. -/
def fnLyndonFactorsDoNotRiseWrong : ChangeSpec := { name := "fnLyndonFactorsDoNotRise", fn := fun _ => fun
  | [d1, d2] => { results := [.lit (.bool false)], args := [d1, d2] }
  | _ => none }
def FnLyndonFactorsDoNotRiseWrongFalsely : Prop := fnLyndonFactorsDoNotRiseRow.holds Try.pinned (OpenSpec.ofChange fnLyndonFactorsDoNotRiseWrong)

/-- 'laws.FnExactCountLyndon': WHATEVER THE INPUT: true; the input reads as it did. -/
def fnExactCountLyndonSpec : ChangeSpec := { name := "fnExactCountLyndon", fn := fun _ => fun
  | [d1, d2] => { results := [.lit (.bool true)], args := [d1, d2] }
  | _ => none }
def fnExactCountLyndonRow : OpenClaim := { program := "ytaaoeaojimjikaa", sum := "b03fd370ef68a0612a03586aa852f2d66ab633d8c9db5e506c0d41358eaac193", func := "loop.example/g01104/laws.FnExactCountLyndon", spec := "fnExactCountLyndon", recurses := true, apart := false }
def FnExactCountLyndonSaid : Prop := fnExactCountLyndonRow.holds Try.pinned (OpenSpec.ofChange fnExactCountLyndonSpec)

/-- ITS FALSE NEIGHBOUR: 'it returns false'. Refute it at one input. -/
def fnExactCountLyndonWrong : ChangeSpec := { name := "fnExactCountLyndon", fn := fun _ => fun
  | [d1, d2] => { results := [.lit (.bool false)], args := [d1, d2] }
  | _ => none }
def FnExactCountLyndonWrongFalsely : Prop := fnExactCountLyndonRow.holds Try.pinned (OpenSpec.ofChange fnExactCountLyndonWrong)

/-- 'laws.FnExactIsParted': WHATEVER THE INPUT: true; the input reads as it did. -/
def fnExactIsPartedSpec : ChangeSpec := { name := "fnExactIsParted", fn := fun _ => fun
  | [d] => { results := [.lit (.bool true)], args := [d] }
  | _ => none }
def fnExactIsPartedRow : OpenClaim := { program := "ytaaoeaojimjikaa", sum := "b03fd370ef68a0612a03586aa852f2d66ab633d8c9db5e506c0d41358eaac193", func := "loop.example/g01104/laws.FnExactIsParted", spec := "fnExactIsParted", apart := false }
def FnExactIsPartedSaid : Prop := fnExactIsPartedRow.holds Try.pinned (OpenSpec.ofChange fnExactIsPartedSpec)

/-- ITS FALSE NEIGHBOUR: 'it returns false'. Refute it at one input. -/
def fnExactIsPartedWrong : ChangeSpec := { name := "fnExactIsParted", fn := fun _ => fun
  | [d] => { results := [.lit (.bool false)], args := [d] }
  | _ => none }
def FnExactIsPartedWrongFalsely : Prop := fnExactIsPartedRow.holds Try.pinned (OpenSpec.ofChange fnExactIsPartedWrong)

/-- 'laws.FnExactCountNecklaces': WHATEVER THE INPUT: true; the input reads as it did. -/
def fnExactCountNecklacesSpec : ChangeSpec := { name := "fnExactCountNecklaces", fn := fun _ => fun
  | [d1, d2] => { results := [.lit (.bool true)], args := [d1, d2] }
  | _ => none }
def fnExactCountNecklacesRow : OpenClaim := { program := "ytaaoeaojimjikaa", sum := "b03fd370ef68a0612a03586aa852f2d66ab633d8c9db5e506c0d41358eaac193", func := "loop.example/g01104/laws.FnExactCountNecklaces", spec := "fnExactCountNecklaces", recurses := true, apart := false }
def FnExactCountNecklacesSaid : Prop := fnExactCountNecklacesRow.holds Try.pinned (OpenSpec.ofChange fnExactCountNecklacesSpec)

/-- ITS FALSE NEIGHBOUR: 'it returns false'. Refute it at one input. -/
def fnExactCountNecklacesWrong : ChangeSpec := { name := "fnExactCountNecklaces", fn := fun _ => fun
  | [d1, d2] => { results := [.lit (.bool false)], args := [d1, d2] }
  | _ => none }
def FnExactCountNecklacesWrongFalsely : Prop := fnExactCountNecklacesRow.holds Try.pinned (OpenSpec.ofChange fnExactCountNecklacesWrong)

/-- 'laws.FnExactWordText': WHATEVER THE INPUT: true; the input reads as it did. -/
def fnExactWordTextSpec : ChangeSpec := { name := "fnExactWordText", fn := fun _ => fun
  | [d] => { results := [.lit (.bool true)], args := [d] }
  | _ => none }
def fnExactWordTextRow : OpenClaim := { program := "ytaaoeaojimjikaa", sum := "b03fd370ef68a0612a03586aa852f2d66ab633d8c9db5e506c0d41358eaac193", func := "loop.example/g01104/laws.FnExactWordText", spec := "fnExactWordText", apart := false }
def FnExactWordTextSaid : Prop := fnExactWordTextRow.holds Try.pinned (OpenSpec.ofChange fnExactWordTextSpec)

/-- ITS FALSE NEIGHBOUR: 'it returns false'. Refute it at one input. -/
def fnExactWordTextWrong : ChangeSpec := { name := "fnExactWordText", fn := fun _ => fun
  | [d] => { results := [.lit (.bool false)], args := [d] }
  | _ => none }
def FnExactWordTextWrongFalsely : Prop := fnExactWordTextRow.holds Try.pinned (OpenSpec.ofChange fnExactWordTextWrong)

/-- 'laws.FnExactParseWord': WHATEVER THE INPUT: true; the input reads as it did. -/
def fnExactParseWordSpec : ChangeSpec := { name := "fnExactParseWord", fn := fun _ => fun
  | [d] => { results := [.lit (.bool true)], args := [d] }
  | _ => none }
def fnExactParseWordRow : OpenClaim := { program := "ytaaoeaojimjikaa", sum := "b03fd370ef68a0612a03586aa852f2d66ab633d8c9db5e506c0d41358eaac193", func := "loop.example/g01104/laws.FnExactParseWord", spec := "fnExactParseWord", apart := false }
def FnExactParseWordSaid : Prop := fnExactParseWordRow.holds Try.pinned (OpenSpec.ofChange fnExactParseWordSpec)

/-- ITS FALSE NEIGHBOUR: 'it returns false'. Refute it at one input. -/
def fnExactParseWordWrong : ChangeSpec := { name := "fnExactParseWord", fn := fun _ => fun
  | [d] => { results := [.lit (.bool false)], args := [d] }
  | _ => none }
def FnExactParseWordWrongFalsely : Prop := fnExactParseWordRow.holds Try.pinned (OpenSpec.ofChange fnExactParseWordWrong)

/-- 'laws.FnExactCountBracelets': WHATEVER THE INPUT: true; the input reads as it did. -/
def fnExactCountBraceletsSpec : ChangeSpec := { name := "fnExactCountBracelets", fn := fun _ => fun
  | [d1, d2] => { results := [.lit (.bool true)], args := [d1, d2] }
  | _ => none }
def fnExactCountBraceletsRow : OpenClaim := { program := "ytaaoeaojimjikaa", sum := "b03fd370ef68a0612a03586aa852f2d66ab633d8c9db5e506c0d41358eaac193", func := "loop.example/g01104/laws.FnExactCountBracelets", spec := "fnExactCountBracelets", recurses := true, apart := false }
def FnExactCountBraceletsSaid : Prop := fnExactCountBraceletsRow.holds Try.pinned (OpenSpec.ofChange fnExactCountBraceletsSpec)

/-- ITS FALSE NEIGHBOUR: 'it returns false'. Refute it at one input. -/
def fnExactCountBraceletsWrong : ChangeSpec := { name := "fnExactCountBracelets", fn := fun _ => fun
  | [d1, d2] => { results := [.lit (.bool false)], args := [d1, d2] }
  | _ => none }
def FnExactCountBraceletsWrongFalsely : Prop := fnExactCountBraceletsRow.holds Try.pinned (OpenSpec.ofChange fnExactCountBraceletsWrong)

/-- 'laws.FnStandardFactors': WHATEVER THE INPUT: true; the input reads as it did. -/
def fnStandardFactorsSpec : ChangeSpec := { name := "fnStandardFactors", fn := fun _ => fun
  | [d1, d2] => { results := [.lit (.bool true)], args := [d1, d2] }
  | _ => none }
def fnStandardFactorsRow : OpenClaim := { program := "ytaaoeaojimjikaa", sum := "b03fd370ef68a0612a03586aa852f2d66ab633d8c9db5e506c0d41358eaac193", func := "loop.example/g01104/laws.FnStandardFactors", spec := "fnStandardFactors", recurses := true, apart := false }
def FnStandardFactorsSaid : Prop := fnStandardFactorsRow.holds Try.pinned (OpenSpec.ofChange fnStandardFactorsSpec)

/-- ITS FALSE NEIGHBOUR: 'it returns false'. Refute it at one input. -/
def fnStandardFactorsWrong : ChangeSpec := { name := "fnStandardFactors", fn := fun _ => fun
  | [d1, d2] => { results := [.lit (.bool false)], args := [d1, d2] }
  | _ => none }
def FnStandardFactorsWrongFalsely : Prop := fnStandardFactorsRow.holds Try.pinned (OpenSpec.ofChange fnStandardFactorsWrong)

/-- 'laws.FnExactDominatesParted': WHATEVER THE INPUT: true; the input reads as it did. -/
def fnExactDominatesPartedSpec : ChangeSpec := { name := "fnExactDominatesParted", fn := fun _ => fun
  | [d1, d2] => { results := [.lit (.bool true)], args := [d1, d2] }
  | _ => none }
def fnExactDominatesPartedRow : OpenClaim := { program := "ytaaoeaojimjikaa", sum := "b03fd370ef68a0612a03586aa852f2d66ab633d8c9db5e506c0d41358eaac193", func := "loop.example/g01104/laws.FnExactDominatesParted", spec := "fnExactDominatesParted", apart := false }
def FnExactDominatesPartedSaid : Prop := fnExactDominatesPartedRow.holds Try.pinned (OpenSpec.ofChange fnExactDominatesPartedSpec)

/-- ITS FALSE NEIGHBOUR: 'it returns false'. Refute it at one input. -/
def fnExactDominatesPartedWrong : ChangeSpec := { name := "fnExactDominatesParted", fn := fun _ => fun
  | [d1, d2] => { results := [.lit (.bool false)], args := [d1, d2] }
  | _ => none }
def FnExactDominatesPartedWrongFalsely : Prop := fnExactDominatesPartedRow.holds Try.pinned (OpenSpec.ofChange fnExactDominatesPartedWrong)

/-- 'laws.FnExactHasCrossing': WHATEVER THE INPUT: true; the input reads as it did. -/
def fnExactHasCrossingSpec : ChangeSpec := { name := "fnExactHasCrossing", fn := fun _ => fun
  | [d] => { results := [.lit (.bool true)], args := [d] }
  | _ => none }
def fnExactHasCrossingRow : OpenClaim := { program := "ytaaoeaojimjikaa", sum := "b03fd370ef68a0612a03586aa852f2d66ab633d8c9db5e506c0d41358eaac193", func := "loop.example/g01104/laws.FnExactHasCrossing", spec := "fnExactHasCrossing", apart := false }
def FnExactHasCrossingSaid : Prop := fnExactHasCrossingRow.holds Try.pinned (OpenSpec.ofChange fnExactHasCrossingSpec)

/-- ITS FALSE NEIGHBOUR: 'it returns false'. Refute it at one input. -/
def fnExactHasCrossingWrong : ChangeSpec := { name := "fnExactHasCrossing", fn := fun _ => fun
  | [d] => { results := [.lit (.bool false)], args := [d] }
  | _ => none }
def FnExactHasCrossingWrongFalsely : Prop := fnExactHasCrossingRow.holds Try.pinned (OpenSpec.ofChange fnExactHasCrossingWrong)

/-- 'laws.FnExactGrowthWith': WHATEVER THE INPUT: true; the input reads as it did. -/
def fnExactGrowthWithSpec : ChangeSpec := { name := "fnExactGrowthWith", fn := fun _ => fun
  | [d1, d2] => { results := [.lit (.bool true)], args := [d1, d2] }
  | _ => none }
def fnExactGrowthWithRow : OpenClaim := { program := "ytaaoeaojimjikaa", sum := "b03fd370ef68a0612a03586aa852f2d66ab633d8c9db5e506c0d41358eaac193", func := "loop.example/g01104/laws.FnExactGrowthWith", spec := "fnExactGrowthWith", recurses := true, apart := false }
def FnExactGrowthWithSaid : Prop := fnExactGrowthWithRow.holds Try.pinned (OpenSpec.ofChange fnExactGrowthWithSpec)

/-- ITS FALSE NEIGHBOUR: 'it returns false'. Refute it at one input. -/
def fnExactGrowthWithWrong : ChangeSpec := { name := "fnExactGrowthWith", fn := fun _ => fun
  | [d1, d2] => { results := [.lit (.bool false)], args := [d1, d2] }
  | _ => none }
def FnExactGrowthWithWrongFalsely : Prop := fnExactGrowthWithRow.holds Try.pinned (OpenSpec.ofChange fnExactGrowthWithWrong)

/-- 'laws.FnExactRankGrowth': WHATEVER THE INPUT: true; the input reads as it did. -/
def fnExactRankGrowthSpec : ChangeSpec := { name := "fnExactRankGrowth", fn := fun _ => fun
  | [d] => { results := [.lit (.bool true)], args := [d] }
  | _ => none }
def fnExactRankGrowthRow : OpenClaim := { program := "ytaaoeaojimjikaa", sum := "b03fd370ef68a0612a03586aa852f2d66ab633d8c9db5e506c0d41358eaac193", func := "loop.example/g01104/laws.FnExactRankGrowth", spec := "fnExactRankGrowth", recurses := true, apart := false }
def FnExactRankGrowthSaid : Prop := fnExactRankGrowthRow.holds Try.pinned (OpenSpec.ofChange fnExactRankGrowthSpec)

/-- ITS FALSE NEIGHBOUR: 'it returns false'. Refute it at one input. -/
def fnExactRankGrowthWrong : ChangeSpec := { name := "fnExactRankGrowth", fn := fun _ => fun
  | [d] => { results := [.lit (.bool false)], args := [d] }
  | _ => none }
def FnExactRankGrowthWrongFalsely : Prop := fnExactRankGrowthRow.holds Try.pinned (OpenSpec.ofChange fnExactRankGrowthWrong)

/- THE SECOND FORM. 'bulk': how many values and letters a reading holds, each counted each time it is reached (what is shared counts as often as it is met; a slice's spare places count too). A statement '..UptoSaid' is the law's where the arguments, and the package variables that the reading takes, are together of bulk at most 1048576: NARROWER than '..Said'. Prove '..Said' where nothing that the law and all that it calls make is longer than what came in: it says more and counts as full. Else prove '..UptoSaid'. A law counts once. -/
mutual
def uptoBulk {H : Type} : DataW H → Nat
  | .lit (.string bytes) => bytes.length + 1
  | .lit _ => 1
  | .nil => 1
  | .ptr d => uptoBulk d + 1
  | .slice elems spare => uptoBulkAll elems + uptoBulkAll spare + 1
  | .agg parts => uptoBulkAll parts + 1
  | .iface _ d => uptoBulk d + 1
  | .map entries => uptoBulkEntries entries + 1
  | .held _ => 1
def uptoBulkAll {H : Type} : List (DataW H) → Nat
  | [] => 0
  | d :: r => uptoBulk d + uptoBulkAll r
def uptoBulkEntries {H : Type} : List (Lit × DataW H) → Nat
  | [] => 0
  | x :: r => uptoBulkEntry x + uptoBulkEntries r
def uptoBulkEntry {H : Type} : Lit × DataW H → Nat
  | (.string bytes, d) => bytes.length + uptoBulk d + 1
  | (_, d) => uptoBulk d + 1
 end
def uptoSmall : (H : Type) → List (DataW H) → Bool := fun _ ds => decide (uptoBulkAll ds ≤ 1048576)
def OpenSpec.upto (s : _root_.Go.ChangeSpec) : _root_.Go.OpenSpec := { _root_.Go.OpenSpec.ofChange s with cond := some uptoSmall }

/-- 'laws.FnLyndonFactorsDoNotRise', WHERE WHAT IT READS IS OF BULK AT MOST 1048576: true; the input reads as it did. -/
def fnLyndonFactorsDoNotRiseUptoRow : OpenClaim := { program := "ytaaoeaojimjikaa", sum := "b03fd370ef68a0612a03586aa852f2d66ab633d8c9db5e506c0d41358eaac193", func := "loop.example/g01104/laws.FnLyndonFactorsDoNotRise", spec := "fnLyndonFactorsDoNotRise", apart := false, narrowed := true }
def FnLyndonFactorsDoNotRiseUptoSaid : Prop := fnLyndonFactorsDoNotRiseUptoRow.holds Try.pinned (OpenSpec.upto fnLyndonFactorsDoNotRiseSpec)

/-- 'laws.FnExactCountLyndon', WHERE WHAT IT READS IS OF BULK AT MOST 1048576: true; the input reads as it did. -/
def fnExactCountLyndonUptoRow : OpenClaim := { program := "ytaaoeaojimjikaa", sum := "b03fd370ef68a0612a03586aa852f2d66ab633d8c9db5e506c0d41358eaac193", func := "loop.example/g01104/laws.FnExactCountLyndon", spec := "fnExactCountLyndon", recurses := true, apart := false, narrowed := true }
def FnExactCountLyndonUptoSaid : Prop := fnExactCountLyndonUptoRow.holds Try.pinned (OpenSpec.upto fnExactCountLyndonSpec)

/-- 'laws.FnExactIsParted', WHERE WHAT IT READS IS OF BULK AT MOST 1048576: true; the input reads as it did. -/
def fnExactIsPartedUptoRow : OpenClaim := { program := "ytaaoeaojimjikaa", sum := "b03fd370ef68a0612a03586aa852f2d66ab633d8c9db5e506c0d41358eaac193", func := "loop.example/g01104/laws.FnExactIsParted", spec := "fnExactIsParted", apart := false, narrowed := true }
def FnExactIsPartedUptoSaid : Prop := fnExactIsPartedUptoRow.holds Try.pinned (OpenSpec.upto fnExactIsPartedSpec)

/-- 'laws.FnExactCountNecklaces', WHERE WHAT IT READS IS OF BULK AT MOST 1048576: true; the input reads as it did. -/
def fnExactCountNecklacesUptoRow : OpenClaim := { program := "ytaaoeaojimjikaa", sum := "b03fd370ef68a0612a03586aa852f2d66ab633d8c9db5e506c0d41358eaac193", func := "loop.example/g01104/laws.FnExactCountNecklaces", spec := "fnExactCountNecklaces", recurses := true, apart := false, narrowed := true }
def FnExactCountNecklacesUptoSaid : Prop := fnExactCountNecklacesUptoRow.holds Try.pinned (OpenSpec.upto fnExactCountNecklacesSpec)

/-- 'laws.FnExactWordText', WHERE WHAT IT READS IS OF BULK AT MOST 1048576: true; the input reads as it did. -/
def fnExactWordTextUptoRow : OpenClaim := { program := "ytaaoeaojimjikaa", sum := "b03fd370ef68a0612a03586aa852f2d66ab633d8c9db5e506c0d41358eaac193", func := "loop.example/g01104/laws.FnExactWordText", spec := "fnExactWordText", apart := false, narrowed := true }
def FnExactWordTextUptoSaid : Prop := fnExactWordTextUptoRow.holds Try.pinned (OpenSpec.upto fnExactWordTextSpec)

/-- 'laws.FnExactParseWord', WHERE WHAT IT READS IS OF BULK AT MOST 1048576: true; the input reads as it did. -/
def fnExactParseWordUptoRow : OpenClaim := { program := "ytaaoeaojimjikaa", sum := "b03fd370ef68a0612a03586aa852f2d66ab633d8c9db5e506c0d41358eaac193", func := "loop.example/g01104/laws.FnExactParseWord", spec := "fnExactParseWord", apart := false, narrowed := true }
def FnExactParseWordUptoSaid : Prop := fnExactParseWordUptoRow.holds Try.pinned (OpenSpec.upto fnExactParseWordSpec)

/-- 'laws.FnExactCountBracelets', WHERE WHAT IT READS IS OF BULK AT MOST 1048576: true; the input reads as it did. -/
def fnExactCountBraceletsUptoRow : OpenClaim := { program := "ytaaoeaojimjikaa", sum := "b03fd370ef68a0612a03586aa852f2d66ab633d8c9db5e506c0d41358eaac193", func := "loop.example/g01104/laws.FnExactCountBracelets", spec := "fnExactCountBracelets", recurses := true, apart := false, narrowed := true }
def FnExactCountBraceletsUptoSaid : Prop := fnExactCountBraceletsUptoRow.holds Try.pinned (OpenSpec.upto fnExactCountBraceletsSpec)

/-- 'laws.FnStandardFactors', WHERE WHAT IT READS IS OF BULK AT MOST 1048576: true; the input reads as it did. -/
def fnStandardFactorsUptoRow : OpenClaim := { program := "ytaaoeaojimjikaa", sum := "b03fd370ef68a0612a03586aa852f2d66ab633d8c9db5e506c0d41358eaac193", func := "loop.example/g01104/laws.FnStandardFactors", spec := "fnStandardFactors", recurses := true, apart := false, narrowed := true }
def FnStandardFactorsUptoSaid : Prop := fnStandardFactorsUptoRow.holds Try.pinned (OpenSpec.upto fnStandardFactorsSpec)

/-- 'laws.FnExactDominatesParted', WHERE WHAT IT READS IS OF BULK AT MOST 1048576: true; the input reads as it did. -/
def fnExactDominatesPartedUptoRow : OpenClaim := { program := "ytaaoeaojimjikaa", sum := "b03fd370ef68a0612a03586aa852f2d66ab633d8c9db5e506c0d41358eaac193", func := "loop.example/g01104/laws.FnExactDominatesParted", spec := "fnExactDominatesParted", apart := false, narrowed := true }
def FnExactDominatesPartedUptoSaid : Prop := fnExactDominatesPartedUptoRow.holds Try.pinned (OpenSpec.upto fnExactDominatesPartedSpec)

/-- 'laws.FnExactHasCrossing', WHERE WHAT IT READS IS OF BULK AT MOST 1048576: true; the input reads as it did. -/
def fnExactHasCrossingUptoRow : OpenClaim := { program := "ytaaoeaojimjikaa", sum := "b03fd370ef68a0612a03586aa852f2d66ab633d8c9db5e506c0d41358eaac193", func := "loop.example/g01104/laws.FnExactHasCrossing", spec := "fnExactHasCrossing", apart := false, narrowed := true }
def FnExactHasCrossingUptoSaid : Prop := fnExactHasCrossingUptoRow.holds Try.pinned (OpenSpec.upto fnExactHasCrossingSpec)

/-- 'laws.FnExactGrowthWith', WHERE WHAT IT READS IS OF BULK AT MOST 1048576: true; the input reads as it did. -/
def fnExactGrowthWithUptoRow : OpenClaim := { program := "ytaaoeaojimjikaa", sum := "b03fd370ef68a0612a03586aa852f2d66ab633d8c9db5e506c0d41358eaac193", func := "loop.example/g01104/laws.FnExactGrowthWith", spec := "fnExactGrowthWith", recurses := true, apart := false, narrowed := true }
def FnExactGrowthWithUptoSaid : Prop := fnExactGrowthWithUptoRow.holds Try.pinned (OpenSpec.upto fnExactGrowthWithSpec)

/-- 'laws.FnExactRankGrowth', WHERE WHAT IT READS IS OF BULK AT MOST 1048576: true; the input reads as it did. -/
def fnExactRankGrowthUptoRow : OpenClaim := { program := "ytaaoeaojimjikaa", sum := "b03fd370ef68a0612a03586aa852f2d66ab633d8c9db5e506c0d41358eaac193", func := "loop.example/g01104/laws.FnExactRankGrowth", spec := "fnExactRankGrowth", recurses := true, apart := false, narrowed := true }
def FnExactRankGrowthUptoSaid : Prop := fnExactRankGrowthUptoRow.holds Try.pinned (OpenSpec.upto fnExactRankGrowthSpec)

end Rows
end Go.Proofs.Ytaaoeaojimjikaa
