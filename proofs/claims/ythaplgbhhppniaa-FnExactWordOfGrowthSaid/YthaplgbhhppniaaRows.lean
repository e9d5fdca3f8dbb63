/-
  No cell of these rows narrows 'for every input' (looked for: loops, veiled, ifaces, maps, wideKeys, modest, calm, conditions, laid).
  DERIVED. THE GIVEN ROWS OF THIS SEAT. 12 by the template 'for every input the law returns true; each argument reads behind the call as it read before'; 0 by the template 'total and deterministic' (their statements: YthaplgbhhppniaaTotals.lean).
  GIVEN WITH THE SEED: the statements are not yours to turn. If you find one false, say at which input.
  Laid BY PROGRAM, IN A SANDBOX (cutbox-rows.mjs): the forced cells as the released guide's own fill.sh prints them over the translation 1aa2aa37df147913… (all of the seat's roots in one cut). By AI agents, Wed Nov 11 2026. No macro, syntax, notation, axiom, sorry.
-/
import Derived.Test.YthaplgbhhppniaaChecked
import GoSem.Claim
import GoSem.ClaimJoined
import GoSem.ClaimMapViews
import Derived.JoinedTies
import Derived.KernelRfl
namespace Go.Proofs.Ythaplgbhhppniaa
/- THE CELL 'sum', in the pinned program and in every row, IS THE sha256 OF THE DUMP (.gsa) THAT YthaplgbhhppniaaProg.lean LOADS. Nothing in Lean hashes anything: it is a label: what it is worth is what the hold of that sum in a sandbox is worth. -/
noncomputable def Try.pinned : Pinned := { name := "ythaplgbhhppniaa", sum := "1aa2aa37df147913e9b4e28b6e5c33ab38fd2a3c9d0df111e37ebe800a5f407c", checked := Try.checked }
namespace Rows
def none {H : Type} : Left H := { results := [], args := [] }

/-- 'laws.FnExactRootLength': WHATEVER THE INPUT: true; the input reads as it did. -/
def fnExactRootLengthSpec : ChangeSpec := { name := "fnExactRootLength", fn := fun _ => fun
  | [d] => { results := [.lit (.bool true)], args := [d] }
  | _ => none }
def fnExactRootLengthRow : OpenClaim := { program := "ythaplgbhhppniaa", sum := "1aa2aa37df147913e9b4e28b6e5c33ab38fd2a3c9d0df111e37ebe800a5f407c", func := "loop.example/g01104/laws.FnExactRootLength", spec := "fnExactRootLength", apart := false }
def FnExactRootLengthSaid : Prop := fnExactRootLengthRow.holds Try.pinned (OpenSpec.ofChange fnExactRootLengthSpec)

/-- ITS FALSE NEIGHBOUR: 'it returns false'. Refute it at one input. -/
def fnExactRootLengthWrong : ChangeSpec := { name := "fnExactRootLength", fn := fun _ => fun
  | [d] => { results := [.lit (.bool false)], args := [d] }
  | _ => none }
def FnExactRootLengthWrongFalsely : Prop := fnExactRootLengthRow.holds Try.pinned (OpenSpec.ofChange fnExactRootLengthWrong)

/-- 'laws.FnExactPartedOf': WHATEVER THE INPUT: true; the input reads as it did. -/
def fnExactPartedOfSpec : ChangeSpec := { name := "fnExactPartedOf", fn := fun _ => fun
  | [d] => { results := [.lit (.bool true)], args := [d] }
  | _ => none }
def fnExactPartedOfRow : OpenClaim := { program := "ythaplgbhhppniaa", sum := "1aa2aa37df147913e9b4e28b6e5c33ab38fd2a3c9d0df111e37ebe800a5f407c", func := "loop.example/g01104/laws.FnExactPartedOf", spec := "fnExactPartedOf", recurses := true, apart := false }
def FnExactPartedOfSaid : Prop := fnExactPartedOfRow.holds Try.pinned (OpenSpec.ofChange fnExactPartedOfSpec)

/-- ITS FALSE NEIGHBOUR: 'it returns false'. Refute it at one input. -/
def fnExactPartedOfWrong : ChangeSpec := { name := "fnExactPartedOf", fn := fun _ => fun
  | [d] => { results := [.lit (.bool false)], args := [d] }
  | _ => none }
def FnExactPartedOfWrongFalsely : Prop := fnExactPartedOfRow.holds Try.pinned (OpenSpec.ofChange fnExactPartedOfWrong)

/-- 'laws.FnExactGrayGrowths': WHATEVER THE INPUT: true; the input reads as it did. -/
def fnExactGrayGrowthsSpec : ChangeSpec := { name := "fnExactGrayGrowths", fn := fun _ => fun
  | [d] => { results := [.lit (.bool true)], args := [d] }
  | _ => none }
def fnExactGrayGrowthsRow : OpenClaim := { program := "ythaplgbhhppniaa", sum := "1aa2aa37df147913e9b4e28b6e5c33ab38fd2a3c9d0df111e37ebe800a5f407c", func := "loop.example/g01104/laws.FnExactGrayGrowths", spec := "fnExactGrayGrowths", recurses := true, apart := false }
def FnExactGrayGrowthsSaid : Prop := fnExactGrayGrowthsRow.holds Try.pinned (OpenSpec.ofChange fnExactGrayGrowthsSpec)

/-- ITS FALSE NEIGHBOUR: 'it returns false'. Refute it at one input. -/
def fnExactGrayGrowthsWrong : ChangeSpec := { name := "fnExactGrayGrowths", fn := fun _ => fun
  | [d] => { results := [.lit (.bool false)], args := [d] }
  | _ => none }
def FnExactGrayGrowthsWrongFalsely : Prop := fnExactGrayGrowthsRow.holds Try.pinned (OpenSpec.ofChange fnExactGrayGrowthsWrong)

/-- 'laws.FnExactGrayBalanced': WHATEVER THE INPUT: true; the input reads as it did. -/
def fnExactGrayBalancedSpec : ChangeSpec := { name := "fnExactGrayBalanced", fn := fun _ => fun
  | [d] => { results := [.lit (.bool true)], args := [d] }
  | _ => none }
def fnExactGrayBalancedRow : OpenClaim := { program := "ythaplgbhhppniaa", sum := "1aa2aa37df147913e9b4e28b6e5c33ab38fd2a3c9d0df111e37ebe800a5f407c", func := "loop.example/g01104/laws.FnExactGrayBalanced", spec := "fnExactGrayBalanced", recurses := true, apart := false }
def FnExactGrayBalancedSaid : Prop := fnExactGrayBalancedRow.holds Try.pinned (OpenSpec.ofChange fnExactGrayBalancedSpec)

/-- ITS FALSE NEIGHBOUR: 'it returns false'. Refute it at one input. -/
def fnExactGrayBalancedWrong : ChangeSpec := { name := "fnExactGrayBalanced", fn := fun _ => fun
  | [d] => { results := [.lit (.bool false)], args := [d] }
  | _ => none }
def FnExactGrayBalancedWrongFalsely : Prop := fnExactGrayBalancedRow.holds Try.pinned (OpenSpec.ofChange fnExactGrayBalancedWrong)

/-- 'laws.FnExactWordOfGrowth': WHATEVER THE INPUT: true; the input reads as it did. -/
def fnExactWordOfGrowthSpec : ChangeSpec := { name := "fnExactWordOfGrowth", fn := fun _ => fun
  | [d] => { results := [.lit (.bool true)], args := [d] }
  | _ => none }
def fnExactWordOfGrowthRow : OpenClaim := { program := "ythaplgbhhppniaa", sum := "1aa2aa37df147913e9b4e28b6e5c33ab38fd2a3c9d0df111e37ebe800a5f407c", func := "loop.example/g01104/laws.FnExactWordOfGrowth", spec := "fnExactWordOfGrowth", apart := false }
def FnExactWordOfGrowthSaid : Prop := fnExactWordOfGrowthRow.holds Try.pinned (OpenSpec.ofChange fnExactWordOfGrowthSpec)

/-- ITS FALSE NEIGHBOUR: 'it returns false'. Refute it at one input. -/
def fnExactWordOfGrowthWrong : ChangeSpec := { name := "fnExactWordOfGrowth", fn := fun _ => fun
  | [d] => { results := [.lit (.bool false)], args := [d] }
  | _ => none }
def FnExactWordOfGrowthWrongFalsely : Prop := fnExactWordOfGrowthRow.holds Try.pinned (OpenSpec.ofChange fnExactWordOfGrowthWrong)

/-- 'laws.FnGrowthRanks': WHATEVER THE INPUT: true; the input reads as it did. -/
def fnGrowthRanksSpec : ChangeSpec := { name := "fnGrowthRanks", fn := fun _ => fun
  | [d1, d2] => { results := [.lit (.bool true)], args := [d1, d2] }
  | _ => none }
def fnGrowthRanksRow : OpenClaim := { program := "ythaplgbhhppniaa", sum := "1aa2aa37df147913e9b4e28b6e5c33ab38fd2a3c9d0df111e37ebe800a5f407c", func := "loop.example/g01104/laws.FnGrowthRanks", spec := "fnGrowthRanks", recurses := true, apart := false }
def FnGrowthRanksSaid : Prop := fnGrowthRanksRow.holds Try.pinned (OpenSpec.ofChange fnGrowthRanksSpec)

/-- ITS FALSE NEIGHBOUR: 'it returns false'. Refute it at one input. -/
def fnGrowthRanksWrong : ChangeSpec := { name := "fnGrowthRanks", fn := fun _ => fun
  | [d1, d2] => { results := [.lit (.bool false)], args := [d1, d2] }
  | _ => none }
def FnGrowthRanksWrongFalsely : Prop := fnGrowthRanksRow.holds Try.pinned (OpenSpec.ofChange fnGrowthRanksWrong)

/-- 'laws.FnExactIsNecklace': WHATEVER THE INPUT: true; the input reads as it did. -/
def fnExactIsNecklaceSpec : ChangeSpec := { name := "fnExactIsNecklace", fn := fun _ => fun
  | [d] => { results := [.lit (.bool true)], args := [d] }
  | _ => none }
def fnExactIsNecklaceRow : OpenClaim := { program := "ythaplgbhhppniaa", sum := "1aa2aa37df147913e9b4e28b6e5c33ab38fd2a3c9d0df111e37ebe800a5f407c", func := "loop.example/g01104/laws.FnExactIsNecklace", spec := "fnExactIsNecklace", apart := false }
def FnExactIsNecklaceSaid : Prop := fnExactIsNecklaceRow.holds Try.pinned (OpenSpec.ofChange fnExactIsNecklaceSpec)

/-- ITS FALSE NEIGHBOUR: 'it returns false'. Refute it at one input. -/
def fnExactIsNecklaceWrong : ChangeSpec := { name := "fnExactIsNecklace", fn := fun _ => fun
  | [d] => { results := [.lit (.bool false)], args := [d] }
  | _ => none }
def FnExactIsNecklaceWrongFalsely : Prop := fnExactIsNecklaceRow.holds Try.pinned (OpenSpec.ofChange fnExactIsNecklaceWrong)

/-- 'laws.FnExactLeastRotation': WHATEVER THE INPUT: true; the input reads as it did. -/
def fnExactLeastRotationSpec : ChangeSpec := { name := "fnExactLeastRotation", fn := fun _ => fun
  | [d] => { results := [.lit (.bool true)], args := [d] }
  | _ => none }
def fnExactLeastRotationRow : OpenClaim := { program := "ythaplgbhhppniaa", sum := "1aa2aa37df147913e9b4e28b6e5c33ab38fd2a3c9d0df111e37ebe800a5f407c", func := "loop.example/g01104/laws.FnExactLeastRotation", spec := "fnExactLeastRotation", apart := false }
def FnExactLeastRotationSaid : Prop := fnExactLeastRotationRow.holds Try.pinned (OpenSpec.ofChange fnExactLeastRotationSpec)

/-- ITS FALSE NEIGHBOUR: 'it returns false'. Refute it at one input. -/
def fnExactLeastRotationWrong : ChangeSpec := { name := "fnExactLeastRotation", fn := fun _ => fun
  | [d] => { results := [.lit (.bool false)], args := [d] }
  | _ => none }
def FnExactLeastRotationWrongFalsely : Prop := fnExactLeastRotationRow.holds Try.pinned (OpenSpec.ofChange fnExactLeastRotationWrong)

/-- 'laws.FnGrayGrowths': WHATEVER THE INPUT: true; the input reads as it did. -/
def fnGrayGrowthsSpec : ChangeSpec := { name := "fnGrayGrowths", fn := fun _ => fun
  | [d1, d2] => { results := [.lit (.bool true)], args := [d1, d2] }
  | _ => none }
def fnGrayGrowthsRow : OpenClaim := { program := "ythaplgbhhppniaa", sum := "1aa2aa37df147913e9b4e28b6e5c33ab38fd2a3c9d0df111e37ebe800a5f407c", func := "loop.example/g01104/laws.FnGrayGrowths", spec := "fnGrayGrowths", recurses := true, apart := false }
def FnGrayGrowthsSaid : Prop := fnGrayGrowthsRow.holds Try.pinned (OpenSpec.ofChange fnGrayGrowthsSpec)

/-- ITS FALSE NEIGHBOUR: 'it returns false'. Refute it at one input. -/
def fnGrayGrowthsWrong : ChangeSpec := { name := "fnGrayGrowths", fn := fun _ => fun
  | [d1, d2] => { results := [.lit (.bool false)], args := [d1, d2] }
  | _ => none }
def FnGrayGrowthsWrongFalsely : Prop := fnGrayGrowthsRow.holds Try.pinned (OpenSpec.ofChange fnGrayGrowthsWrong)

/-- 'laws.FnExactNecklacesOf': WHATEVER THE INPUT: true; the input reads as it did. -/
def fnExactNecklacesOfSpec : ChangeSpec := { name := "fnExactNecklacesOf", fn := fun _ => fun
  | [d1, d2] => { results := [.lit (.bool true)], args := [d1, d2] }
  | _ => none }
def fnExactNecklacesOfRow : OpenClaim := { program := "ythaplgbhhppniaa", sum := "1aa2aa37df147913e9b4e28b6e5c33ab38fd2a3c9d0df111e37ebe800a5f407c", func := "loop.example/g01104/laws.FnExactNecklacesOf", spec := "fnExactNecklacesOf", unfollowed := true, recurses := true, apart := false }
def FnExactNecklacesOfSaid : Prop := fnExactNecklacesOfRow.holds Try.pinned (OpenSpec.ofChange fnExactNecklacesOfSpec)

/-- ITS FALSE NEIGHBOUR: 'it returns false'. Refute it at one input. -/
def fnExactNecklacesOfWrong : ChangeSpec := { name := "fnExactNecklacesOf", fn := fun _ => fun
  | [d1, d2] => { results := [.lit (.bool false)], args := [d1, d2] }
  | _ => none }
def FnExactNecklacesOfWrongFalsely : Prop := fnExactNecklacesOfRow.holds Try.pinned (OpenSpec.ofChange fnExactNecklacesOfWrong)

/-- 'laws.FnExactIsBracelet': WHATEVER THE INPUT: true; the input reads as it did. -/
def fnExactIsBraceletSpec : ChangeSpec := { name := "fnExactIsBracelet", fn := fun _ => fun
  | [d] => { results := [.lit (.bool true)], args := [d] }
  | _ => none }
def fnExactIsBraceletRow : OpenClaim := { program := "ythaplgbhhppniaa", sum := "1aa2aa37df147913e9b4e28b6e5c33ab38fd2a3c9d0df111e37ebe800a5f407c", func := "loop.example/g01104/laws.FnExactIsBracelet", spec := "fnExactIsBracelet", apart := false }
def FnExactIsBraceletSaid : Prop := fnExactIsBraceletRow.holds Try.pinned (OpenSpec.ofChange fnExactIsBraceletSpec)

/-- ITS FALSE NEIGHBOUR: 'it returns false'. Refute it at one input. -/
def fnExactIsBraceletWrong : ChangeSpec := { name := "fnExactIsBracelet", fn := fun _ => fun
  | [d] => { results := [.lit (.bool false)], args := [d] }
  | _ => none }
def FnExactIsBraceletWrongFalsely : Prop := fnExactIsBraceletRow.holds Try.pinned (OpenSpec.ofChange fnExactIsBraceletWrong)

/-- 'laws.FnPartedNumbers': WHATEVER THE INPUT: true; the input reads as it did. -/
def fnPartedNumbersSpec : ChangeSpec := { name := "fnPartedNumbers", fn := fun _ => fun
  | [d1, d2] => { results := [.lit (.bool true)], args := [d1, d2] }
  | _ => none }
def fnPartedNumbersRow : OpenClaim := { program := "ythaplgbhhppniaa", sum := "1aa2aa37df147913e9b4e28b6e5c33ab38fd2a3c9d0df111e37ebe800a5f407c", func := "loop.example/g01104/laws.FnPartedNumbers", spec := "fnPartedNumbers", recurses := true, apart := false }
def FnPartedNumbersSaid : Prop := fnPartedNumbersRow.holds Try.pinned (OpenSpec.ofChange fnPartedNumbersSpec)

/-- ITS FALSE NEIGHBOUR: 'it returns false'. Refute it at one input. -/
def fnPartedNumbersWrong : ChangeSpec := { name := "fnPartedNumbers", fn := fun _ => fun
  | [d1, d2] => { results := [.lit (.bool false)], args := [d1, d2] }
  | _ => none }
def FnPartedNumbersWrongFalsely : Prop := fnPartedNumbersRow.holds Try.pinned (OpenSpec.ofChange fnPartedNumbersWrong)

/- THE SECOND FORM. 'bulk': how many values and letters a reading holds, each counted each time it is reached (what is shared counts as often as it is met; a slice's spare places count too). A statement '..UptoSaid' is the law's where the arguments, and the package variables that the reading takes, are together of bulk at most 1048576: NARROWER than '..Said'. Prove '..Said' where nothing that the law and all that it calls make is longer than what came in: it says more and counts as full. Else prove '..UptoSaid'. A law counts once. -/
mutual
def uptoBulk {H : Type} : DataW H → Nat
  | .lit (.string bytes) => bytes.length + 1
  | .lit _ => 1
  | .nil => 1
  | .ptr d => uptoBulk d + 1
  | .slice elems spare => uptoBulkAll elems + uptoBulkAll spare + 1
  | .agg parts => uptoBulkAll parts + 1
  | .iface _ d => uptoBulk d + 1
  | .map entries => uptoBulkEntries entries + 1
  | .held _ => 1
def uptoBulkAll {H : Type} : List (DataW H) → Nat
  | [] => 0
  | d :: r => uptoBulk d + uptoBulkAll r
def uptoBulkEntries {H : Type} : List (Lit × DataW H) → Nat
  | [] => 0
  | x :: r => uptoBulkEntry x + uptoBulkEntries r
def uptoBulkEntry {H : Type} : Lit × DataW H → Nat
  | (.string bytes, d) => bytes.length + uptoBulk d + 1
  | (_, d) => uptoBulk d + 1
 end
def uptoSmall : (H : Type) → List (DataW H) → Bool := fun _ ds => decide (uptoBulkAll ds ≤ 1048576)
def OpenSpec.upto (s : _root_.Go.ChangeSpec) : _root_.Go.OpenSpec := { _root_.Go.OpenSpec.ofChange s with cond := some uptoSmall }

/-- 'laws.FnExactRootLength', WHERE WHAT IT READS IS OF BULK AT MOST 1048576: true; the input reads as it did. -/
def fnExactRootLengthUptoRow : OpenClaim := { program := "ythaplgbhhppniaa", sum := "1aa2aa37df147913e9b4e28b6e5c33ab38fd2a3c9d0df111e37ebe800a5f407c", func := "loop.example/g01104/laws.FnExactRootLength", spec := "fnExactRootLength", apart := false, narrowed := true }
def FnExactRootLengthUptoSaid : Prop := fnExactRootLengthUptoRow.holds Try.pinned (OpenSpec.upto fnExactRootLengthSpec)

/-- 'laws.FnExactPartedOf', WHERE WHAT IT READS IS OF BULK AT MOST 1048576: true; the input reads as it did. -/
def fnExactPartedOfUptoRow : OpenClaim := { program := "ythaplgbhhppniaa", sum := "1aa2aa37df147913e9b4e28b6e5c33ab38fd2a3c9d0df111e37ebe800a5f407c", func := "loop.example/g01104/laws.FnExactPartedOf", spec := "fnExactPartedOf", recurses := true, apart := false, narrowed := true }
def FnExactPartedOfUptoSaid : Prop := fnExactPartedOfUptoRow.holds Try.pinned (OpenSpec.upto fnExactPartedOfSpec)

/-- 'laws.FnExactGrayGrowths', WHERE WHAT IT READS IS OF BULK AT MOST 1048576: true; the input reads as it did. -/
def fnExactGrayGrowthsUptoRow : OpenClaim := { program := "ythaplgbhhppniaa", sum := "1aa2aa37df147913e9b4e28b6e5c33ab38fd2a3c9d0df111e37ebe800a5f407c", func := "loop.example/g01104/laws.FnExactGrayGrowths", spec := "fnExactGrayGrowths", recurses := true, apart := false, narrowed := true }
def FnExactGrayGrowthsUptoSaid : Prop := fnExactGrayGrowthsUptoRow.holds Try.pinned (OpenSpec.upto fnExactGrayGrowthsSpec)

/-- 'laws.FnExactGrayBalanced', WHERE WHAT IT READS IS OF BULK AT MOST 1048576: true; the input reads as it did. -/
def fnExactGrayBalancedUptoRow : OpenClaim := { program := "ythaplgbhhppniaa", sum := "1aa2aa37df147913e9b4e28b6e5c33ab38fd2a3c9d0df111e37ebe800a5f407c", func := "loop.example/g01104/laws.FnExactGrayBalanced", spec := "fnExactGrayBalanced", recurses := true, apart := false, narrowed := true }
def FnExactGrayBalancedUptoSaid : Prop := fnExactGrayBalancedUptoRow.holds Try.pinned (OpenSpec.upto fnExactGrayBalancedSpec)

/-- 'laws.FnExactWordOfGrowth', WHERE WHAT IT READS IS OF BULK AT MOST 1048576: true; the input reads as it did. -/
def fnExactWordOfGrowthUptoRow : OpenClaim := { program := "ythaplgbhhppniaa", sum := "1aa2aa37df147913e9b4e28b6e5c33ab38fd2a3c9d0df111e37ebe800a5f407c", func := "loop.example/g01104/laws.FnExactWordOfGrowth", spec := "fnExactWordOfGrowth", apart := false, narrowed := true }
def FnExactWordOfGrowthUptoSaid : Prop := fnExactWordOfGrowthUptoRow.holds Try.pinned (OpenSpec.upto fnExactWordOfGrowthSpec)

/-- 'laws.FnGrowthRanks', WHERE WHAT IT READS IS OF BULK AT MOST 1048576: true; the input reads as it did. -/
def fnGrowthRanksUptoRow : OpenClaim := { program := "ythaplgbhhppniaa", sum := "1aa2aa37df147913e9b4e28b6e5c33ab38fd2a3c9d0df111e37ebe800a5f407c", func := "loop.example/g01104/laws.FnGrowthRanks", spec := "fnGrowthRanks", recurses := true, apart := false, narrowed := true }
def FnGrowthRanksUptoSaid : Prop := fnGrowthRanksUptoRow.holds Try.pinned (OpenSpec.upto fnGrowthRanksSpec)

/-- 'laws.FnExactIsNecklace', WHERE WHAT IT READS IS OF BULK AT MOST 1048576: true; the input reads as it did. -/
def fnExactIsNecklaceUptoRow : OpenClaim := { program := "ythaplgbhhppniaa", sum := "1aa2aa37df147913e9b4e28b6e5c33ab38fd2a3c9d0df111e37ebe800a5f407c", func := "loop.example/g01104/laws.FnExactIsNecklace", spec := "fnExactIsNecklace", apart := false, narrowed := true }
def FnExactIsNecklaceUptoSaid : Prop := fnExactIsNecklaceUptoRow.holds Try.pinned (OpenSpec.upto fnExactIsNecklaceSpec)

/-- 'laws.FnExactLeastRotation', WHERE WHAT IT READS IS OF BULK AT MOST 1048576: true; the input reads as it did. -/
def fnExactLeastRotationUptoRow : OpenClaim := { program := "ythaplgbhhppniaa", sum := "1aa2aa37df147913e9b4e28b6e5c33ab38fd2a3c9d0df111e37ebe800a5f407c", func := "loop.example/g01104/laws.FnExactLeastRotation", spec := "fnExactLeastRotation", apart := false, narrowed := true }
def FnExactLeastRotationUptoSaid : Prop := fnExactLeastRotationUptoRow.holds Try.pinned (OpenSpec.upto fnExactLeastRotationSpec)

/-- 'laws.FnGrayGrowths', WHERE WHAT IT READS IS OF BULK AT MOST 1048576: true; the input reads as it did. -/
def fnGrayGrowthsUptoRow : OpenClaim := { program := "ythaplgbhhppniaa", sum := "1aa2aa37df147913e9b4e28b6e5c33ab38fd2a3c9d0df111e37ebe800a5f407c", func := "loop.example/g01104/laws.FnGrayGrowths", spec := "fnGrayGrowths", recurses := true, apart := false, narrowed := true }
def FnGrayGrowthsUptoSaid : Prop := fnGrayGrowthsUptoRow.holds Try.pinned (OpenSpec.upto fnGrayGrowthsSpec)

/-- 'laws.FnExactNecklacesOf', WHERE WHAT IT READS IS OF BULK AT MOST 1048576: true; the input reads as it did. -/
def fnExactNecklacesOfUptoRow : OpenClaim := { program := "ythaplgbhhppniaa", sum := "1aa2aa37df147913e9b4e28b6e5c33ab38fd2a3c9d0df111e37ebe800a5f407c", func := "loop.example/g01104/laws.FnExactNecklacesOf", spec := "fnExactNecklacesOf", unfollowed := true, recurses := true, apart := false, narrowed := true }
def FnExactNecklacesOfUptoSaid : Prop := fnExactNecklacesOfUptoRow.holds Try.pinned (OpenSpec.upto fnExactNecklacesOfSpec)

/-- 'laws.FnExactIsBracelet', WHERE WHAT IT READS IS OF BULK AT MOST 1048576: true; the input reads as it did. -/
def fnExactIsBraceletUptoRow : OpenClaim := { program := "ythaplgbhhppniaa", sum := "1aa2aa37df147913e9b4e28b6e5c33ab38fd2a3c9d0df111e37ebe800a5f407c", func := "loop.example/g01104/laws.FnExactIsBracelet", spec := "fnExactIsBracelet", apart := false, narrowed := true }
def FnExactIsBraceletUptoSaid : Prop := fnExactIsBraceletUptoRow.holds Try.pinned (OpenSpec.upto fnExactIsBraceletSpec)

/-- 'laws.FnPartedNumbers', WHERE WHAT IT READS IS OF BULK AT MOST 1048576: true; the input reads as it did. -/
def fnPartedNumbersUptoRow : OpenClaim := { program := "ythaplgbhhppniaa", sum := "1aa2aa37df147913e9b4e28b6e5c33ab38fd2a3c9d0df111e37ebe800a5f407c", func := "loop.example/g01104/laws.FnPartedNumbers", spec := "fnPartedNumbers", recurses := true, apart := false, narrowed := true }
def FnPartedNumbersUptoSaid : Prop := fnPartedNumbersUptoRow.holds Try.pinned (OpenSpec.upto fnPartedNumbersSpec)

end Rows
end Go.Proofs.Ythaplgbhhppniaa
