/-
  No cell of these rows narrows 'for every input' (looked for: loops, veiled, ifaces, maps, wideKeys, modest, calm, conditions, laid).
  DERIVED. THE GIVEN ROWS OF THIS SEAT. 5 by the template 'for every input the law returns true; each argument reads behind the call as it read before'; 0 by the template 'total and deterministic' (their statements: YtoledgkfohkfkaaTotals.lean).
  GIVEN WITH THE SEED: the statements are not yours to turn. If you find one false, say at which input.
  Laid BY PROGRAM, IN A SANDBOX (cutbox-rows.mjs): the forced cells as the released guide's own fill.sh prints them over the translation 6a31a7f989c3a3c2… (all of the seat's roots in one cut). By AI agents, Wed Nov 11 2026. No macro, syntax, notation, axiom, sorry.
-/
import Derived.Test.YtoledgkfohkfkaaChecked
import GoSem.Claim
import GoSem.ClaimJoined
import GoSem.ClaimMapViews
import Derived.JoinedTies
import Derived.KernelRfl
namespace Go.Proofs.Ytoledgkfohkfkaa
/- THE CELL 'sum', in the pinned program and in every row, IS THE sha256 OF THE DUMP (.gsa) THAT YtoledgkfohkfkaaProg.lean LOADS. Nothing in Lean hashes anything: it is a label: what it is worth is what the hold of that sum in a sandbox is worth. -/
noncomputable def Try.pinned : Pinned := { name := "ytoledgkfohkfkaa", sum := "6a31a7f989c3a3c2ef272fc957113d0049847b703e86ed94cded8de976f159ec", checked := Try.checked }
namespace Rows
def none {H : Type} : Left H := { results := [], args := [] }

/-- 'laws.FnBlocksAreGrowths': WHATEVER THE INPUT: true; the input reads as it did. -/
def fnBlocksAreGrowthsSpec : ChangeSpec := { name := "fnBlocksAreGrowths", fn := fun _ => fun
  | [d1, d2] => { results := [.lit (.bool true)], args := [d1, d2] }
  | _ => none }
def fnBlocksAreGrowthsRow : OpenClaim := { program := "ytoledgkfohkfkaa", sum := "6a31a7f989c3a3c2ef272fc957113d0049847b703e86ed94cded8de976f159ec", func := "loop.example/g01104/laws.FnBlocksAreGrowths", spec := "fnBlocksAreGrowths", unfollowed := true, recurses := true, apart := false }
def FnBlocksAreGrowthsSaid : Prop := fnBlocksAreGrowthsRow.holds Try.pinned (OpenSpec.ofChange fnBlocksAreGrowthsSpec)

/-- ITS FALSE NEIGHBOUR: 'it returns false'. Refute it at one input. -/
def fnBlocksAreGrowthsWrong : ChangeSpec := { name := "fnBlocksAreGrowths", fn := fun _ => fun
  | [d1, d2] => { results := [.lit (.bool false)], args := [d1, d2] }
  | _ => none }
def FnBlocksAreGrowthsWrongFalsely : Prop := fnBlocksAreGrowthsRow.holds Try.pinned (OpenSpec.ofChange fnBlocksAreGrowthsWrong)

/-- 'laws.FnExactLyndonUpTo': WHATEVER THE INPUT: true; the input reads as it did. -/
def fnExactLyndonUpToSpec : ChangeSpec := { name := "fnExactLyndonUpTo", fn := fun _ => fun
  | [d1, d2] => { results := [.lit (.bool true)], args := [d1, d2] }
  | _ => none }
def fnExactLyndonUpToRow : OpenClaim := { program := "ytoledgkfohkfkaa", sum := "6a31a7f989c3a3c2ef272fc957113d0049847b703e86ed94cded8de976f159ec", func := "loop.example/g01104/laws.FnExactLyndonUpTo", spec := "fnExactLyndonUpTo", unfollowed := true, recurses := true, apart := false }
def FnExactLyndonUpToSaid : Prop := fnExactLyndonUpToRow.holds Try.pinned (OpenSpec.ofChange fnExactLyndonUpToSpec)

/-- ITS FALSE NEIGHBOUR: 'it returns false'. Refute it at one input. -/
def fnExactLyndonUpToWrong : ChangeSpec := { name := "fnExactLyndonUpTo", fn := fun _ => fun
  | [d1, d2] => { results := [.lit (.bool false)], args := [d1, d2] }
  | _ => none }
def FnExactLyndonUpToWrongFalsely : Prop := fnExactLyndonUpToRow.holds Try.pinned (OpenSpec.ofChange fnExactLyndonUpToWrong)

/-- 'laws.FnExactNecklacesOf': WHATEVER THE INPUT: true; the input reads as it did. -/
def fnExactNecklacesOfSpec : ChangeSpec := { name := "fnExactNecklacesOf", fn := fun _ => fun
  | [d1, d2] => { results := [.lit (.bool true)], args := [d1, d2] }
  | _ => none }
def fnExactNecklacesOfRow : OpenClaim := { program := "ytoledgkfohkfkaa", sum := "6a31a7f989c3a3c2ef272fc957113d0049847b703e86ed94cded8de976f159ec", func := "loop.example/g01104/laws.FnExactNecklacesOf", spec := "fnExactNecklacesOf", unfollowed := true, recurses := true, apart := false }
def FnExactNecklacesOfSaid : Prop := fnExactNecklacesOfRow.holds Try.pinned (OpenSpec.ofChange fnExactNecklacesOfSpec)

/-- ITS FALSE NEIGHBOUR: 'it returns false'. Refute it at one input. -/
def fnExactNecklacesOfWrong : ChangeSpec := { name := "fnExactNecklacesOf", fn := fun _ => fun
  | [d1, d2] => { results := [.lit (.bool false)], args := [d1, d2] }
  | _ => none }
def FnExactNecklacesOfWrongFalsely : Prop := fnExactNecklacesOfRow.holds Try.pinned (OpenSpec.ofChange fnExactNecklacesOfWrong)

/-- 'laws.FnExactGrowthOf': WHATEVER THE INPUT: true; the input reads as it did. -/
def fnExactGrowthOfSpec : ChangeSpec := { name := "fnExactGrowthOf", fn := fun _ => fun
  | [d] => { results := [.lit (.bool true)], args := [d] }
  | _ => none }
def fnExactGrowthOfRow : OpenClaim := { program := "ytoledgkfohkfkaa", sum := "6a31a7f989c3a3c2ef272fc957113d0049847b703e86ed94cded8de976f159ec", func := "loop.example/g01104/laws.FnExactGrowthOf", spec := "fnExactGrowthOf", unfollowed := true, recurses := true, apart := false }
def FnExactGrowthOfSaid : Prop := fnExactGrowthOfRow.holds Try.pinned (OpenSpec.ofChange fnExactGrowthOfSpec)

/-- ITS FALSE NEIGHBOUR: 'it returns false'. Refute it at one input. -/
def fnExactGrowthOfWrong : ChangeSpec := { name := "fnExactGrowthOf", fn := fun _ => fun
  | [d] => { results := [.lit (.bool false)], args := [d] }
  | _ => none }
def FnExactGrowthOfWrongFalsely : Prop := fnExactGrowthOfRow.holds Try.pinned (OpenSpec.ofChange fnExactGrowthOfWrong)

/-- 'laws.FnLyndonLists': WHATEVER THE INPUT: true; the input reads as it did. -/
def fnLyndonListsSpec : ChangeSpec := { name := "fnLyndonLists", fn := fun _ => fun
  | [d1, d2] => { results := [.lit (.bool true)], args := [d1, d2] }
  | _ => none }
def fnLyndonListsRow : OpenClaim := { program := "ytoledgkfohkfkaa", sum := "6a31a7f989c3a3c2ef272fc957113d0049847b703e86ed94cded8de976f159ec", func := "loop.example/g01104/laws.FnLyndonLists", spec := "fnLyndonLists", unfollowed := true, recurses := true, apart := false }
def FnLyndonListsSaid : Prop := fnLyndonListsRow.holds Try.pinned (OpenSpec.ofChange fnLyndonListsSpec)

/-- ITS FALSE NEIGHBOUR: 'it returns false'. Refute it at one input. -/
def fnLyndonListsWrong : ChangeSpec := { name := "fnLyndonLists", fn := fun _ => fun
  | [d1, d2] => { results := [.lit (.bool false)], args := [d1, d2] }
  | _ => none }
def FnLyndonListsWrongFalsely : Prop := fnLyndonListsRow.holds Try.pinned (OpenSpec.ofChange fnLyndonListsWrong)

/- THE SECOND FORM. 'bulk': how many values and letters a reading holds, each counted each time it is reached (what is shared counts as often as it is met; a slice's spare places count too). A statement '..UptoSaid' is the law's where the arguments, and the package variables that the reading takes, are together of bulk at most 1048576: NARROWER than '..Said'. Prove '..Said' where nothing that the law and all that it calls make is longer than what came in: it says more and counts as full. Else prove '..UptoSaid'. A law counts once. -/
mutual
def uptoBulk {H : Type} : DataW H → Nat
  | .lit (.string bytes) => bytes.length + 1
  | .lit _ => 1
  | .nil => 1
  | .ptr d => uptoBulk d + 1
  | .slice elems spare => uptoBulkAll elems + uptoBulkAll spare + 1
  | .agg parts => uptoBulkAll parts + 1
  | .iface _ d => uptoBulk d + 1
  | .map entries => uptoBulkEntries entries + 1
  | .held _ => 1
def uptoBulkAll {H : Type} : List (DataW H) → Nat
  | [] => 0
  | d :: r => uptoBulk d + uptoBulkAll r
def uptoBulkEntries {H : Type} : List (Lit × DataW H) → Nat
  | [] => 0
  | x :: r => uptoBulkEntry x + uptoBulkEntries r
def uptoBulkEntry {H : Type} : Lit × DataW H → Nat
  | (.string bytes, d) => bytes.length + uptoBulk d + 1
  | (_, d) => uptoBulk d + 1
 end
def uptoSmall : (H : Type) → List (DataW H) → Bool := fun _ ds => decide (uptoBulkAll ds ≤ 1048576)
def OpenSpec.upto (s : _root_.Go.ChangeSpec) : _root_.Go.OpenSpec := { _root_.Go.OpenSpec.ofChange s with cond := some uptoSmall }

/-- 'laws.FnBlocksAreGrowths', WHERE WHAT IT READS IS OF BULK AT MOST 1048576: true; the input reads as it did. -/
def fnBlocksAreGrowthsUptoRow : OpenClaim := { program := "ytoledgkfohkfkaa", sum := "6a31a7f989c3a3c2ef272fc957113d0049847b703e86ed94cded8de976f159ec", func := "loop.example/g01104/laws.FnBlocksAreGrowths", spec := "fnBlocksAreGrowths", unfollowed := true, recurses := true, apart := false, narrowed := true }
def FnBlocksAreGrowthsUptoSaid : Prop := fnBlocksAreGrowthsUptoRow.holds Try.pinned (OpenSpec.upto fnBlocksAreGrowthsSpec)

/-- 'laws.FnExactLyndonUpTo', WHERE WHAT IT READS IS OF BULK AT MOST 1048576: true; the input reads as it did. -/
def fnExactLyndonUpToUptoRow : OpenClaim := { program := "ytoledgkfohkfkaa", sum := "6a31a7f989c3a3c2ef272fc957113d0049847b703e86ed94cded8de976f159ec", func := "loop.example/g01104/laws.FnExactLyndonUpTo", spec := "fnExactLyndonUpTo", unfollowed := true, recurses := true, apart := false, narrowed := true }
def FnExactLyndonUpToUptoSaid : Prop := fnExactLyndonUpToUptoRow.holds Try.pinned (OpenSpec.upto fnExactLyndonUpToSpec)

/-- 'laws.FnExactNecklacesOf', WHERE WHAT IT READS IS OF BULK AT MOST 1048576: true; the input reads as it did. -/
def fnExactNecklacesOfUptoRow : OpenClaim := { program := "ytoledgkfohkfkaa", sum := "6a31a7f989c3a3c2ef272fc957113d0049847b703e86ed94cded8de976f159ec", func := "loop.example/g01104/laws.FnExactNecklacesOf", spec := "fnExactNecklacesOf", unfollowed := true, recurses := true, apart := false, narrowed := true }
def FnExactNecklacesOfUptoSaid : Prop := fnExactNecklacesOfUptoRow.holds Try.pinned (OpenSpec.upto fnExactNecklacesOfSpec)

/-- 'laws.FnExactGrowthOf', WHERE WHAT IT READS IS OF BULK AT MOST 1048576: true; the input reads as it did. -/
def fnExactGrowthOfUptoRow : OpenClaim := { program := "ytoledgkfohkfkaa", sum := "6a31a7f989c3a3c2ef272fc957113d0049847b703e86ed94cded8de976f159ec", func := "loop.example/g01104/laws.FnExactGrowthOf", spec := "fnExactGrowthOf", unfollowed := true, recurses := true, apart := false, narrowed := true }
def FnExactGrowthOfUptoSaid : Prop := fnExactGrowthOfUptoRow.holds Try.pinned (OpenSpec.upto fnExactGrowthOfSpec)

/-- 'laws.FnLyndonLists', WHERE WHAT IT READS IS OF BULK AT MOST 1048576: true; the input reads as it did. -/
def fnLyndonListsUptoRow : OpenClaim := { program := "ytoledgkfohkfkaa", sum := "6a31a7f989c3a3c2ef272fc957113d0049847b703e86ed94cded8de976f159ec", func := "loop.example/g01104/laws.FnLyndonLists", spec := "fnLyndonLists", unfollowed := true, recurses := true, apart := false, narrowed := true }
def FnLyndonListsUptoSaid : Prop := fnLyndonListsUptoRow.holds Try.pinned (OpenSpec.upto fnLyndonListsSpec)

end Rows
end Go.Proofs.Ytoledgkfohkfkaa
