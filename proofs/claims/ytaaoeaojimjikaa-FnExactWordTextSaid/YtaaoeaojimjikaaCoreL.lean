/- Plain laws on words; no program is in sight here. -/
import Derived.Test.YtaaoeaojimjikaaCoreA
namespace Go.Proofs.Ytaaoeaojimjikaa.Core
open Go.RowKit Go.Proofs.YtaaoeaojimjikaaW.PrintWords Go.Proofs.YtaaoeaojimjikaaW.PrintLast Go.Proofs.YtaaoeaojimjikaaW.PrintMore
set_option linter.unusedVariables false
set_option linter.unusedSimpArgs false

def isW (l : List Int) : Bool := inB l.length 1 24 && l.all fun x => inB x 0 5
theorem isW_true {l : List Int} (h : isW l = true) : (1 ≤ l.length ∧ l.length ≤ 24) ∧ ∀ x ∈ l, 0 ≤ x ∧ x ≤ 5 := by
  unfold isW at h
  rw [Bool.and_eq_true, inB_true, List.all_eq_true] at h
  exact ⟨by omega, fun x hx => inB_true.1 (h.2 x hx)⟩
theorem isW_long {l : List Int} (h : 24 < l.length) : isW l = false := by
  unfold isW; rw [inB_no (by omega), Bool.false_and]
/-- The numbers that a text's first n bytes tell. -/
def byteL (s : ByteArray) (n : Nat) : List Int := (List.range n).map fun i : Nat => bt s (i : Int) - 48
theorem byteL_len (s : ByteArray) (n : Nat) : (byteL s n).length = n := by simp [byteL]
theorem byteL_succ (s : ByteArray) (n : Nat) : byteL s (n + 1) = byteL s n ++ [bt s (n : Int) - 48] := by
  simp [byteL, List.range_succ]

end Go.Proofs.Ytaaoeaojimjikaa.Core
