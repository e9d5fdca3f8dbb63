/- The growth of a balanced word; no program is in sight here. -/
import Derived.Test.YtoledgkfohkfkaaCoreB
namespace Go.Proofs.Ytoledgkfohkfkaa.Core
open Go.RowKit Go.Proofs.YtoledgkfohkfkaaW.PrintWords Go.Proofs.YtoledgkfohkfkaaW.PrintLast Go.Proofs.YtoledgkfohkfkaaW.PrintMore
set_option linter.unusedVariables false
set_option linter.unusedSimpArgs false

/-- st: the blocks that are open, the last one ahead; c: how many blocks have begun; prev: whether a one came right before. -/
def gowF : List Int → Nat → Bool → List Int → List Int
 | _, _, _, [] => []
 | st, c, prev, x :: s => if x = 1 then gowF ((c : Int) :: st) c true s else st.headD 0 :: gowF st.tail (if prev = true then c + 1 else c) false s
def gowW (w : List Int) : List Int := gowF [] 0 false w
theorem gowF_len (s : List Int) : ∀ st c prev, (gowF st c prev s).length ≤ s.length := by
 induction s with
 | nil => intro st c prev; simp [gowF]
 | cons x s ih =>
  intro st c prev
  unfold gowF
  split
  ·exact Nat.le_trans (ih _ _ _) (by simp)
  ·have := ih st.tail (if prev = true then c + 1 else c) false
   simp only [List.length_cons]; omega
theorem balW_cons {o x : Int} {s : List Int} (h : balW o (x :: s) = true) : (0 ≤ x ∧ x ≤ 1) ∧ 0 ≤ o + (2 * x - 1) ∧ balW (o + (2 * x - 1)) s = true := by
 unfold balW at h
 rw [Bool.and_eq_true, Bool.and_eq_true, inB_true, decide_eq_true_iff] at h
 exact h
/-- A stack of blocks with how many elements each lacks. -/
def expP : List (Int × Nat) → List Int
 | [] => []
 | (t, m) :: q => List.replicate m t ++ expP q
def fstL : List (Int × Nat) → List Int
 | [] => []
 | (t, m) :: q => fstL q ++ [t]
def sndL : List (Int × Nat) → List Int
 | [] => []
 | (t, m) :: q => sndL q ++ [(m : Int)]
theorem fstL_len (q : List (Int × Nat)) : (fstL q).length = q.length := by
 induction q with
 | nil => rfl
 | cons p q ih => obtain ⟨t, m⟩ := p; simp [fstL, ih]
theorem sndL_len (q : List (Int × Nat)) : (sndL q).length = q.length := by
 induction q with
 | nil => rfl
 | cons p q ih => obtain ⟨t, m⟩ := p; simp [sndL, ih]

end Go.Proofs.Ytoledgkfohkfkaa.Core
