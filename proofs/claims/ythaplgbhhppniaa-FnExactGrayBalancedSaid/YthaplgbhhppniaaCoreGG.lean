/- The list of growths with one change at a time; no program is in sight here. -/
import Derived.Test.YthaplgbhhppniaaCoreG
namespace Go.Proofs.Ythaplgbhhppniaa.Core
open Go.RowKit Go.Proofs.YthaplgbhhppniaaW.PrintWords Go.Proofs.YthaplgbhhppniaaW.PrintLast Go.Proofs.YthaplgbhhppniaaW.PrintMore
set_option linter.unusedVariables false
set_option linter.unusedSimpArgs false

/-- a with x, x - 1, .., 1 behind it. -/
def downL (a : List Int) : Nat → List (List Int)
  | 0 => []
  | x + 1 => (a ++ [((x + 1 : Nat) : Int)]) :: downL a x
/-- a with x, x + 1, .. behind it: d lists. -/
def upL (a : List Int) (x : Nat) : Nat → List (List Int)
  | 0 => []
  | d + 1 => (a ++ [(x : Int)]) :: upL a (x + 1) d
theorem downL_len (a : List Int) (x : Nat) : (downL a x).length = x := by
  induction x with
  | zero => rfl
  | succ x ih => simp [downL, ih]
theorem upL_len (a : List Int) (d : Nat) : ∀ x, (upL a x d).length = d := by
  induction d with
  | zero => intro x; rfl
  | succ d ih => intro x; simp [upL, ih]
def topL (a : List Int) : Int := a.foldl max (-1)
def grayOf (i : Nat) (a : List Int) : List (List Int) :=
  if i % 2 = 0 then (a ++ [0]) :: downL a (topL a + 1).toNat else upL a 1 (topL a + 1).toNat ++ [a ++ [0]]
def grayS (i : Nat) : List (List Int) → List (List Int)
  | [] => []
  | a :: s => grayOf i a ++ grayS (i + 1) s
/-- The growths of n + 1 elements. -/
def gray : Nat → List (List Int)
  | 0 => [[0]]
  | n + 1 => grayS 0 (gray n)
def okRow (a : List Int) : Bool := decide (1 ≤ a.length ∧ a.length ≤ 100) && a.all fun x => inB x 0 100
def farL : List Int → List Int → Int
  | x :: s, y :: t => (if x = y then 0 else 1) + farL s t
  | _, _ => 0
/-- What the law asks of the list: each rank once (the mask tells which have been), neighbours differ at one place. -/
def chkG (N : Nat) : Nat → Option (List Int) → List (List Int) → Bool
  | _, _, [] => true
  | mask, prev, a :: s => isG a && (decide (rkG 0 a < N) && (!mask.testBit (rkG 0 a) && ((match prev with | none => true | some b => decide (a.length = b.length) && decide (farL a b = 1)) && chkG N (mask ||| 2 ^ rkG 0 a) (some a) s)))
def maskL (N mask : Nat) : List Bool := (List.range N).map mask.testBit
theorem maskL_zero (N : Nat) : List.replicate N false = maskL N 0 := by
  refine List.ext_getElem (by simp [maskL]) fun i h1 h2 => ?_
  simp [maskL]
theorem maskL_set (N mask r : Nat) : (maskL N mask).set r true = maskL N (mask ||| 2 ^ r) := by
  refine List.ext_getElem (by simp [maskL]) fun i h1 h2 => ?_
  simp only [maskL, List.getElem_set, List.getElem_map, List.getElem_range, Nat.testBit_or, Nat.testBit_two_pow]
  by_cases h : r = i
  · simp [h]
  · simp [h]
set_option maxRecDepth 1000000 in
theorem gray_rows : ∀ n : Nat, n < 7 → ((gray n).all okRow = true ∧ (gray n).length = gc (n + 1) 0 ∧ (gray n).length ≤ 877) := by decide +kernel
set_option maxRecDepth 1000000 in
theorem gray_chk_all : ((List.range 7).all fun n => chkG (gc (n + 1) 0) 0 none (gray n)) = true := by decide +kernel
theorem gray_chk (n : Nat) (h : n < 7) : chkG (gc (n + 1) 0) 0 none (gray n) = true := List.all_eq_true.1 gray_chk_all n (List.mem_range.2 h)

end Go.Proofs.Ythaplgbhhppniaa.Core
