/- The list of balanced words with one change at a time; no program is in sight here. -/
import Derived.Test.YthaplgbhhppniaaCoreB
import Derived.Test.YthaplgbhhppniaaCoreGG
namespace Go.Proofs.Ythaplgbhhppniaa.Core
open Go.RowKit Go.Proofs.YthaplgbhhppniaaW.PrintWords Go.Proofs.YthaplgbhhppniaaW.PrintLast Go.Proofs.YthaplgbhhppniaaW.PrintMore
set_option linter.unusedVariables false
set_option linter.unusedSimpArgs false

/-- a with x, x - 1, .. behind it: d lists. -/
def dnL (a : List Int) (x : Nat) : Nat → List (List Int)
  | 0 => []
  | d + 1 => (a ++ [(x : Int)]) :: dnL a (x - 1) d
theorem dnL_len (a : List Int) (d : Nat) : ∀ x, (dnL a x d).length = d := by
  induction d with
  | zero => intro x; rfl
  | succ d ih => intro x; simp [dnL, ih]
def lastN (a : List Int) : Nat := (a.getD (a.length - 1) 0).toNat
/-- What comes of a list of places, for n ones. -/
def plOf (n i : Nat) (a : List Int) : List (List Int) :=
  if i % 2 = 0 then (a ++ [((2 * n - 2 : Nat) : Int)]) :: upL a (lastN a + 1) (2 * n - 3 - lastN a) else dnL a (2 * n - 3) (2 * n - 3 - lastN a) ++ [a ++ [((2 * n - 2 : Nat) : Int)]]
def plS (n i : Nat) : List (List Int) → List (List Int)
  | [] => []
  | a :: s => plOf n i a ++ plS n (i + 1) s
/-- The places of t + 1 ones. -/
def plG : Nat → List (List Int)
  | 0 => [[0]]
  | t + 1 => plS (t + 2) 0 (plG t)
def okP (n : Nat) (a : List Int) : Bool := decide (1 ≤ a.length ∧ a.length ≤ 100) && ((a.all fun x => inB x 0 100) && decide (lastN a + 3 ≤ 2 * n))
def onesF (w : List Int) : List Int → List Int
  | [] => w
  | z :: s => onesF (w.set z.toNat 1) s
def onesL (n : Nat) (a : List Int) : List Int := onesF (List.replicate (2 * n) 0) a
def okO (n : Nat) (a : List Int) : Bool := decide (a.length ≤ 100) && a.all fun x => decide (0 ≤ x ∧ x < 2 * (n : Int))
/-- The words of n ones. -/
def balG : Nat → List (List Int)
  | 0 => [[]]
  | t + 1 => (plG t).map (onesL (t + 1))
theorem onesF_len (s : List Int) : ∀ w, (onesF w s).length = w.length := by
  induction s with
  | nil => intro w; rfl
  | cons z s ih => intro w; simp [onesF, ih]
def chkB (N : Nat) : Nat → Option (List Int) → List (List Int) → Bool
  | _, _, [] => true
  | mask, prev, a :: s => isB a && (decide (rkB 0 (a.length / 2) a < N) && (!mask.testBit (rkB 0 (a.length / 2) a) && ((match prev with | none => true | some b => decide (a.length = b.length) && decide (farL a b = 2)) && chkB N (mask ||| 2 ^ rkB 0 (a.length / 2) a) (some a) s)))
set_option maxRecDepth 1000000 in
theorem plG_rows : ∀ t : Nat, t < 7 → ((plG t).all (okO (t + 1)) = true ∧ (plG t).length ≤ 429 ∧ (plG t).all (okP (t + 2)) = true) := by decide +kernel
set_option maxRecDepth 1000000 in
theorem bal_all : ((List.range 8).all fun n => chkB (bw n 0) 0 none (balG n) && decide ((balG n).length = bw n 0)) = true := by decide +kernel
theorem bal_chk (n : Nat) (h : n < 8) : chkB (bw n 0) 0 none (balG n) = true ∧ (balG n).length = bw n 0 := by
  have := List.all_eq_true.1 bal_all n (List.mem_range.2 h)
  rw [Bool.and_eq_true, decide_eq_true_iff] at this
  exact this

end Go.Proofs.Ythaplgbhhppniaa.Core
