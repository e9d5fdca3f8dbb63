/- Plain laws on the ranks of parted numbers; no program is in sight here. -/
import Derived.Test.YthaplgbhhppniaaCoreP
namespace Go.Proofs.Ythaplgbhhppniaa.Core
open Go.RowKit Go.Proofs.YthaplgbhhppniaaW.PrintWords Go.Proofs.YthaplgbhhppniaaW.PrintLast Go.Proofs.YthaplgbhhppniaaW.PrintMore
set_option linter.unusedVariables false
set_option linter.unusedSimpArgs false

/-- How many parted numbers with total n have no number greater than another one. -/
def pcRow (g : Nat → Nat → Nat) (n : Nat) : Nat → Nat
  | 0 => if n = 0 then 1 else 0
  | x + 1 => pcRow g n x + (if x + 1 ≤ n then g (n - (x + 1)) (x + 1) else 0)
def pcF : Nat → Nat → Nat → Nat
  | 0, n, _ => if n = 0 then 1 else 0
  | f + 1, n, most => pcRow (pcF f) n most
def pc (n most : Nat) : Nat := pcF n n most
set_option maxRecDepth 100000 in
theorem pc_step0 : ∀ n : Nat, n < 21 → ∀ x : Nat, x < 21 → x + 1 ≤ n → pc n (x + 1) = pc n x + pc (n - (x + 1)) (x + 1) := by
  decide +kernel
set_option maxRecDepth 100000 in
theorem pc_min0 : ∀ n : Nat, n < 21 → ∀ x : Nat, x < 21 → pc n x = pc n (min x n) := by
  decide +kernel
set_option maxRecDepth 100000 in
theorem pc_small0 : ∀ n : Nat, n < 21 → ∀ x : Nat, x < 21 → pc n x ≤ 627 := by
  decide +kernel
theorem pc_none : ∀ n : Nat, n < 21 → 1 ≤ n → pc n 0 = 0 := by
  decide +kernel
theorem pc_step {n x : Nat} (hn : n ≤ 20) (hx : x + 1 ≤ n) : pc n (x + 1) = pc n x + pc (n - (x + 1)) (x + 1) := pc_step0 n (by omega) x (by omega) hx
theorem pc_min {n x : Nat} (hn : n ≤ 20) (hx : x ≤ 20) : pc n x = pc n (min x n) := pc_min0 n (by omega) x (by omega)
theorem pc_small {n x : Nat} (hn : n ≤ 20) (hx : x ≤ 20) : pc n x ≤ 627 := pc_small0 n (by omega) x (by omega)

/-- The first number of that with a rank, and the rank that is left. -/
def findX (n : Nat) : Nat → Nat → Nat × Nat
  | 0, rank => (0, rank)
  | x + 1, rank => if rank < pc (n - (x + 1)) (x + 1) then (x + 1, rank) else findX n x (rank - pc (n - (x + 1)) (x + 1))
theorem findX_fits {n : Nat} (hn : n ≤ 20) (h1 : 1 ≤ n) (x : Nat) : ∀ rank, x ≤ n → rank < pc n x →
    1 ≤ (findX n x rank).1 ∧ (findX n x rank).1 ≤ x ∧ (findX n x rank).2 < pc (n - (findX n x rank).1) (findX n x rank).1 := by
  induction x with
  | zero => intro rank hx h; rw [pc_none n (by omega) h1] at h; omega
  | succ x ih =>
    intro rank hx h
    rw [pc_step hn hx] at h
    unfold findX
    by_cases c : rank < pc (n - (x + 1)) (x + 1)
    · rw [if_pos c]; exact ⟨by simp, by simp, c⟩
    · rw [if_neg c]
      obtain ⟨g1, g2, g3⟩ := ih (rank - pc (n - (x + 1)) (x + 1)) (by omega) (by omega)
      exact ⟨g1, by omega, g3⟩
/-- The parted number with a rank. -/
def unPF : Nat → Nat → Nat → Nat → List Int
  | 0, _, _, _ => []
  | f + 1, n, most, rank => if n = 0 then [] else ((findX n (min most n) rank).1 : Int) :: unPF f (n - (findX n (min most n) rank).1) (findX n (min most n) rank).1 (findX n (min most n) rank).2
def unP (n most rank : Nat) : List Int := unPF n n most rank
theorem unPF_len (f : Nat) : ∀ n most rank, (unPF f n most rank).length ≤ f := by
  induction f with
  | zero => intro n most rank; simp [unPF]
  | succ f ih =>
    intro n most rank
    unfold unPF
    split
    · simp
    · simp only [List.length_cons]; exact Nat.succ_le_succ (ih _ _ _)
theorem unP_len (n most rank : Nat) : (unP n most rank).length ≤ n := unPF_len _ _ _ _
/-- Ranks that there are. -/
def isPk (n rank : Int) : Bool := inB n 0 20 && inB rank 0 ((pc n.toNat n.toNat : Nat) - 1)
theorem isPk_true {n rank : Int} (h : isPk n rank = true) : 0 ≤ n ∧ n ≤ 20 := by
  unfold isPk at h
  rw [Bool.and_eq_true, inB_true] at h
  exact h.1

/-- How many come ahead: the first number from x + 1 to y. -/
def above (n x : Nat) : Nat → Nat
  | 0 => 0
  | y + 1 => if x < y + 1 then pc (n - (y + 1)) (y + 1) + above n x y else 0
def rkP (n most : Nat) : List Int → Nat
  | [] => 0
  | x :: s => above n x.toNat (min most n) + rkP (n - x.toNat) x.toNat s
theorem above_le {n : Nat} (hn : n ≤ 20) (x y : Nat) (hy : y ≤ 20) : above n x y ≤ 627 * y := by
  induction y with
  | zero => exact Nat.zero_le _
  | succ y ih =>
    have := ih (by omega)
    have h2 := pc_small (n := n - (y + 1)) (x := y + 1) (by omega) hy
    unfold above
    split <;> omega

end Go.Proofs.Ythaplgbhhppniaa.Core
