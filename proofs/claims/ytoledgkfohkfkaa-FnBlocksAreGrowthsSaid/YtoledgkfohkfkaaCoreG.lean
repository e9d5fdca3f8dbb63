/- Plain laws on growths; no program is in sight here. -/
import Derived.Test.YtoledgkfohkfkaaCoreA
namespace Go.Proofs.Ytoledgkfohkfkaa.Core
open Go.RowKit Go.Proofs.YtoledgkfohkfkaaW.PrintWords Go.Proofs.YtoledgkfohkfkaaW.PrintLast Go.Proofs.YtoledgkfohkfkaaW.PrintMore
set_option linter.unusedVariables false
set_option linter.unusedSimpArgs false

/-- Each number is at most one more than the greatest one before it. -/
def growW (m : Int) : List Int → Bool
 | [] => true
 | x :: s => inB x 0 (m + 1) && growW (max m x) s
def isG (l : List Int) : Bool := growW (-1) l && inB l.length 1 12

/-- How many growths go on with r numbers behind m blocks. -/
def gc : Nat → Nat → Nat
 | 0, _ => 1
 | r + 1, m => m * gc r m + gc r (m + 1)
theorem gc_pos (r : Nat) : ∀ m, 0 < gc r m := by
 induction r with
 | zero => intro m; exact Nat.one_pos
 | succ r ih => intro m; have := ih (m + 1); unfold gc; omega
theorem gc_zero (r : Nat) : gc (r + 1) 0 = gc r 1 := by simp [gc]

/-- The growth with a rank. -/
def unr : Nat → Nat → Nat → List Int
 | 0, _, _ => []
 | r + 1, k, rank => ((min k (rank / gc r k) : Nat) : Int) :: unr r (max k (min k (rank / gc r k) + 1)) (rank - min k (rank / gc r k) * gc r k)
theorem unr_len (r : Nat) : ∀ k rank, (unr r k rank).length = r := by
 induction r with
 | zero => intro k rank; rfl
 | succ r ih => intro k rank; simp [unr, ih]
theorem unr_grow (r : Nat) : ∀ (k rank : Nat), growW ((k : Int) - 1) (unr r k rank) = true := by
 induction r with
 | zero => intro k rank; rfl
 | succ r ih =>
  intro k rank
  have := ih (max k (min k (rank / gc r k) + 1)) (rank - min k (rank / gc r k) * gc r k)
  have hm : min k (rank / gc r k) ≤ k := Nat.min_le_left _ _
  unfold unr growW
  generalize min k (rank / gc r k) = x at this hm ⊢
  rw [inB_yes (by omega), Bool.true_and]
  have e : max ((k : Int) - 1) (x : Int) = ((max k (x + 1) : Nat) : Int) - 1 := by omega
  rw [e]; exact this
theorem unr_zero (r rank : Nat) : unr (r + 1) 0 rank = 0 :: unr r 1 rank := by simp [unr]

/-- The rank of a growth, behind k blocks. -/
def rkG (k : Nat) : List Int → Nat
 | [] => 0
 | x :: s => x.toNat * gc s.length k + rkG (max k (x.toNat + 1)) s
theorem step_fits {r k rank : Nat} (h : rank < gc (r + 1) k) : rank - min k (rank / gc r k) * gc r k < gc r (max k (min k (rank / gc r k) + 1)) := by
 have hg := gc_pos r k
 have hd := Nat.div_add_mod rank (gc r k)
 have hm := Nat.mod_lt rank hg
 unfold gc at h
 rcases Nat.lt_or_ge (rank / gc r k) k with hq | hq
 ·rw [Nat.min_eq_right (by omega), Nat.max_eq_left (by omega)]
  rw [Nat.mul_comm] at hd
  omega
 ·rw [Nat.min_eq_left hq, Nat.max_eq_right (by omega)]
  have := gc_pos r (k + 1)
  omega
theorem step_le {r k rank : Nat} : min k (rank / gc r k) * gc r k ≤ rank :=
 Nat.le_trans (Nat.mul_le_mul_right _ (Nat.min_le_right _ _)) (Nat.div_mul_le_self _ _)
theorem rk_unr (r : Nat) : ∀ (k rank : Nat), rank < gc r k → rkG k (unr r k rank) = rank := by
 induction r with
 | zero => intro k rank h; unfold gc at h; simp [unr, rkG]; omega
 | succ r ih =>
  intro k rank h
  have h1 := step_fits h
  have h2 := ih _ _ h1
  have h3 := @step_le r k rank
  unfold unr rkG
  rw [unr_len, Int.toNat_natCast, h2]
  omega
theorem unr_lt (r : Nat) : ∀ (k a b : Nat), a < b → b < gc r k → lexLt (unr r k a) (unr r k b) = true := by
 induction r with
 | zero => intro k a b h hb; unfold gc at hb; omega
 | succ r ih =>
  intro k a b h hb
  have hda : a / gc r k ≤ b / gc r k := Nat.div_le_div_right (by omega)
  have h1 := step_fits hb
  have h3 := @step_le r k a
  have h4 := @step_le r k b
  unfold unr lexLt
  by_cases e : min k (a / gc r k) = min k (b / gc r k)
  ·rw [if_pos (by rw [e]), e]
   rw [e] at h3
   exact ih _ _ _ (by omega) h1
  ·rw [if_neg (by omega), decide_eq_true (by omega)]

theorem rk_step {r k x : Nat} (h : x ≤ k) : x * gc r k + gc r (max k (x + 1)) ≤ gc (r + 1) k := by
 have e : gc (r + 1) k = k * gc r k + gc r (k + 1) := rfl
 rcases Nat.lt_or_ge x k with hx | hx
 ·rw [Nat.max_eq_left (by omega)]
  have : (x + 1) * gc r k ≤ k * gc r k := Nat.mul_le_mul_right _ hx
  rw [Nat.add_mul] at this
  omega
 ·have : x = k := by omega
  subst this
  rw [Nat.max_eq_right (by omega)]
  omega
theorem growW_cons {m x : Int} {s : List Int} (h : growW m (x :: s) = true) : (0 ≤ x ∧ x ≤ m + 1) ∧ growW (max m x) s = true := by
 unfold growW at h
 rw [Bool.and_eq_true] at h
 exact ⟨inB_true.1 h.1, h.2⟩
theorem growW_next {k : Nat} {x : Int} {s : List Int} (h : growW ((k : Int) - 1) (x :: s) = true) : (0 ≤ x ∧ x ≤ k) ∧ growW (((max k (x.toNat + 1) : Nat) : Int) - 1) s = true := by
 obtain ⟨h1, h2⟩ := growW_cons h
 refine ⟨by omega, ?_⟩
 have e : ((max k (x.toNat + 1) : Nat) : Int) - 1 = max ((k : Int) - 1) x := by omega
 rw [e]; exact h2
theorem isG_true {l : List Int} (h : isG l = true) : growW (((0 : Nat) : Int) - 1) l = true ∧ 1 ≤ l.length ∧ l.length ≤ 12 := by
 unfold isG at h
 rw [Bool.and_eq_true, inB_true] at h
 exact ⟨h.1, by omega, by omega⟩

/-! ### crossings -/
def hasV (y : Int) (t : List Int) : Bool := t.any fun u => decide (u = y)
def crK (x y : Int) : List Int → Bool
 | [] => false
 | z :: s => ((decide (x = z) && !decide (x = y)) && hasV y s) || crK x y s
def crJ (x : Int) : List Int → Bool
 | [] => false
 | y :: s => crK x y s || crJ x s
def crI : List Int → Bool
 | [] => false
 | x :: s => crJ x s || crI s

end Go.Proofs.Ytoledgkfohkfkaa.Core
