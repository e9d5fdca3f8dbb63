/- Plain laws on parted numbers; no program is in sight here. -/
import Derived.Test.YthaplgbhhppniaaCoreA
namespace Go.Proofs.Ythaplgbhhppniaa.Core
open Go.RowKit Go.Proofs.YthaplgbhhppniaaW.PrintWords Go.Proofs.YthaplgbhhppniaaW.PrintLast Go.Proofs.YthaplgbhhppniaaW.PrintMore
set_option linter.unusedVariables false
set_option linter.unusedSimpArgs false

def sumL : List Int → Int
  | [] => 0
  | x :: s => x + sumL s
theorem sumL_app (p s : List Int) : sumL (p ++ s) = sumL p + sumL s := by
  induction p with
  | nil => simp [sumL]
  | cons x p ih => simp [sumL, ih]; omega
/-- Numbers from 1 to 20 that do not rise, the first at most m. -/
def parL (m : Int) : List Int → Bool
  | [] => true
  | x :: s => inB x 1 20 && (decide (x ≤ m) && parL x s)
def descL (m : Int) : List Int → Bool
  | [] => true
  | x :: s => decide (x ≤ m) && descL x s
def isP (l : List Int) : Bool := parL 20 l && (decide ((l.length : Int) ≤ 20) && decide (sumL l ≤ 20))
theorem parL_split (l : List Int) : ∀ m, parL m l = ((l.all fun x => inB x 1 20) && descL m l) := by
  induction l with
  | nil => intro m; rfl
  | cons x s ih =>
    intro m
    simp only [parL, descL, List.all_cons, ih]
    cases inB x 1 20 <;> cases decide (x ≤ m) <;> simp
theorem all_in {l : List Int} {a b : Int} : (l.all fun x => inB x a b) = true ↔ ∀ x ∈ l, a ≤ x ∧ x ≤ b := by
  rw [List.all_eq_true]
  exact ⟨fun h x hx => inB_true.1 (h x hx), fun h x hx => inB_yes (h x hx)⟩
theorem parL_in {l : List Int} {m : Int} (h : parL m l = true) : ∀ x ∈ l, 1 ≤ x ∧ x ≤ 20 := by
  rw [parL_split, Bool.and_eq_true] at h
  exact all_in.1 h.1

/-! ### dominance -/
def domR (a b : List Int) : Nat → Nat → Bool
  | 0, _ => true
  | d + 1, i => decide (sumL (b.take i) ≤ sumL (a.take i)) && domR a b d (i + 1)
theorem domR_iff (a b : List Int) (d : Nat) : ∀ i, domR a b d i = true ↔ ∀ k, i ≤ k → k < i + d → sumL (b.take k) ≤ sumL (a.take k) := by
  induction d with
  | zero => intro i; simp only [domR, true_iff]; intro k h1 h2; omega
  | succ d ih =>
    intro i
    simp only [domR, Bool.and_eq_true, decide_eq_true_iff, ih]
    constructor
    · rintro ⟨h1, h2⟩ k hk hk'
      by_cases e : k = i
      · rw [e]; exact h1
      · exact h2 k (by omega) (by omega)
    · intro h
      exact ⟨h i (by omega) (by omega), fun k h1 h2 => h k (by omega) (by omega)⟩
theorem sumL_nonneg {l : List Int} (h : ∀ x ∈ l, 0 ≤ x) : 0 ≤ sumL l := by
  induction l with
  | nil => simp [sumL]
  | cons x s ih =>
    have := ih (fun y hy => h y (List.mem_cons_of_mem _ hy))
    have := h x (List.mem_cons_self ..)
    simp only [sumL]; omega
theorem sumL_take_le {l : List Int} (h : ∀ x ∈ l, 0 ≤ x) (i j : Nat) (hij : i ≤ j) : sumL (l.take i) ≤ sumL (l.take j) := by
  have e := List.take_append_drop i (l.take j)
  rw [List.take_take, Nat.min_eq_left hij] at e
  rw [← e, sumL_app]
  have : 0 ≤ sumL ((l.take j).drop i) := sumL_nonneg fun x hx => h x (List.mem_of_mem_take (List.mem_of_mem_drop hx))
  omega
theorem sumL_take_all {l : List Int} (h : ∀ x ∈ l, 0 ≤ x) (i : Nat) : sumL (l.take i) ≤ sumL l := by
  have := sumL_take_le h i (i + l.length) (by omega)
  rwa [List.take_of_length_le (l := l) (i := i + l.length) (by omega)] at this
theorem dom_same {a b : List Int} (ha : ∀ x ∈ a, 0 ≤ x) (hb : ∀ x ∈ b, 0 ≤ x) :
    (domR a b (max a.length b.length + 1) 0 && decide (sumL a = sumL b)) = (decide (sumL a = sumL b) && domR a b b.length 1) := by
  rw [Bool.eq_iff_iff]
  simp only [Bool.and_eq_true, decide_eq_true_iff, domR_iff]
  constructor
  · rintro ⟨h1, h2⟩
    exact ⟨h2, fun k hk hk' => h1 k (by omega) (by omega)⟩
  · rintro ⟨h1, h2⟩
    refine ⟨fun k _ _ => ?_, h1⟩
    by_cases hk0 : k = 0
    · subst hk0; simp [sumL]
    by_cases hkb : k ≤ b.length
    · exact h2 k (by omega) (by omega)
    have e : b.take k = b := List.take_of_length_le (by omega)
    rw [e]
    by_cases hb0 : b.length = 0
    · have : b = [] := List.eq_nil_of_length_eq_zero hb0
      subst this
      exact sumL_nonneg fun x hx => ha x (List.mem_of_mem_take hx)
    · have h3 := h2 b.length (by omega) (by omega)
      rw [List.take_of_length_le (l := b) (Nat.le_refl _)] at h3
      have h4 := sumL_take_le ha b.length k (by omega)
      omega
/-- Does a dominate b? -/
def domP (a b : List Int) : Bool := decide (sumL a = sumL b) && domR a b b.length 1
theorem isP_true {l : List Int} (h : isP l = true) : parL 20 l = true ∧ l.length ≤ 20 ∧ sumL l ≤ 20 ∧ ∀ x ∈ l, 1 ≤ x ∧ x ≤ 20 := by
  unfold isP at h
  rw [Bool.and_eq_true, Bool.and_eq_true, decide_eq_true_iff, decide_eq_true_iff] at h
  exact ⟨h.1, by omega, h.2.2, parL_in h.1⟩

/-! ### conjugates -/
def cntGt (j : Int) : List Int → Int
  | [] => 0
  | x :: s => (if x > j then 1 else 0) + cntGt j s
def conjF (l : List Int) : Nat → Int → List Int
  | 0, _ => []
  | d + 1, j => cntGt j l :: conjF l d (j + 1)
def conjL (l : List Int) : List Int := conjF l (l.headD 0).toNat 0
theorem conjF_len (l : List Int) (d : Nat) : ∀ j, (conjF l d j).length = d := by
  induction d with
  | zero => intro j; rfl
  | succ d ih => intro j; simp [conjF, ih]
theorem head_small {l : List Int} (h : isP l = true) : 0 ≤ l.headD 0 ∧ l.headD 0 ≤ 20 := by
  obtain ⟨_, _, _, h4⟩ := isP_true h
  cases l with
  | nil => simp
  | cons x s => have := h4 x (List.mem_cons_self ..); simp; omega
theorem conjL_small {l : List Int} (h : isP l = true) : (conjL l).length ≤ 1048576 := by
  unfold conjL
  rw [conjF_len]
  have := head_small h
  omega

end Go.Proofs.Ythaplgbhhppniaa.Core
