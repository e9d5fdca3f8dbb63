/- Plain laws on balanced words; no program is in sight here. -/
import Derived.Test.YtoledgkfohkfkaaCoreA
namespace Go.Proofs.Ytoledgkfohkfkaa.Core
open Go.RowKit Go.Proofs.YtoledgkfohkfkaaW.PrintWords Go.Proofs.YtoledgkfohkfkaaW.PrintLast Go.Proofs.YtoledgkfohkfkaaW.PrintMore
set_option linter.unusedVariables false
set_option linter.unusedSimpArgs false

/-- Ones and zeros that never close more than is open, and close all. -/
def balW (o : Int) : List Int → Bool
 | [] => decide (o = 0)
 | x :: s => inB x 0 1 && (decide (0 ≤ o + (2 * x - 1)) && balW (o + (2 * x - 1)) s)
def isB (l : List Int) : Bool := balW 0 l && decide ((l.length : Int) ≤ 24)


/-- How many words go on with o open ones and m ones that are still to come. -/
def bwRow (f : Nat → Nat) : Nat → Nat
 | 0 => f 1
 | o + 1 => f (o + 2) + bwRow f o
def bw : Nat → Nat → Nat
 | 0, _ => 1
 | m + 1, o => bwRow (bw m) o
theorem bw_zero (m : Nat) : bw (m + 1) 0 = bw m 1 := rfl
theorem bw_succ (m o : Nat) : bw (m + 1) (o + 1) = bw m (o + 2) + bw (m + 1) o := rfl
theorem bw_pos (m : Nat) : ∀ o, 0 < bw m o := by
 induction m with
 | zero => intro o; exact Nat.one_pos
 | succ m ih =>
  intro o
  induction o with
  | zero => rw [bw_zero]; exact ih 1
  | succ o ih2 => rw [bw_succ]; exact Nat.lt_of_lt_of_le ih2 (Nat.le_add_left _ _)
/-- How many of them go on with a 0. -/
def lowB (m : Nat) : Nat → Nat
 | 0 => 0
 | o + 1 => bw m o
theorem low_one {m o : Nat} : lowB (m + 1) o + bw m (o + 1) = bw (m + 1) o := by
 cases o with
 | zero => rw [bw_zero]; exact Nat.zero_add _
 | succ o => rw [bw_succ, Nat.add_comm]; rfl
theorem low_le (m : Nat) : ∀ o, lowB m o ≤ bw m o := by
 intro o
 cases m with
 | zero => cases o with
  | zero => exact Nat.zero_le _
  | succ o => exact Nat.le_refl _
 | succ m => rw [← low_one]; exact Nat.le_add_right _ _

/-- The rank of a word, with o open ones and m ones to come. -/
def rkB (o m : Nat) : List Int → Nat
 | [] => 0
 | x :: s => if x = 1 then lowB m o + rkB (o + 1) (m - 1) s else rkB (o - 1) m s
/-- The word with a rank: r numbers. -/
def unB : Nat → Nat → Nat → Nat → List Int
 | 0, _, _, _ => []
 | r + 1, o, m, rank => if lowB m o ≤ rank then 1 :: unB r (o + 1) (m - 1) (rank - lowB m o) else 0 :: unB r (o - 1) m rank
theorem unB_len (r : Nat) : ∀ o m rank, (unB r o m rank).length = r := by
 induction r with
 | zero => intro o m rank; rfl
 | succ r ih => intro o m rank; unfold unB; split <;> simp [ih]

theorem balW_len (s : List Int) : ∀ o : Nat, balW (o : Int) s = true → o ≤ s.length := by
 induction s with
 | nil => intro o h; unfold balW at h; rw [decide_eq_true_iff] at h; simp; omega
 | cons x s ih =>
  intro o h
  unfold balW at h
  rw [Bool.and_eq_true, Bool.and_eq_true, inB_true, decide_eq_true_iff] at h
  obtain ⟨h1, h2, h3⟩ := h
  obtain ⟨n, hn⟩ : ∃ n : Nat, (o : Int) + (2 * x - 1) = (n : Int) := ⟨((o : Int) + (2 * x - 1)).toNat, by omega⟩
  rw [hn] at h3
  have := ih n h3
  simp; omega
/-- One step in a balanced word. -/
theorem balW_step {o m : Nat} {x : Int} {s : List Int} (h : balW (o : Int) (x :: s) = true) (hl : (x :: s).length = o + 2 * m) :
  (x = 1 ∧ 1 ≤ m ∧ balW ((o + 1 : Nat) : Int) s = true ∧ s.length = (o + 1) + 2 * (m - 1)) ∨ (x = 0 ∧ 1 ≤ o ∧ balW ((o - 1 : Nat) : Int) s = true ∧ s.length = (o - 1) + 2 * m) := by
 unfold balW at h
 rw [Bool.and_eq_true, Bool.and_eq_true, inB_true, decide_eq_true_iff] at h
 obtain ⟨h1, h2, h3⟩ := h
 have hl' : s.length + 1 = o + 2 * m := hl
 by_cases hx : x = 1
 ·subst hx
  have e : (o : Int) + (2 * 1 - 1) = ((o + 1 : Nat) : Int) := by omega
  rw [e] at h3
  have := balW_len s _ h3
  exact .inl ⟨rfl, by omega, h3, by omega⟩
 ·have hx0 : x = 0 := by omega
  subst hx0
  have e : (o : Int) + (2 * 0 - 1) = ((o - 1 : Nat) : Int) := by omega
  rw [e] at h3
  exact .inr ⟨rfl, by omega, h3, by omega⟩
theorem balW_even (s : List Int) : ∀ o : Nat, balW (o : Int) s = true → ∃ m, s.length = o + 2 * m := by
 induction s with
 | nil => intro o h; unfold balW at h; rw [decide_eq_true_iff] at h; exact ⟨0, by simp; omega⟩
 | cons x s ih =>
  intro o h
  unfold balW at h
  rw [Bool.and_eq_true, Bool.and_eq_true, inB_true, decide_eq_true_iff] at h
  obtain ⟨h1, h2, h3⟩ := h
  obtain ⟨n, hn⟩ : ∃ n : Nat, (o : Int) + (2 * x - 1) = (n : Int) := ⟨((o : Int) + (2 * x - 1)).toNat, by omega⟩
  rw [hn] at h3
  obtain ⟨m, hm⟩ := ih n h3
  by_cases hx : x = 1
  ·exact ⟨m + 1, by simp; omega⟩
  ·exact ⟨m, by simp; omega⟩
theorem isB_true {l : List Int} (h : isB l = true) : ∃ m, m ≤ 12 ∧ l.length = 2 * m ∧ balW ((0 : Nat) : Int) l = true := by
 unfold isB at h
 rw [Bool.and_eq_true, decide_eq_true_iff] at h
 obtain ⟨m, hm⟩ := balW_even l 0 h.1
 exact ⟨m, by omega, by omega, h.1⟩
theorem rkB_lt (s : List Int) : ∀ o m : Nat, balW (o : Int) s = true → s.length = o + 2 * m → rkB o m s < bw m o := by
 induction s with
 | nil => intro o m _ _; exact bw_pos m o
 | cons x s ih =>
  intro o m h hl
  rcases balW_step h hl with ⟨rfl, h1, h2, h3⟩ | ⟨rfl, h1, h2, h3⟩
  ·have := ih _ _ h2 h3
   obtain ⟨m, rfl⟩ : ∃ q, m = q + 1 := ⟨m - 1, by omega⟩
   have e := @low_one m o
   simp only [rkB, if_true, Nat.add_sub_cancel] at this ⊢
   omega
  ·have := ih _ _ h2 h3
   obtain ⟨o, rfl⟩ : ∃ q, o = q + 1 := ⟨o - 1, by omega⟩
   have e : bw m o ≤ bw m (o + 1) := low_le m (o + 1)
   simp only [rkB, if_neg (show ¬ (0 : Int) = 1 by decide), Nat.add_sub_cancel] at this ⊢
   omega

/-! ### the tables of the program and of the reference -/
/-- The next row: each number is that behind it and that before it. -/
def nxtC (prev : Int) : List Int → List Int
 | x :: y :: s => (y + prev) :: nxtC x (y :: s)
 | [_] => [0]
 | [] => []
theorem nxtC_len (s : List Int) : ∀ prev, (nxtC prev s).length = s.length := by
 induction s with
 | nil => intro prev; rfl
 | cons x s ih =>
  intro prev
  cases s with
  | nil => rfl
  | cons y s => simp only [nxtC, List.length_cons]; have := ih x; simp only [List.length_cons] at this; omega
theorem nxtC_bound (B : Int) (hB : 0 ≤ B) (s : List Int) : ∀ prev, (0 ≤ prev ∧ prev ≤ B) → (∀ x ∈ s, 0 ≤ x ∧ x ≤ B) → ∀ x ∈ nxtC prev s, 0 ≤ x ∧ x ≤ 2 * B := by
 induction s with
 | nil => intro prev _ _ x hx; simp [nxtC] at hx
 | cons a s ih =>
  intro prev hp hs x hx
  cases s with
  | nil => simp [nxtC] at hx; omega
  | cons y s =>
   have h1 := hs a (by simp)
   have h2 := hs y (by simp)
   simp only [nxtC, List.mem_cons] at hx
   rcases hx with hx | hx
   ·omega
   ·exact ih a h1 (fun z hz => hs z (List.mem_cons_of_mem _ hz)) x hx
/-- Row t of the program's table, place i. -/
def bcI : Nat → Nat → Nat
 | 0, 0 => 1
 | 0, _ + 1 => 0
 | t + 1, 0 => bcI t 1
 | t + 1, i + 1 => bcI t (i + 2) + bcI t i
theorem nxtC_get (s : List Int) : ∀ (prev : Int) (i : Nat), i + 1 < s.length → (nxtC prev s).getD i 0 = s.getD (i + 1) 0 + (if i = 0 then prev else s.getD (i - 1) 0) := by
 induction s with
 | nil => intro prev i h; simp at h
 | cons x s ih =>
  intro prev i h
  cases s with
  | nil => simp at h
  | cons y s =>
   cases i with
   | zero => simp [nxtC]
   | succ i =>
    have h' : i + 1 < (y :: s).length := by simp at h ⊢; omega
    have := ih x i h'
    simp only [nxtC, List.getD_cons_succ, this]
    cases i with
    | zero => simp
    | succ i => simp
def rowC (n : Nat) : Nat → List Int
 | 0 => 1 :: List.replicate n 0
 | t + 1 => nxtC 0 (rowC n t)
theorem rowC_len (n t : Nat) : (rowC n t).length = n + 1 := by
 induction t with
 | zero => simp [rowC]
 | succ t ih => simp [rowC, nxtC_len, ih]
theorem rowC_bound (n t : Nat) : ∀ x ∈ rowC n t, 0 ≤ x ∧ x ≤ 2 ^ t := by
 induction t with
 | zero =>
  intro x hx
  simp only [rowC, List.mem_cons, List.mem_replicate] at hx
  have : (2 : Int) ^ 0 = 1 := rfl
  rcases hx with hx | hx <;> omega
 | succ t ih =>
  intro x hx
  have h0 : (0 : Int) ≤ 2 ^ t := Int.le_of_lt (Int.pow_pos (by decide))
  have := nxtC_bound (2 ^ t) h0 (rowC n t) 0 ⟨Int.le_refl _, h0⟩ ih x hx
  rw [Int.pow_succ]; omega
theorem rowC_get (n t : Nat) : ∀ i, i + t ≤ n → (rowC n t).getD i 0 = ((bcI t i : Nat) : Int) := by
 induction t with
 | zero =>
  intro i hi
  cases i with
  | zero => rfl
  | succ i => simp [rowC, bcI, List.getD_eq_getElem?_getD, List.getElem?_replicate]; split <;> rfl
 | succ t ih =>
  intro i hi
  have hlen := rowC_len n t
  rw [rowC, nxtC_get _ _ _ (by omega), ih (i + 1) (by omega)]
  cases i with
  | zero => simp [bcI]
  | succ i =>
   rw [if_neg (by omega), Nat.add_sub_cancel, ih i (by omega)]
   simp [bcI]
theorem bcI_far (t : Nat) : ∀ i, t < i → bcI t i = 0 := by
 induction t with
 | zero => intro i h; cases i with
  | zero => omega
  | succ i => rfl
 | succ t ih =>
  intro i h
  cases i with
  | zero => omega
  | succ i => rw [bcI, ih (i + 2) (by omega), ih i (by omega)]
theorem bcI_diag (o : Nat) : bcI o o = 1 := by
 induction o with
 | zero => rfl
 | succ o ih => rw [bcI, bcI_far o (o + 2) (by omega), ih]
theorem bcI_bw (t : Nat) : ∀ o m, t = o + 2 * m → bcI t o = bw m o := by
 induction t with
 | zero =>
  intro o m h
  have h1 : o = 0 := by omega
  have h2 : m = 0 := by omega
  subst h1 h2; rfl
 | succ t ih =>
  intro o m h
  cases m with
  | zero =>
   have : o = t + 1 := by omega
   subst this
   rw [bcI_diag]; rfl
  | succ m =>
   cases o with
   | zero => rw [bcI, ih 1 m (by omega), bw_zero]
   | succ o => rw [bcI, ih (o + 2) m (by omega), ih o (m + 1) (by omega), bw_succ]

/-- The next row of the reference's table. -/
def nxtS (prev : Int) : List Int → List Int
 | _ :: y :: s => (y + prev) :: nxtS (y + prev) (y :: s)
 | [_] => [0]
 | [] => []
theorem nxtS_len (s : List Int) : ∀ prev, (nxtS prev s).length = s.length := by
 induction s with
 | nil => intro prev; rfl
 | cons x s ih =>
  intro prev
  cases s with
  | nil => rfl
  | cons y s => simp only [nxtS, List.length_cons]; have := ih (y + prev); simp only [List.length_cons] at this; omega
theorem nxtS_bound (B : Int) (s : List Int) : ∀ prev, 0 ≤ prev → (∀ x ∈ s, 0 ≤ x ∧ x ≤ B) → ∀ x ∈ nxtS prev s, 0 ≤ x ∧ x ≤ prev + B * s.length := by
 induction s with
 | nil => intro prev _ _ x hx; simp [nxtS] at hx
 | cons a s ih =>
  intro prev hp hs x hx
  have h1 := hs a (by simp)
  have hm : 0 ≤ B * (s.length : Int) := Int.mul_nonneg (by omega) (by omega)
  have he : B * ((a :: s).length : Int) = B + B * s.length := by simp [Int.mul_add]; omega
  cases s with
  | nil => simp [nxtS] at hx; subst hx; rw [he]; omega
  | cons y s =>
   have h2 := hs y (by simp)
   simp only [nxtS, List.mem_cons] at hx
   rw [he]
   rcases hx with hx | hx
   ·omega
   ·have := ih (y + prev) (by omega) (fun z hz => hs z (List.mem_cons_of_mem _ hz)) x hx
    omega
theorem nxtS_get (s : List Int) : ∀ (prev : Int) (i : Nat), i + 1 < s.length → (nxtS prev s).getD i 0 = s.getD (i + 1) 0 + (if i = 0 then prev else (nxtS prev s).getD (i - 1) 0) := by
 induction s with
 | nil => intro prev i h; simp at h
 | cons x s ih =>
  intro prev i h
  cases s with
  | nil => simp at h
  | cons y s =>
   cases i with
   | zero => simp [nxtS]
   | succ i =>
    have h' : i + 1 < (y :: s).length := by simp at h ⊢; omega
    have := ih (y + prev) i h'
    simp only [nxtS, List.getD_cons_succ, this]
    cases i with
    | zero => simp
    | succ i => simp
def rowS (n : Nat) : Nat → List Int
 | 0 => List.replicate (n + 1) 1
 | t + 1 => nxtS 0 (rowS n t)
theorem rowS_len (n t : Nat) : (rowS n t).length = n + 1 := by
 induction t with
 | zero => simp [rowS]
 | succ t ih => simp [rowS, nxtS_len, ih]
theorem rowS_bound (n t : Nat) : ∀ x ∈ rowS n t, 0 ≤ x ∧ x ≤ ((n : Int) + 1) ^ t := by
 induction t with
 | zero =>
  intro x hx
  simp only [rowS, List.mem_replicate] at hx
  have : ((n : Int) + 1) ^ 0 = 1 := rfl
  omega
 | succ t ih =>
  intro x hx
  have := nxtS_bound (((n : Int) + 1) ^ t) (rowS n t) 0 (Int.le_refl _) ih x hx
  rw [rowS_len] at this
  rw [Int.pow_succ]
  have e : ((n + 1 : Nat) : Int) = (n : Int) + 1 := by omega
  rw [e, Int.zero_add] at this
  exact this
theorem rowS_get (n t : Nat) : ∀ i, i + t ≤ n → (rowS n t).getD i 0 = ((bw t i : Nat) : Int) := by
 induction t with
 | zero =>
  intro i hi
  have e : (rowS n 0).getD i 0 = 1 := by
   simp [rowS, List.getD_eq_getElem?_getD, List.getElem?_replicate]
   rw [if_pos (by omega)]; rfl
  rw [e]; rfl
 | succ t ih =>
  intro i
  have hlen := rowS_len n t
  induction i with
  | zero =>
   intro hi
   rw [rowS, nxtS_get _ _ _ (by omega), ih 1 (by omega), bw_zero]
   simp
  | succ i ih2 =>
   intro hi
   have h2 := ih2 (by omega)
   rw [rowS] at h2 ⊢
   rw [nxtS_get _ _ _ (by omega), ih (i + 2) (by omega), if_neg (by omega), Nat.add_sub_cancel, h2, bw_succ]
   omega

theorem rowC_small {n t : Nat} (ht : t ≤ 30) : ∀ x ∈ rowC n t, 0 ≤ x ∧ x ≤ 1073741824 := by
 intro x hx
 have h1 := rowC_bound n t x hx
 have h2 : 2 ^ t ≤ 2 ^ 30 := Nat.pow_le_pow_right (by omega) ht
 have h3 : (2 : Nat) ^ 30 = 1073741824 := by decide +kernel
 have h4 : ((2 ^ t : Nat) : Int) = (2 : Int) ^ t := Int.natCast_pow 2 t
 omega
theorem rowS_small {n t : Nat} (hn : n ≤ 13) (ht : t ≤ 12) : ∀ x ∈ rowS n t, 0 ≤ x ∧ x ≤ 56693912375296 := by
 intro x hx
 have h1 := rowS_bound n t x hx
 have h2 : (n + 1) ^ t ≤ 14 ^ 12 := Nat.le_trans (Nat.pow_le_pow_right (by omega) ht) (Nat.pow_le_pow_left (by omega) 12)
 have h3 : (14 : Nat) ^ 12 = 56693912375296 := by decide +kernel
 have h4 : (((n + 1) ^ t : Nat) : Int) = ((n : Int) + 1) ^ t := Int.natCast_pow (n + 1) t
 omega
theorem bw_small {o m : Nat} (h : o + m ≤ 12) : bw m o ≤ 56693912375296 := by
 have h0 := rowS_get 13 m o (by omega)
 have hl := rowS_len 13 m
 have hmem : (rowS 13 m).getD o 0 ∈ rowS 13 m := by
  rw [List.getD_eq_getElem?_getD, List.getElem?_eq_getElem (by omega)]
  exact List.getElem_mem _
 have h1 := rowS_small (n := 13) (t := m) (by omega) (by omega) _ hmem
 omega

theorem low_zero (m : Nat) : lowB m 0 = 0 := rfl
theorem low_succ (m o : Nat) : lowB m (o + 1) = bw m o := rfl
theorem bw_last (o : Nat) : bw 0 o = 1 := rfl
attribute [irreducible] bw lowB bcI

theorem i_two {n : Nat} (h : n ≤ 1099511627776) : wrap64 (2 * (n : Int)) = ((2 * n : Nat) : Int) := by rw [w64 (by omega)]; omega
theorem i_plus1 {o : Nat} (h : o ≤ 1099511627776) : wrap64 (wrap64 ((o : Int) + (2 * 1)) - 1) = ((o + 1 : Nat) : Int) := by
 rw [w64 (n := (o : Int) + (2 * 1)) (by omega), w64 (by omega)]; omega
theorem i_minus1 {o : Nat} (h : o ≤ 1099511627776) : wrap64 (wrap64 (((o + 1 : Nat) : Int) + (2 * 0)) - 1) = (o : Int) := by
 rw [w64 (n := ((o + 1 : Nat) : Int) + (2 * 0)) (by omega), w64 (by omega)]; omega
/-- Ranks that there are. -/
def isBk (n rank : Int) : Bool := inB n 0 12 && inB rank 0 ((bw n.toNat 0 : Nat) - 1)
theorem isBk_true {n rank : Int} (h : isBk n rank = true) : 0 ≤ n ∧ n ≤ 12 := by
 unfold isBk at h
 rw [Bool.and_eq_true, inB_true] at h
 exact h.1

end Go.Proofs.Ytoledgkfohkfkaa.Core
