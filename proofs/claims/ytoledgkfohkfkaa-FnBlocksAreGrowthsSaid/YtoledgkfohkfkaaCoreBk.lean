/- The blocks of a growth; no program is in sight here. -/
import Derived.Test.YtoledgkfohkfkaaCoreG
namespace Go.Proofs.Ytoledgkfohkfkaa.Core
open Go.RowKit Go.Proofs.YtoledgkfohkfkaaW.PrintWords Go.Proofs.YtoledgkfohkfkaaW.PrintLast Go.Proofs.YtoledgkfohkfkaaW.PrintMore
set_option linter.unusedVariables false
set_option linter.unusedSimpArgs false

theorem getD_at {B : List (List Int)} {n : Nat} (h : n < B.length) : B.getD n [] = B[n] := by simp [List.getD_eq_getElem?_getD, h]
theorem getD_out {B : List (List Int)} {n : Nat} (h : B.length ≤ n) : B.getD n [] = [] := by simp [List.getD_eq_getElem?_getD, h]
/-- The blocks B with the element i put into block x: a new one behind them all if x is their number. -/
def blkOne (B : List (List Int)) (x : Int) (i : Nat) : List (List Int) :=
 if x.toNat = B.length then B ++ [[(i : Int)]] else B.set x.toNat (B.getD x.toNat [] ++ [(i : Int)])
def blkF : Nat → List (List Int) → List Int → List (List Int)
 | _, B, [] => B
 | i, B, x :: s => blkF (i + 1) (blkOne B x i) s
def blk (a : List Int) : List (List Int) := blkF 0 [] a
/-- How many blocks there are behind s, if there were k. -/
def topK : Nat → List Int → Nat
 | k, [] => k
 | k, x :: s => topK (max k (x.toNat + 1)) s
theorem topK_ge (s : List Int) : ∀ k, k ≤ topK k s := by
 induction s with
 | nil => intro k; exact Nat.le_refl _
 | cons x s ih => intro k; have := ih (max k (x.toNat + 1)); simp only [topK]; omega
theorem topK_fold (s : List Int) : ∀ k : Nat, growW ((k : Int) - 1) s = true → s.foldl max ((k : Int) - 1) = (topK k s : Int) - 1 := by
 induction s with
 | nil => intro k _; rfl
 | cons x s ih =>
  intro k h
  obtain ⟨h1, h2⟩ := growW_next h
  have := ih _ h2
  simp only [List.foldl_cons, topK]
  rw [← this]
  congr 1
  omega
theorem topK_le (s : List Int) : ∀ k : Nat, growW ((k : Int) - 1) s = true → topK k s ≤ k + s.length := by
 induction s with
 | nil => intro k _; exact Nat.le_refl _
 | cons x s ih =>
  intro k h
  obtain ⟨h1, h2⟩ := growW_next h
  have := ih _ h2
  simp only [topK, List.length_cons]; omega
theorem blkOne_len {B : List (List Int)} {x : Int} {i : Nat} (h : 0 ≤ x ∧ x ≤ B.length) : (blkOne B x i).length = max B.length (x.toNat + 1) := by
 unfold blkOne
 split
 ·simp; omega
 ·simp; omega
theorem blkOne_row {B : List (List Int)} {x : Int} {i n : Nat} (hn : 1 ≤ n) (h : ∀ y ∈ B, y.length + 1 ≤ n) : ∀ y ∈ blkOne B x i, y.length ≤ n := by
 intro y hy
 unfold blkOne at hy
 split at hy
 ·rcases List.mem_append.1 hy with hy | hy
  ·have := h y hy; omega
  ·obtain rfl := List.mem_singleton.1 hy; simpa using hn
 ·rename_i hne
  rcases List.mem_or_eq_of_mem_set hy with hy | rfl
  ·have := h y hy; omega
  ·rw [List.length_append]
   by_cases c : x.toNat < B.length
   ·have := h (B.getD x.toNat []) (by rw [getD_at c]; exact List.getElem_mem _)
    simpa using this
   ·rw [getD_out (by omega)]; simpa using hn
theorem blkF_row (s : List Int) : ∀ (i : Nat) (B : List (List Int)) (n : Nat), (∀ y ∈ B, y.length + s.length ≤ n) → s.length ≤ n → ∀ y ∈ blkF i B s, y.length ≤ n := by
 induction s with
 | nil => intro i B n h _ y hy; have := h y hy; simpa using this
 | cons x s ih =>
  intro i B n h hs y hy
  rw [List.length_cons] at hs
  refine ih (i + 1) (blkOne B x i) n ?_ (by omega) y hy
  intro z hz
  have := blkOne_row (n := n - s.length) (by omega) (fun u hu => by have := h u hu; simp only [List.length_cons] at this; omega) z hz
  omega
theorem blkF_len (s : List Int) : ∀ (i : Nat) (B : List (List Int)), growW ((B.length : Int) - 1) s = true → (blkF i B s).length = topK B.length s := by
 induction s with
 | nil => intro i B _; rfl
 | cons x s ih =>
  intro i B h
  obtain ⟨h1, h2⟩ := growW_next h
  simp only [blkF, topK]
  rw [← blkOne_len (i := i) h1] at h2 ⊢
  exact ih _ _ h2
/-- With room behind it for the blocks that are still to come. -/
theorem blkOne_room {B : List (List Int)} {x : Int} {i r : Nat} (h : 0 ≤ x ∧ x ≤ B.length) (hr : max B.length (x.toNat + 1) ≤ B.length + r) :
  (B ++ List.replicate r []).set x.toNat ((B ++ List.replicate r []).getD x.toNat [] ++ [(i : Int)]) = blkOne B x i ++ List.replicate (B.length + r - max B.length (x.toNat + 1)) [] := by
 unfold blkOne
 by_cases c : x.toNat = B.length
 ·rw [if_pos c, c]
  obtain ⟨r, rfl⟩ : ∃ q, r = q + 1 := ⟨r - 1, by omega⟩
  have e : B.length + (r + 1) - max B.length (B.length + 1) = r := by omega
  rw [e, List.replicate_succ, ← c]
  simp [c]
 ·rw [if_neg c]
  have hlt : x.toNat < B.length := by omega
  have e : B.length + r - max B.length (x.toNat + 1) = r := by omega
  rw [e, List.set_append_left _ _ hlt]
  congr 2
  rw [getD_at (by rw [List.length_append]; omega), getD_at hlt, List.getElem_append_left hlt]

/-! ### the balanced word of a growth without a crossing -/
theorem blkOne_full {B : List (List Int)} {x : Int} {i : Nat} (h : ∀ y ∈ B, 0 < y.length) : ∀ y ∈ blkOne B x i, 0 < y.length := by
 intro y hy
 unfold blkOne at hy
 split at hy
 ·rcases List.mem_append.1 hy with hy | hy
  ·exact h y hy
  ·obtain rfl := List.mem_singleton.1 hy; simp
 ·rcases List.mem_or_eq_of_mem_set hy with hy | rfl
  ·exact h y hy
  ·simp
theorem blkF_full (s : List Int) : ∀ (i : Nat) (B : List (List Int)), (∀ y ∈ B, 0 < y.length) → ∀ y ∈ blkF i B s, 0 < y.length := by
 induction s with
 | nil => intro i B h; exact h
 | cons x s ih => intro i B h; exact ih _ _ (blkOne_full h)
theorem topK_mem (s : List Int) : ∀ (k : Nat), ∀ x ∈ s, x.toNat + 1 ≤ topK k s := by
 induction s with
 | nil => intro k x hx; cases hx
 | cons y s ih =>
  intro k x hx
  simp only [topK]
  rcases List.mem_cons.1 hx with rfl | hx
  ·have := topK_ge s (max k (x.toNat + 1)); omega
  ·exact ih _ x hx
theorem growW_pos (s : List Int) : ∀ (m : Int), growW m s = true → ∀ x ∈ s, 0 ≤ x := by
 induction s with
 | nil => intro m _ x hx; cases hx
 | cons y s ih =>
  intro m h x hx
  obtain ⟨h1, h2⟩ := growW_cons h
  rcases List.mem_cons.1 hx with rfl | hx
  ·exact h1.1
  ·exact ih _ h2 x hx
/-- A one for each element of the block, where the block begins; a nought for each element. -/
def wogF (B : List (List Int)) : Nat → List Int → List Int
 | _, [] => []
 | i, x :: s => (if rd (B.getD x.toNat []) 0 = (i : Int) then List.replicate (B.getD x.toNat []).length 1 else []) ++ 0 :: wogF B (i + 1) s
def wogW (a : List Int) : List Int := wogF (blk a) 0 a
/-- What the rounds ask of the blocks. -/
def blkFor (B : List (List Int)) (a : List Int) : Prop := ∀ x ∈ a, 0 ≤ x ∧ x < B.length ∧ 0 < (B.getD x.toNat []).length ∧ (B.getD x.toNat []).length ≤ 12
theorem blk_for {l : List Int} (h : isG l = true) : blkFor (blk l) l := by
 obtain ⟨h1, h2, h3⟩ := isG_true h
 intro x hx
 have h0 := growW_pos l _ h1 x hx
 have h4 := topK_mem l 0 x hx
 have h5 : (blk l).length = topK 0 l := blkF_len l 0 [] h1
 have hlt : x.toNat < (blk l).length := by omega
 have hm : (blk l).getD x.toNat [] ∈ blk l := by rw [getD_at hlt]; exact List.getElem_mem _
 exact ⟨h0, by omega, blkF_full l 0 [] (fun y hy => by cases hy) _ hm, blkF_row l 0 [] 12 (fun y hy => by cases hy) (by omega) _ hm⟩
theorem wogF_len (B : List (List Int)) (s : List Int) : ∀ i, blkFor B s → (wogF B i s).length ≤ 13 * s.length := by
 induction s with
 | nil => intro i _; simp [wogF]
 | cons x s ih =>
  intro i h
  have h1 := h x (List.mem_cons_self ..)
  have := ih (i + 1) (fun y hy => h y (List.mem_cons_of_mem _ hy))
  simp only [wogF, List.length_append, List.length_cons]
  split
  ·rw [List.length_replicate]; omega
  ·simp; omega

end Go.Proofs.Ytoledgkfohkfkaa.Core
