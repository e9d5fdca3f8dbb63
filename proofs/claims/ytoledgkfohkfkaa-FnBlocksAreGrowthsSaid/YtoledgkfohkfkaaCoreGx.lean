/- The growth of a balanced word has no crossing, and its word is the word again; no program is in sight here. -/
import Derived.Test.YtoledgkfohkfkaaCoreGw
import Derived.Test.YtoledgkfohkfkaaCoreBk
namespace Go.Proofs.Ytoledgkfohkfkaa.Core
open Go.RowKit Go.Proofs.YtoledgkfohkfkaaW.PrintWords Go.Proofs.YtoledgkfohkfkaaW.PrintLast Go.Proofs.YtoledgkfohkfkaaW.PrintMore
set_option linter.unusedVariables false
set_option linter.unusedSimpArgs false

def cnt (y : Int) : List Int → Nat
 | [] => 0
 | x :: s => (if x = y then 1 else 0) + cnt y s
theorem cnt_app (y : Int) (p s : List Int) : cnt y (p ++ s) = cnt y p + cnt y s := by
 induction p with
 | nil => simp [cnt]
 | cons x p ih => simp only [List.cons_append, cnt, ih]; omega
theorem cnt_none {y : Int} {s : List Int} (h : ∀ u ∈ s, u ≠ y) : cnt y s = 0 := by
 induction s with
 | nil => rfl
 | cons x s ih => simp only [cnt]; rw [if_neg (h x (List.mem_cons_self ..)), ih fun u hu => h u (List.mem_cons_of_mem _ hu)]
theorem cnt_rep (y : Int) (j : Nat) : cnt y (List.replicate j y) = j := by
 induction j with
 | zero => rfl
 | succ j ih => rw [List.replicate_succ]; simp only [cnt, if_true, ih]; omega
theorem cnt_has {y : Int} {s : List Int} (h : cnt y s = 0) : hasV y s = false := by
 induction s with
 | nil => rfl
 | cons x s ih =>
  simp only [cnt] at h
  by_cases c : x = y
  ·rw [if_pos c] at h; omega
  ·have := ih (by omega)
   unfold hasV at this ⊢
   rw [List.any_cons, this, decide_eq_false c]; rfl
theorem gowF_zero {x : Int} (c1 : ¬ x = 1) (t : Int) (st : List Int) (c : Nat) (prev : Bool) (s : List Int) : gowF (t :: st) c prev (x :: s) = t :: gowF st (if prev = true then c + 1 else c) false s := by rw [gowF, if_neg c1]; rfl
/-- What is open comes out, each as often as it lies there. -/
theorem gow_cnt (s : List Int) : ∀ (st : List Int) (c : Nat) (prev : Bool) (y : Int), balW (st.length : Int) s = true → y < (c : Int) → cnt y (gowF st c prev s) = cnt y st := by
 induction s with
 | nil =>
  intro st c prev y hb hy
  have h0 : (st.length : Int) = 0 := of_decide_eq_true hb
  have : st = [] := List.eq_nil_of_length_eq_zero (by omega)
  subst this; rfl
 | cons x s ih =>
  intro st c prev y hb hy
  obtain ⟨h1, h2, h3⟩ := balW_cons hb
  by_cases c1 : x = 1
  ·rw [gowF, if_pos c1, ih _ c true y (by rw [c1] at h3; simpa using h3) hy]
   simp only [cnt]; rw [if_neg (by omega)]; omega
  ·have hx0 : x = 0 := by omega
   cases st with
   | nil => rw [hx0] at h2; simp at h2
   | cons t st =>
    have e : ((t :: st).length : Int) + (2 * x - 1) = (st.length : Int) := by rw [hx0]; simp; omega
    rw [e] at h3
    have := ih st (if prev = true then c + 1 else c) false y h3 (by split <;> omega)
    rw [gowF_zero c1]
    show _ + cnt y _ = _ + cnt y _
    rw [this]

/-! ### no crossing -/
def hl (y : Int) : List Int → Bool
 | [] => false
 | x :: s => (decide (x < y) && hasV y s) || hl y s
def hlh : List Int → Bool
 | [] => false
 | y :: s => hl y s || hlh s
theorem hasV_cons {y x : Int} {s : List Int} : hasV y (x :: s) = (decide (x = y) || hasV y s) := by simp [hasV]
theorem crK_hl {x y : Int} (s : List Int) (h : crK x y s = true) : x ≠ y ∧ hasV x s = true ∧ (x < y → hl y s = true) := by
 induction s with
 | nil => cases h
 | cons z s ih =>
  unfold crK at h
  rw [Bool.or_eq_true, Bool.and_eq_true, Bool.and_eq_true] at h
  rw [hasV_cons, Bool.or_eq_true]
  rcases h with ⟨⟨h1, h2⟩, h3⟩ | h
  ·have h1 := of_decide_eq_true h1
   have h2 : x ≠ y := by intro e; rw [decide_eq_true e] at h2; cases h2
   refine ⟨h2, .inl (by rw [← h1]; simp), fun hlt => ?_⟩
   unfold hl
   rw [← h1, h3, decide_eq_true hlt]; rfl
  ·obtain ⟨a, b, c⟩ := ih h
   refine ⟨a, .inr b, fun hlt => ?_⟩
   unfold hl
   rw [c hlt, Bool.or_true]
theorem crJ_hl {x : Int} (s : List Int) (h : crJ x s = true) : hl x s = true ∨ hlh s = true := by
 induction s with
 | nil => cases h
 | cons y s ih =>
  unfold crJ at h
  unfold hl hlh
  rw [Bool.or_eq_true] at h
  rcases h with h | h
  ·obtain ⟨a, b, c⟩ := crK_hl s h
   rcases Int.lt_or_gt_of_ne a with hlt | hgt
   ·exact .inr (by rw [c hlt]; rfl)
   ·exact .inl (by rw [b, decide_eq_true hgt]; rfl)
  ·rcases ih h with h | h
   ·exact .inl (by rw [h, Bool.or_true])
   ·exact .inr (by rw [h, Bool.or_true])
theorem crI_hlh (s : List Int) (h : crI s = true) : hlh s = true := by
 induction s with
 | nil => cases h
 | cons x s ih =>
  unfold crI at h
  unfold hlh
  rw [Bool.or_eq_true] at h
  rcases h with h | h
  ·rcases crJ_hl s h with h | h
   ·rw [h]; rfl
   ·rw [h, Bool.or_true]
  ·rw [ih h, Bool.or_true]
def descS : List Int → Prop
 | [] => True
 | t :: q => (∀ u ∈ q, u ≤ t) ∧ descS q
theorem gow_hl (s : List Int) : ∀ (st : List Int) (c : Nat) (prev : Bool) (y : Int), balW (st.length : Int) s = true → descS st → (∀ u ∈ st, u ≤ (c : Int)) → y < (c : Int) → hl y (gowF st c prev s) = false := by
 induction s with
 | nil => intro st c prev y _ _ _ _; rfl
 | cons x s ih =>
  intro st c prev y hb hd hu hy
  obtain ⟨h1, h2, h3⟩ := balW_cons hb
  by_cases c1 : x = 1
  ·rw [gowF, if_pos c1]
   exact ih _ c true y (by rw [c1] at h3; simpa using h3) ⟨hu, hd⟩ (fun u h => by rcases List.mem_cons.1 h with rfl | h; exact Int.le_refl _; exact hu u h) hy
  ·have hx0 : x = 0 := by omega
   cases st with
   | nil => rw [hx0] at h2; simp at h2
   | cons t st =>
    have e : ((t :: st).length : Int) + (2 * x - 1) = (st.length : Int) := by rw [hx0]; simp; omega
    rw [e] at h3
    have hc' : (c : Int) ≤ ((if prev = true then c + 1 else c : Nat) : Int) := by split <;> omega
    have hcnt := gow_cnt s st (if prev = true then c + 1 else c) false y h3 (by omega)
    have hrec := ih st (if prev = true then c + 1 else c) false y h3 hd.2 (fun u h => Int.le_trans (hu u (List.mem_cons_of_mem _ h)) hc') (by omega)
    rw [gowF_zero c1]
    unfold hl
    rw [hrec, Bool.or_false]
    by_cases ct : t < y
    ·have h0 : cnt y st = 0 := cnt_none (fun u h => by have := hd.1 u h; omega)
     rw [h0] at hcnt
     rw [cnt_has hcnt, Bool.and_false]
    ·rw [decide_eq_false ct]; rfl
theorem gow_hlh (s : List Int) : ∀ (st : List Int) (c : Nat) (prev : Bool), balW (st.length : Int) s = true → descS st → (∀ u ∈ st, u ≤ (c : Int) ∧ (prev = false → u < (c : Int))) → hlh (gowF st c prev s) = false := by
 induction s with
 | nil => intro st c prev _ _ _; rfl
 | cons x s ih =>
  intro st c prev hb hd hu
  obtain ⟨h1, h2, h3⟩ := balW_cons hb
  by_cases c1 : x = 1
  ·rw [gowF, if_pos c1]
   exact ih _ c true (by rw [c1] at h3; simpa using h3) ⟨fun u h => (hu u h).1, hd⟩ (fun u h => by rcases List.mem_cons.1 h with rfl | h; exact ⟨Int.le_refl _, fun h => by cases h⟩; exact ⟨(hu u h).1, fun h => by cases h⟩)
  ·have hx0 : x = 0 := by omega
   cases st with
   | nil => rw [hx0] at h2; simp at h2
   | cons t st =>
    have e : ((t :: st).length : Int) + (2 * x - 1) = (st.length : Int) := by rw [hx0]; simp; omega
    rw [e] at h3
    have hlt : ∀ u ∈ t :: st, u < ((if prev = true then c + 1 else c : Nat) : Int) := by
     intro u h
     obtain ⟨a, b⟩ := hu u h
     cases prev with
     | true => simp only [if_true]; omega
     | false => have := b rfl; simpa using this
    have hl1 := gow_hl s st (if prev = true then c + 1 else c) false t h3 hd.2 (fun u h => by have := hlt u (List.mem_cons_of_mem _ h); omega) (hlt t (List.mem_cons_self ..))
    have hrec := ih st (if prev = true then c + 1 else c) false h3 hd.2 (fun u h => by have := hlt u (List.mem_cons_of_mem _ h); exact ⟨by omega, fun _ => this⟩)
    rw [gowF_zero c1]
    unfold hlh
    rw [hl1, hrec]; rfl
theorem gowW_cross {w : List Int} (h : balW 0 w = true) : crI (gowW w) = false := by
 cases hc : crI (gowW w) with
 | false => rfl
 | true =>
  have h1 := crI_hlh _ hc
  rw [gowW, gow_hlh w [] 0 false h trivial (fun u hu => by cases hu)] at h1
  cases h1

/-! ### it is a growth -/
theorem gow_grow (s : List Int) : ∀ (st : List Int) (c : Nat) (prev : Bool), balW (st.length : Int) s = true → (∀ u ∈ st, 0 ≤ u ∧ u ≤ (c : Int) ∧ (prev = false → u < (c : Int))) → (prev = true → st.headD 0 = (c : Int)) → growW ((c : Int) - 1) (gowF st c prev s) = true := by
 induction s with
 | nil => intro st c prev _ _ _; rfl
 | cons x s ih =>
  intro st c prev hb hu hp
  obtain ⟨h1, h2, h3⟩ := balW_cons hb
  by_cases c1 : x = 1
  ·rw [gowF, if_pos c1]
   exact ih _ c true (by rw [c1] at h3; simpa using h3) (fun u h => by rcases List.mem_cons.1 h with rfl | h; exact ⟨by omega, Int.le_refl _, fun h => by cases h⟩; exact ⟨(hu u h).1, (hu u h).2.1, fun h => by cases h⟩) (fun _ => rfl)
  ·have hx0 : x = 0 := by omega
   cases st with
   | nil => rw [hx0] at h2; simp at h2
   | cons t st =>
    have e : ((t :: st).length : Int) + (2 * x - 1) = (st.length : Int) := by rw [hx0]; simp; omega
    rw [e] at h3
    obtain ⟨a, b, d⟩ := hu t (List.mem_cons_self ..)
    have hrec := ih st (if prev = true then c + 1 else c) false h3 (fun u h => by
     obtain ⟨a, b, d⟩ := hu u (List.mem_cons_of_mem _ h)
     cases prev with
     | true => simp only [if_true]; exact ⟨a, by omega, fun _ => by omega⟩
     | false => have := d rfl; exact ⟨a, by simpa using b, fun _ => by simpa using this⟩) (fun h => by cases h)
    rw [gowF_zero c1]
    unfold growW
    rw [inB_yes (by omega), Bool.true_and]
    cases prev with
    | true =>
     have ht : t = (c : Int) := hp rfl
     simp only [if_true] at hrec ⊢
     have e : max ((c : Int) - 1) t = ((c + 1 : Nat) : Int) - 1 := by omega
     rw [e]; exact hrec
    | false =>
     have := d rfl
     simp only [Bool.false_eq_true, if_false] at hrec ⊢
     have e : max ((c : Int) - 1) t = (c : Int) - 1 := by omega
     rw [e]; exact hrec
theorem gow_len (s : List Int) : ∀ (st : List Int) (c : Nat) (prev : Bool), balW (st.length : Int) s = true → 2 * (gowF st c prev s).length = s.length + st.length := by
 induction s with
 | nil =>
  intro st c prev hb
  have h0 : (st.length : Int) = 0 := of_decide_eq_true hb
  simp [gowF]; omega
 | cons x s ih =>
  intro st c prev hb
  obtain ⟨h1, h2, h3⟩ := balW_cons hb
  by_cases c1 : x = 1
  ·rw [gowF, if_pos c1]
   have := ih ((c : Int) :: st) c true (by rw [c1] at h3; simpa using h3)
   simp only [List.length_cons] at this ⊢; omega
  ·have hx0 : x = 0 := by omega
   cases st with
   | nil => rw [hx0] at h2; simp at h2
   | cons t st =>
    have e : ((t :: st).length : Int) + (2 * x - 1) = (st.length : Int) := by rw [hx0]; simp; omega
    rw [e] at h3
    have := ih st (if prev = true then c + 1 else c) false h3
    rw [gowF_zero c1]
    simp only [List.length_cons] at this ⊢; omega
theorem gowW_isG {w : List Int} (h : isB w = true) (h0 : 0 < w.length) : isG (gowW w) = true := by
 unfold isB at h
 rw [Bool.and_eq_true, decide_eq_true_iff] at h
 have hl := gow_len w [] 0 false h.1
 unfold isG
 rw [Bool.and_eq_true, inB_true]
 refine ⟨gow_grow w [] 0 false h.1 (fun u hu => by cases hu) (fun h => by cases h), ?_, ?_⟩
 ·unfold gowW; simp only [List.length_nil] at hl; omega
 ·unfold gowW; simp only [List.length_nil] at hl; omega

/-! ### its word is the word again -/
/-- Where x stands. -/
def idx : Nat → Nat → List Int → List Int
 | _, _, [] => []
 | i, x, y :: s => if y.toNat = x then (i : Int) :: idx (i + 1) x s else idx (i + 1) x s
theorem blkOne_at {B : List (List Int)} {y : Int} {i x : Nat} (h : 0 ≤ y ∧ y ≤ B.length) : (blkOne B y i).getD x [] = B.getD x [] ++ (if y.toNat = x then [(i : Int)] else []) := by
 unfold blkOne
 by_cases c : y.toNat = B.length
 ·rw [if_pos c]
  rcases Nat.lt_trichotomy x B.length with hx | hx | hx
  ·rw [if_neg (by omega), List.append_nil, getD_at hx, getD_at (by simp; omega), List.getElem_append_left hx]
  ·subst hx
   rw [if_pos c, getD_out (Nat.le_refl _), getD_at (by simp)]
   simp
  ·rw [if_neg (by omega), getD_out (by simp; omega), getD_out (by omega)]; rfl
 ·rw [if_neg c]
  have hlt : y.toNat < B.length := by omega
  by_cases cx : y.toNat = x
  ·subst cx
   rw [if_pos rfl, getD_at (B := B.set _ _) (by rw [List.length_set]; exact hlt), List.getElem_set_self]
  ·rw [if_neg cx, List.append_nil]
   by_cases hx : x < B.length
   ·rw [getD_at (B := B.set _ _) (by rw [List.length_set]; exact hx), List.getElem_set_ne cx, getD_at hx]
   ·rw [getD_out (B := B.set _ _) (by rw [List.length_set]; omega), getD_out (by omega)]
theorem blkF_at (x : Nat) (s : List Int) : ∀ (i : Nat) (B : List (List Int)), growW ((B.length : Int) - 1) s = true → (blkF i B s).getD x [] = B.getD x [] ++ idx i x s := by
 induction s with
 | nil => intro i B _; simp [blkF, idx]
 | cons y s ih =>
  intro i B h
  obtain ⟨h1, h2⟩ := growW_next h
  rw [← blkOne_len (i := i) h1] at h2
  rw [blkF, ih _ _ h2, blkOne_at h1, idx]
  split <;> simp
theorem idx_app (x : Nat) (p s : List Int) : ∀ i, idx i x (p ++ s) = idx i x p ++ idx (i + p.length) x s := by
 induction p with
 | nil => intro i; simp [idx]
 | cons y p ih =>
  intro i
  have e : i + (y :: p).length = i + 1 + p.length := by simp; omega
  simp only [List.cons_append, idx, ih, e]
  split <;> simp
theorem idx_none (x : Nat) (p : List Int) : ∀ i, (∀ u ∈ p, u.toNat ≠ x) → idx i x p = [] := by
 induction p with
 | nil => intro i _; rfl
 | cons y p ih =>
  intro i h
  rw [idx, if_neg (h y (List.mem_cons_self ..)), ih _ fun u hu => h u (List.mem_cons_of_mem _ hu)]
theorem idx_len (x : Nat) (s : List Int) : ∀ i, (∀ u ∈ s, 0 ≤ u) → (idx i x s).length = cnt (x : Int) s := by
 induction s with
 | nil => intro i _; rfl
 | cons y s ih =>
  intro i h
  have h0 := h y (List.mem_cons_self ..)
  have := ih (i + 1) fun u hu => h u (List.mem_cons_of_mem _ hu)
  rw [idx, cnt]
  by_cases c : y.toNat = x
  ·rw [if_pos c, if_pos (by omega), List.length_cons, this]; omega
  ·rw [if_neg c, if_neg (by omega), this]; omega
theorem idx_head (x : Nat) (p : List Int) : ∀ i, (∃ u ∈ p, u.toNat = x) → ∃ v r, idx i x p = v :: r ∧ v < ((i + p.length : Nat) : Int) := by
 induction p with
 | nil => intro i ⟨u, hu, _⟩; cases hu
 | cons y p ih =>
  intro i ⟨u, hu, hx⟩
  rw [idx]
  by_cases c : y.toNat = x
  ·rw [if_pos c]; exact ⟨_, _, rfl, by simp; omega⟩
  ·rw [if_neg c]
   rcases List.mem_cons.1 hu with rfl | hu
   ·exact absurd hx c
   ·obtain ⟨v, r, e, hv⟩ := ih (i + 1) ⟨u, hu, hx⟩
    exact ⟨v, r, e, by simp; omega⟩
/-- The word, told by what came before. -/
def wogP : List Int → List Int → List Int
 | _, [] => []
 | p, x :: s => (if x ∈ p then [] else List.replicate (1 + cnt x s) 1) ++ 0 :: wogP (p ++ [x]) s
theorem wogF_wogP (a : List Int) (ha : growW (((0 : Nat) : Int) - 1) a = true) (s : List Int) : ∀ p, a = p ++ s → wogF (blk a) p.length s = wogP p s := by
 induction s with
 | nil => intro p _; rfl
 | cons x s ih =>
  intro p hp
  have hpos := growW_pos a _ ha
  have hx : 0 ≤ x := hpos x (by rw [hp]; simp)
  have hrec := ih (p ++ [x]) (by rw [hp]; simp)
  have ep : (p ++ [x]).length = p.length + 1 := by simp
  rw [ep] at hrec
  have hB : (blk a).getD x.toNat [] = idx 0 x.toNat p ++ (p.length : Int) :: idx (p.length + 1) x.toNat s := by
   have := blkF_at x.toNat a 0 [] ha
   rw [show (blk a) = blkF 0 [] a from rfl, this, hp, idx_app]
   simp [idx]
  rw [wogF, wogP, hrec]
  congr 1
  by_cases c : x ∈ p
  ·obtain ⟨v, r, e, hv⟩ := idx_head x.toNat p 0 ⟨x, c, rfl⟩
   rw [if_pos c, hB, e, if_neg]
   simp only [List.cons_append]
   have : rd (v :: (r ++ (p.length : Int) :: idx (p.length + 1) x.toNat s)) 0 = v := by simp [rd]
   rw [this]; omega
  ·have e : idx 0 x.toNat p = [] := idx_none _ _ _ fun u hu he => c (by
    have := hpos u (by rw [hp]; exact List.mem_append_left _ hu)
    have : u = x := by omega
    rw [← this]; exact hu)
   rw [if_neg c, hB, e, List.nil_append, if_pos (by simp [rd]), List.length_cons, idx_len _ _ _ fun u hu => hpos u (by rw [hp]; simp [hu])]
   have e2 : ((x.toNat : Nat) : Int) = x := by omega
   rw [e2, Nat.add_comm]
theorem wogP_gow (s : List Int) : ∀ (c : Nat) (p st : List Int), (∀ y, 0 ≤ y → (y ∈ p ↔ y < (c : Int))) → (∀ u ∈ st, 0 ≤ u ∧ u < (c : Int)) →
  (balW (st.length : Int) s = true → wogP p (gowF st c false s) = s) ∧ (∀ j : Nat, balW ((j + 1 + st.length : Nat) : Int) s = true → wogP p (gowF (List.replicate (j + 1) (c : Int) ++ st) c true s) = List.replicate (j + 1) 1 ++ s) := by
 induction s with
 | nil =>
  intro c p st hp hs
  refine ⟨fun _ => rfl, fun j h => ?_⟩
  have h0 : ((j + 1 + st.length : Nat) : Int) = 0 := of_decide_eq_true h
  omega
 | cons x s ih =>
  intro c p st hp hs
  by_cases c1 : x = 1
  ·subst c1
   obtain ⟨i1, i2⟩ := ih c p st hp hs
   constructor
   ·intro h
    obtain ⟨h1, h2, h3⟩ := balW_cons h
    have := i2 0 (by
     have e : (st.length : Int) + (2 * 1 - 1) = ((0 + 1 + st.length : Nat) : Int) := by omega
     rw [e] at h3; exact h3)
    rw [gowF, if_pos rfl]
    exact this
   ·intro j h
    obtain ⟨h1, h2, h3⟩ := balW_cons h
    have := i2 (j + 1) (by
     have e : ((j + 1 + st.length : Nat) : Int) + (2 * 1 - 1) = ((j + 1 + 1 + st.length : Nat) : Int) := by omega
     rw [e] at h3; exact h3)
    rw [gowF, if_pos rfl]
    have e : (c : Int) :: (List.replicate (j + 1) (c : Int) ++ st) = List.replicate (j + 1 + 1) (c : Int) ++ st := by rw [List.replicate_succ (n := j + 1)]; rfl
    rw [e, this, List.replicate_succ' (n := j + 1)]
    simp
  ·constructor
   ·intro h
    obtain ⟨h1, h2, h3⟩ := balW_cons h
    have hx0 : x = 0 := by omega
    cases st with
    | nil => rw [hx0] at h2; simp at h2
    | cons t st =>
     have ht := hs t (List.mem_cons_self ..)
     have htp := (hp t ht.1).2 ht.2
     have e : ((t :: st).length : Int) + (2 * x - 1) = (st.length : Int) := by rw [hx0]; simp; omega
     rw [e] at h3
     have := (ih c (p ++ [t]) st (fun y hy => by
      rw [List.mem_append, List.mem_singleton, hp y hy]
      constructor
      ·rintro (h | rfl)
       ·exact h
       ·exact ht.2
      ·exact .inl) (fun u hu => hs u (List.mem_cons_of_mem _ hu))).1 h3
     rw [gowF_zero c1, wogP, if_pos htp]
     simp only [Bool.false_eq_true, if_false, List.nil_append]
     rw [this, hx0]
   ·intro j h
    obtain ⟨h1, h2, h3⟩ := balW_cons h
    have hx0 : x = 0 := by omega
    have hst : ∀ u ∈ List.replicate j (c : Int) ++ st, 0 ≤ u ∧ u < ((c + 1 : Nat) : Int) := by
     intro u hu
     rcases List.mem_append.1 hu with hu | hu
     ·rw [(List.mem_replicate.1 hu).2]; omega
     ·have := hs u hu; omega
    have e : ((j + 1 + st.length : Nat) : Int) + (2 * x - 1) = ((List.replicate j (c : Int) ++ st).length : Int) := by rw [hx0]; simp; omega
    rw [e] at h3
    have hrec := (ih (c + 1) (p ++ [(c : Int)]) (List.replicate j (c : Int) ++ st) (fun y hy => by
     rw [List.mem_append, List.mem_singleton, hp y hy]
     omega) hst).1 h3
    have hc : ¬ (c : Int) ∈ p := by rw [hp _ (by omega)]; omega
    have hcnt := gow_cnt s (List.replicate j (c : Int) ++ st) (c + 1) false (c : Int) h3 (by omega)
    have hc0 : cnt (c : Int) st = 0 := cnt_none (fun u hu => by have := hs u hu; omega)
    rw [cnt_app, cnt_rep, hc0] at hcnt
    have e2 : List.replicate (j + 1) (c : Int) ++ st = (c : Int) :: (List.replicate j (c : Int) ++ st) := by rw [List.replicate_succ]; rfl
    rw [e2, gowF_zero c1, wogP, if_neg hc]
    rw [if_pos rfl, hcnt, hx0, Nat.add_zero, Nat.add_comm 1 j]
    show _ ++ (0 : Int) :: wogP (p ++ [(c : Int)]) (gowF (List.replicate j (c : Int) ++ st) (c + 1) false s) = _
    rw [hrec]
theorem wog_gow {w : List Int} (h : balW 0 w = true) : wogW (gowW w) = w := by
 have hg : growW (((0 : Nat) : Int) - 1) (gowW w) = true := gow_grow w [] 0 false h (fun u hu => by cases hu) (fun h => by cases h)
 unfold wogW
 rw [show (0 : Nat) = ([] : List Int).length from rfl, wogF_wogP (gowW w) hg (gowW w) [] rfl]
 exact (wogP_gow w 0 [] [] (fun y hy => by simp; omega) (fun u hu => by cases hu)).1 h

/-! ### the word with a rank -/
theorem unB_step {m o rank : Nat} (h : rank < bw m o) (hl : lowB m o ≤ rank) (hr : 0 < o + 2 * m) : ∃ m', m = m' + 1 ∧ rank - lowB m o < bw m' (o + 1) := by
 cases m with
 | zero =>
  cases o with
  | zero => omega
  | succ o => rw [low_succ, bw_last] at hl; rw [bw_last] at h; omega
 | succ m =>
  have := @low_one m o
  exact ⟨m, rfl, by omega⟩
theorem unB_low {m o rank : Nat} (hl : ¬ lowB m o ≤ rank) : ∃ o', o = o' + 1 ∧ rank < bw m o' := by
 cases o with
 | zero => rw [low_zero] at hl; omega
 | succ o => rw [low_succ] at hl; exact ⟨o, rfl, by omega⟩
theorem unB_bal (r : Nat) : ∀ o m rank, r = o + 2 * m → rank < bw m o → balW (o : Int) (unB r o m rank) = true ∧ rkB o m (unB r o m rank) = rank := by
 induction r with
 | zero =>
  intro o m rank hr h
  have ho : o = 0 := by omega
  have hm : m = 0 := by omega
  subst ho; subst hm
  rw [bw_last] at h
  exact ⟨rfl, by simp [unB, rkB]; omega⟩
 | succ r ih =>
  intro o m rank hr h
  unfold unB
  by_cases c : lowB m o ≤ rank
  ·rw [if_pos c]
   obtain ⟨m', rfl, h'⟩ := unB_step h c (by omega)
   obtain ⟨i1, i2⟩ := ih (o + 1) m' (rank - lowB (m' + 1) o) (by omega) h'
   rw [Nat.add_sub_cancel]
   constructor
   ·unfold balW
    have e : (o : Int) + (2 * 1 - 1) = ((o + 1 : Nat) : Int) := by omega
    rw [e, i1, inB_yes (by omega), decide_eq_true (by omega)]; rfl
   ·unfold rkB
    rw [if_pos rfl, Nat.add_sub_cancel, i2]; omega
  ·rw [if_neg c]
   obtain ⟨o', rfl, h'⟩ := unB_low c
   obtain ⟨i1, i2⟩ := ih o' m rank (by omega) h'
   rw [Nat.add_sub_cancel]
   constructor
   ·unfold balW
    have e : ((o' + 1 : Nat) : Int) + (2 * 0 - 1) = (o' : Int) := by omega
    rw [e, i1, inB_yes (by omega), decide_eq_true (by omega)]; rfl
   ·unfold rkB
    rw [if_neg (by decide), Nat.add_sub_cancel, i2]
theorem unB_lt (r : Nat) : ∀ o m a b, r = o + 2 * m → a < b → b < bw m o → lexLt (unB r o m a) (unB r o m b) = true := by
 induction r with
 | zero =>
  intro o m a b hr hab h
  have ho : o = 0 := by omega
  have hm : m = 0 := by omega
  subst ho; subst hm
  rw [bw_last] at h; omega
 | succ r ih =>
  intro o m a b hr hab h
  unfold unB
  by_cases ca : lowB m o ≤ a
  ·rw [if_pos ca, if_pos (by omega)]
   obtain ⟨m', rfl, h'⟩ := unB_step h (show lowB m o ≤ b by omega) (by omega)
   rw [Nat.add_sub_cancel]
   unfold lexLt
   rw [if_pos rfl]
   exact ih (o + 1) m' _ _ (by omega) (by omega) h'
  ·rw [if_neg ca]
   by_cases cb : lowB m o ≤ b
   ·rw [if_pos cb]; unfold lexLt; rw [if_neg (by decide)]; rfl
   ·rw [if_neg cb]
    obtain ⟨o', rfl, h'⟩ := unB_low cb
    rw [Nat.add_sub_cancel]
    unfold lexLt
    rw [if_pos rfl]
    exact ih o' m a b (by omega) hab h'

end Go.Proofs.Ytoledgkfohkfkaa.Core
