/- The word of a growth without a crossing is balanced, and its growth is the growth again; a growth is told by its blocks; no program is in sight here. -/
import Derived.Test.YtoledgkfohkfkaaCoreGx
namespace Go.Proofs.Ytoledgkfohkfkaa.Core
open Go.RowKit Go.Proofs.YtoledgkfohkfkaaW.PrintWords Go.Proofs.YtoledgkfohkfkaaW.PrintLast Go.Proofs.YtoledgkfohkfkaaW.PrintMore
set_option linter.unusedVariables false
set_option linter.unusedSimpArgs false

/-! ### two elements that stand the wrong way round, and a third, are a crossing -/
theorem hl_crK {y : Int} (s : List Int) (h : hl y s = true) : ∃ x, x ∈ s ∧ x < y ∧ crK x y s = true := by
 induction s with
 | nil => cases h
 | cons z s ih =>
  unfold hl at h
  rw [Bool.or_eq_true, Bool.and_eq_true, decide_eq_true_iff] at h
  rcases h with ⟨h1, h2⟩ | h
  ·refine ⟨z, List.mem_cons_self .., h1, ?_⟩
   unfold crK
   rw [decide_eq_true rfl, decide_eq_false (show ¬ z = y by omega), h2]; rfl
  ·obtain ⟨x, h1, h2, h3⟩ := ih h
   refine ⟨x, List.mem_cons_of_mem _ h1, h2, ?_⟩
   unfold crK
   rw [h3, Bool.or_true]
theorem hlh_cr (s : List Int) : ∀ (c : Nat), growW ((c : Int) - 1) s = true → hlh s = true → crI s = true ∨ ∃ x : Int, (0 ≤ x ∧ x < (c : Int)) ∧ crJ x s = true := by
 induction s with
 | nil => intro c _ h; cases h
 | cons y s ih =>
  intro c hg h
  obtain ⟨h1, h2⟩ := growW_next hg
  have hpos := growW_pos s _ h2
  unfold hlh at h
  rw [Bool.or_eq_true] at h
  rcases h with h | h
  ·obtain ⟨x, hx, hlt, hk⟩ := hl_crK s h
   refine .inr ⟨x, ⟨hpos x hx, by omega⟩, ?_⟩
   unfold crJ
   rw [hk]; rfl
  ·rcases ih _ h2 h with h3 | ⟨x, hx, h3⟩
   ·left; unfold crI; rw [h3, Bool.or_true]
   ·by_cases hc : x < (c : Int)
    ·right
     refine ⟨x, ⟨hx.1, hc⟩, ?_⟩
     unfold crJ; rw [h3, Bool.or_true]
    ·have e : x = y := by omega
     left
     unfold crI; rw [← e, h3]; rfl
theorem nocross_hlh {a : List Int} (hg : growW (((0 : Nat) : Int) - 1) a = true) (h : crI a = false) : hlh a = false := by
 cases hh : hlh a with
 | false => rfl
 | true =>
  rcases hlh_cr a 0 hg hh with h1 | ⟨x, hx, _⟩
  ·rw [h] at h1; cases h1
  ·omega

/-! ### the stack that lies behind a growth's beginning: of each block that is open as many as are still to come -/
def stk : Nat → List Int → List Int
 | 0, _ => []
 | c + 1, s => List.replicate (cnt (c : Int) s) (c : Int) ++ stk c s
theorem stk_nil (c : Nat) : stk c [] = [] := by
 induction c with
 | zero => rfl
 | succ c ih => rw [stk, ih]; rfl
theorem stk_ge (c : Nat) (x : Int) (s : List Int) (h : (c : Int) ≤ x) : stk c (x :: s) = stk c s := by
 induction c with
 | zero => rfl
 | succ c ih =>
  rw [stk, stk, ih (by omega)]
  have e : cnt (c : Int) (x :: s) = cnt (c : Int) s := by simp only [cnt]; rw [if_neg (by omega), Nat.zero_add]
  rw [e]
theorem stk_lt (c : Nat) (x : Int) (s : List Int) (h0 : 0 ≤ x) (hx : x < (c : Int)) (hz : ∀ y : Int, x < y → y < (c : Int) → cnt y s = 0) : stk c (x :: s) = x :: stk c s := by
 induction c with
 | zero => omega
 | succ c ih =>
  rw [stk, stk]
  by_cases e : x = (c : Int)
  ·rw [stk_ge c x s (by omega), ← e]
   have e2 : cnt x (x :: s) = cnt x s + 1 := by simp only [cnt, if_true]; omega
   rw [e2, List.replicate_succ]; rfl
  ·have e2 : cnt (c : Int) (x :: s) = 0 := by
    have := hz (c : Int) (by omega) (by omega)
    simp only [cnt]; rw [if_neg e, this]
   have e3 := hz (c : Int) (by omega) (by omega)
   rw [e2, e3, ih (by omega) (fun y h1 h2 => hz y h1 (by omega))]
   rfl
theorem gowF_ones (c : Nat) (j : Nat) : ∀ (st : List Int) (prev : Bool) (w : List Int), gowF st c prev (List.replicate (j + 1) 1 ++ w) = gowF (List.replicate (j + 1) (c : Int) ++ st) c true w := by
 induction j with
 | zero => intro st prev w; simp [gowF]
 | succ j ih =>
  intro st prev w
  rw [List.replicate_succ, List.cons_append, gowF, if_pos rfl, ih, List.replicate_succ' (n := j + 1)]
  simp
theorem balW_ones (j : Nat) : ∀ (o : Nat) (w : List Int), balW (o : Int) (List.replicate j 1 ++ w) = balW ((o + j : Nat) : Int) w := by
 induction j with
 | zero => intro o w; rfl
 | succ j ih =>
  intro o w
  rw [List.replicate_succ, List.cons_append, balW, inB_yes (by omega), decide_eq_true (by omega), Bool.true_and, Bool.true_and]
  have e : (o : Int) + (2 * 1 - 1) = ((o + 1 : Nat) : Int) := by omega
  rw [e, ih]
  congr 1
  omega
theorem balW_zero (o : Nat) (w : List Int) : balW ((o + 1 : Nat) : Int) (0 :: w) = balW (o : Int) w := by
 have e : ((o + 1 : Nat) : Int) + (2 * 0 - 1) = (o : Int) := by omega
 rw [balW, inB_yes (by omega), e, decide_eq_true (by omega), Bool.true_and, Bool.true_and]
theorem cnt_zero_of_has {y : Int} {s : List Int} (h : hasV y s = false) : cnt y s = 0 := by
 refine cnt_none (fun u hu e => ?_)
 have : hasV y s = true := by
  unfold hasV
  rw [List.any_eq_true]
  exact ⟨u, hu, decide_eq_true e⟩
 rw [h] at this; cases this
theorem gow_wogP (s : List Int) : ∀ (c : Nat) (p : List Int), (∀ y : Int, 0 ≤ y → (y ∈ p ↔ y < (c : Int))) → growW ((c : Int) - 1) s = true → (∀ y : Int, 0 ≤ y → y < (c : Int) → hl y s = false) → hlh s = false →
  balW ((stk c s).length : Int) (wogP p s) = true ∧ gowF (stk c s) c false (wogP p s) = s := by
 induction s with
 | nil =>
  intro c p _ _ _ _
  rw [stk_nil]
  exact ⟨rfl, rfl⟩
 | cons x s ih =>
  intro c p hp hg hh hlast
  obtain ⟨h1, h2⟩ := growW_next hg
  unfold hlh at hlast
  rw [Bool.or_eq_false_iff] at hlast
  have hstep : ∀ y : Int, 0 ≤ y → y < (c : Int) → (decide (x < y) && hasV y s) = false ∧ hl y s = false := by
   intro y y0 y1
   have := hh y y0 y1
   unfold hl at this
   exact Bool.or_eq_false_iff.1 this
  by_cases e : x = (c : Int)
  ·have hnp : ¬ x ∈ p := by rw [hp x h1.1]; omega
   have hmax : max c (x.toNat + 1) = c + 1 := by omega
   rw [hmax] at h2
   obtain ⟨i1, i2⟩ := ih (c + 1) (p ++ [x]) (fun y y0 => by
    rw [List.mem_append, List.mem_singleton, hp y y0]; omega) h2 (fun y y0 y1 => by
    by_cases ey : y = x
    ·rw [ey]; exact hlast.1
    ·exact (hstep y y0 (by omega)).2) hlast.2
   have hs : stk (c + 1) s = List.replicate (cnt x s) (c : Int) ++ stk c s := by rw [stk, ← e]
   rw [wogP, if_neg hnp, stk_ge c x s (by omega), Nat.add_comm 1]
   constructor
   ·rw [balW_ones, show (stk c s).length + (cnt x s + 1) = (stk (c + 1) s).length + 1 by rw [hs]; simp; omega, balW_zero]
    exact i1
   ·rw [gowF_ones, List.replicate_succ, List.cons_append, gowF_zero (by decide)]
    simp only [if_true]
    rw [← hs, i2, e]
  ·have hxp : x ∈ p := by rw [hp x h1.1]; omega
   have hmax : max c (x.toNat + 1) = c := by omega
   rw [hmax] at h2
   obtain ⟨i1, i2⟩ := ih c (p ++ [x]) (fun y y0 => by
    rw [List.mem_append, List.mem_singleton, hp y y0]; omega) h2 (fun y y0 y1 => (hstep y y0 y1).2) hlast.2
   have hs : stk c (x :: s) = x :: stk c s := stk_lt c x s h1.1 (by omega) (fun y y0 y1 => by
    have := (hstep y (by omega) y1).1
    rw [decide_eq_true y0, Bool.true_and] at this
    exact cnt_zero_of_has this)
   rw [wogP, if_pos hxp, List.nil_append, hs]
   constructor
   ·rw [List.length_cons, balW_zero]; exact i1
   ·rw [gowF_zero (by decide)]
    simp only [Bool.false_eq_true, if_false]
    rw [i2]
theorem wog_back {a : List Int} (h : isG a = true) (hc : crI a = false) : isB (wogW a) = true ∧ gowW (wogW a) = a ∧ (wogW a).length = 2 * a.length := by
 obtain ⟨h1, h2, h3⟩ := isG_true h
 have e : wogW a = wogP [] a := by
  unfold wogW
  rw [show (0 : Nat) = ([] : List Int).length from rfl, wogF_wogP a h1 a [] rfl]
 obtain ⟨i1, i2⟩ := gow_wogP a 0 [] (fun y y0 => by simp; omega) h1 (fun y y0 y1 => by omega) (nocross_hlh h1 hc)
 have hb : balW 0 (wogW a) = true := by rw [e]; exact i1
 have hgw : gowW (wogW a) = a := by rw [e]; exact i2
 have hl := gow_len (wogW a) [] 0 false hb
 have hl2 : (gowF [] 0 false (wogW a)).length = a.length := by rw [show gowF [] 0 false (wogW a) = gowW (wogW a) from rfl, hgw]
 rw [hl2] at hl
 simp only [List.length_nil] at hl
 refine ⟨?_, hgw, by omega⟩
 unfold isB
 rw [hb, Bool.true_and, decide_eq_true_iff]
 omega

/-! ### the blocks tell the growth -/
theorem blk_rows {a : List Int} (hg : growW (((0 : Nat) : Int) - 1) a = true) : blk a = (List.range (blk a).length).map fun x => idx 0 x a := by
 refine List.ext_getElem (by simp) fun x h1 h2 => ?_
 have := blkF_at x a 0 [] hg
 rw [show blkF 0 [] a = blk a from rfl, getD_at h1] at this
 rw [this]
 simp
theorem idx_mem (x : Nat) (s : List Int) : ∀ (i : Nat) (v : Int), v ∈ idx i x s ↔ ∃ j : Nat, j < s.length ∧ v = ((i + j : Nat) : Int) ∧ (s.getD j 0).toNat = x := by
 induction s with
 | nil => intro i v; simp [idx]
 | cons y s ih =>
  intro i v
  rw [idx]
  have hrest := ih (i + 1) v
  constructor
  ·intro h
   have key : v ∈ idx (i + 1) x s → ∃ j : Nat, j < (y :: s).length ∧ v = ((i + j : Nat) : Int) ∧ ((y :: s).getD j 0).toNat = x := fun h => by
    obtain ⟨j, h1, h2, h3⟩ := hrest.1 h
    exact ⟨j + 1, by simp; omega, by rw [h2]; omega, by simpa using h3⟩
   by_cases c : y.toNat = x
   ·rw [if_pos c] at h
    rcases List.mem_cons.1 h with h | h
    ·exact ⟨0, by simp, by rw [h]; omega, by simpa using c⟩
    ·exact key h
   ·rw [if_neg c] at h; exact key h
  ·rintro ⟨j, h1, h2, h3⟩
   cases j with
   | zero =>
    have c : y.toNat = x := by simpa using h3
    rw [if_pos c, h2]
    exact List.mem_cons_self ..
   | succ j =>
    have h4 : v ∈ idx (i + 1) x s := hrest.2 ⟨j, by simpa using h1, by rw [h2]; omega, by simpa using h3⟩
    by_cases c : y.toNat = x
    ·rw [if_pos c]; exact List.mem_cons_of_mem _ h4
    ·rw [if_neg c]; exact h4

end Go.Proofs.Ytoledgkfohkfkaa.Core
