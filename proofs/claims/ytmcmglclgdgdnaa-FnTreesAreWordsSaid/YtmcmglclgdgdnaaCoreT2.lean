/- Trees and words undo each other; no program is in sight here. -/
import Derived.Test.YtmcmglclgdgdnaaCoreT
namespace Go.Proofs.Ytmcmglclgdgdnaa.Core
open Go.RowKit Go.Proofs.YtmcmglclgdgdnaaW.PrintWords Go.Proofs.YtmcmglclgdgdnaaW.PrintLast Go.Proofs.YtmcmglclgdgdnaaW.PrintMore
set_option linter.unusedVariables false
set_option linter.unusedSimpArgs false

theorem balW_zeros (z : Nat) : ∀ (o : Nat) (s : List Int), z ≤ o → balW (o : Int) (List.replicate z 0 ++ s) = balW ((o - z : Nat) : Int) s := by
  induction z with
  | zero => intro o s _; simp
  | succ z ih =>
    intro o s h
    rw [List.replicate_succ, List.cons_append, balW, inB_yes (by omega), Bool.true_and, decide_eq_true (by omega), Bool.true_and]
    have e : (o : Int) + (2 * 0 - 1) = ((o - 1 : Nat) : Int) := by omega
    rw [e, ih (o - 1) s (by omega)]
    congr 2
    omega
theorem parS_zeros (u : List Int) : ∀ (t : List Int) (c : Int) (s : List Int), parS (u ++ t) c (List.replicate u.length 0 ++ s) = parS t c s := by
  induction u with
  | nil => intro t c s; rfl
  | cons a u ih =>
    intro t c s
    simp only [List.length_cons, List.replicate_succ, List.cons_append, parS]
    rw [if_neg (by decide)]
    exact ih t c s
/-- The word of a parents list is balanced, and its parents list is that list. -/
theorem tree_back (s : List Int) : ∀ (st : List Int) (i : Int) (w : List Int), st ≠ [] → treeW st i s = some w → balW ((st.length - 1 : Nat) : Int) w = true ∧ parS st i w = s := by
  induction s with
  | nil =>
    intro st i w hs h
    simp only [treeW, Option.some.injEq] at h
    subst h
    refine ⟨?_, ?_⟩
    · have := balW_zeros (st.length - 1) (st.length - 1) [] (Nat.le_refl _)
      rw [List.append_nil] at this
      rw [this, Nat.sub_self]; rfl
    · obtain ⟨a, t, rfl⟩ : ∃ a t, st = a :: t := by
        cases st with
        | nil => exact absurd rfl hs
        | cons a t => exact ⟨a, t, rfl⟩
      have e : (a :: t).dropLast ++ [(a :: t).getLast (by simp)] = a :: t := List.dropLast_concat_getLast (by simp)
      have el : (a :: t).dropLast.length = (a :: t).length - 1 := List.length_dropLast
      have := parS_zeros (a :: t).dropLast [(a :: t).getLast (by simp)] i []
      rw [e, el, List.append_nil] at this
      exact this
  | cons p s ih =>
    intro st i w hs h
    unfold treeW at h
    cases hp : popTo p st with
    | none => rw [hp] at h; cases h
    | some q =>
      obtain ⟨z, t⟩ := q
      rw [hp] at h
      simp only [Option.map_eq_some_iff] at h
      obtain ⟨w', h1, h2⟩ := h
      obtain ⟨u, v, e1, e2, e3, e4⟩ := popTo_some st z t hp
      obtain ⟨hb, hq⟩ := ih _ _ _ (by simp) h1
      subst e2 e3 e1 h2
      refine ⟨?_, ?_⟩
      · have el : (u ++ p :: v).length - 1 = u.length + v.length := by simp
        rw [el, balW_zeros u.length _ _ (by omega), balW, inB_yes (by omega), Bool.true_and, decide_eq_true (by omega), Bool.true_and]
        have e : ((u.length + v.length - u.length : Nat) : Int) + (2 * 1 - 1) = (((i :: p :: v).length - 1 : Nat) : Int) := by simp
        rw [e]; exact hb
      · rw [parS_zeros, parS, if_pos rfl, hq]; rfl
theorem treeR_back {l w : List Int} (h : treeR l = (w, true)) : isB w = true ∧ parS [-1] 0 w = l := by
  unfold treeR at h
  split at h
  · simp at h
  · rename_i hl
    split at h
    · simp at h
    · rename_i w' hw
      simp only [Prod.mk.injEq, and_true] at h
      subst h
      obtain ⟨h1, h2⟩ := tree_back l [-1] 0 w' (by simp) hw
      have := treeW_len l [-1] 0 w' (by simp) hw
      refine ⟨?_, h2⟩
      unfold isB
      have h3 : balW 0 w' = true := h1
      rw [h3, Bool.true_and, decide_eq_true_iff]
      simp at this
      omega
/-- The parents list of a balanced word leads back to it. -/
theorem word_back (s : List Int) : ∀ (u t : List Int) (i : Int) (o : Nat), balW (o : Int) s = true → t.length = o + 1 → (u ++ t).Nodup → (∀ x ∈ u ++ t, x < i) →
    treeW (u ++ t) i (parS t i s) = some (List.replicate u.length 0 ++ s) := by
  induction s with
  | nil =>
    intro u t i o h ht hn hi
    unfold balW at h
    rw [decide_eq_true_iff] at h
    have : (u ++ t).length - 1 = u.length := by simp; omega
    simp only [parS, treeW, this, List.append_nil]
  | cons x s ih =>
    intro u t i o h ht hn hi
    unfold balW at h
    rw [Bool.and_eq_true, Bool.and_eq_true, inB_true, decide_eq_true_iff] at h
    obtain ⟨h1, h2, h3⟩ := h
    obtain ⟨a, v, rfl⟩ : ∃ a v, t = a :: v := by
      cases t with
      | nil => simp at ht
      | cons a v => exact ⟨a, v, rfl⟩
    have hv : v.length = o := by simpa using ht
    by_cases hx : x = 1
    · subst hx
      have e : (o : Int) + (2 * 1 - 1) = ((o + 1 : Nat) : Int) := by omega
      rw [e] at h3
      rw [parS, if_pos rfl]
      show treeW (u ++ a :: v) i (a :: parS (i :: a :: v) (i + 1) s) = _
      have hau : a ∉ u := fun hau => by
        have := (List.nodup_append.1 hn).2.2 a hau a (List.mem_cons_self ..)
        exact this rfl
      rw [treeW, popTo_has u v hau]
      simp only
      have hn2 : (a :: v).Nodup := (List.nodup_append.1 hn).2.1
      have hi2 : ∀ x ∈ a :: v, x < i := fun x hx => hi x (List.mem_append_right _ hx)
      have := ih [] (i :: a :: v) (i + 1) (o + 1) h3 (by simp; omega) (List.nodup_cons.2 ⟨fun hm => by have := hi2 i hm; omega, hn2⟩) (fun y hy => by
        rcases List.mem_cons.1 hy with rfl | hy
        · omega
        · have := hi2 y hy; omega)
      simp only [List.nil_append, List.length_nil, List.replicate_zero] at this
      rw [this]
      rfl
    · have hx0 : x = 0 := by omega
      subst hx0
      have e : (o : Int) + (2 * 0 - 1) = ((o - 1 : Nat) : Int) := by omega
      rw [e] at h3
      rw [parS, if_neg (by decide)]
      have e2 : u ++ a :: v = (u ++ [a]) ++ v := by simp
      have := ih (u ++ [a]) v i (o - 1) h3 (by omega) (by rw [← e2]; exact hn) (by rw [← e2]; exact hi)
      rw [e2]
      show treeW _ i (parS v i s) = _
      rw [this]
      simp [List.replicate_succ']
theorem tree_of {w : List Int} (h : isB w = true) : treeR (parS [-1] 0 w) = (w, true) ∧ 2 * (parS [-1] 0 w).length = w.length := by
  obtain ⟨m, hm, hw, hb⟩ := isB_true h
  have h1 := word_back w [] [-1] 0 0 hb rfl (by simp) (by simp)
  simp only [List.nil_append, List.length_nil, List.replicate_zero] at h1
  have h2 := treeW_len _ _ _ _ (by simp) h1
  simp only [List.length_cons, List.length_nil] at h2
  refine ⟨?_, by omega⟩
  unfold treeR
  rw [if_neg (by omega), h1]
/-- Each number is less than its place. -/
def under (c : Int) : List Int → Prop
  | [] => True
  | x :: s => x < c ∧ under (c + 1) s
theorem parS_under (s : List Int) : ∀ (st : List Int) (c : Int) (o : Nat), balW (o : Int) s = true → st.length = o + 1 → (∀ x ∈ st, x < c) → under c (parS st c s) := by
  induction s with
  | nil => intro st c o _ _ _; trivial
  | cons x s ih =>
    intro st c o h ht hi
    unfold balW at h
    rw [Bool.and_eq_true, Bool.and_eq_true, inB_true, decide_eq_true_iff] at h
    obtain ⟨h1, h2, h3⟩ := h
    obtain ⟨a, v, rfl⟩ : ∃ a v, st = a :: v := by
      cases st with
      | nil => simp at ht
      | cons a v => exact ⟨a, v, rfl⟩
    have hv : v.length = o := by simpa using ht
    unfold parS
    by_cases hx : x = 1
    · subst hx
      have e : (o : Int) + (2 * 1 - 1) = ((o + 1 : Nat) : Int) := by omega
      rw [e] at h3
      rw [if_pos rfl]
      refine ⟨hi a (List.mem_cons_self ..), ih _ _ (o + 1) h3 (by simp; omega) (fun y hy => ?_)⟩
      rcases List.mem_cons.1 hy with rfl | hy
      · omega
      · have := hi y hy; omega
    · have hx0 : x = 0 := by omega
      subst hx0
      have e : (o : Int) + (2 * 0 - 1) = ((o - 1 : Nat) : Int) := by omega
      rw [e] at h3
      rw [if_neg (by decide)]
      exact ih v c (o - 1) h3 (by omega) (fun y hy => hi y (List.mem_cons_of_mem _ hy))

end Go.Proofs.Ytmcmglclgdgdnaa.Core
