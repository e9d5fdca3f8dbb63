/- Plain laws on trees that are told by parents lists; no program is in sight here. -/
import Derived.Test.YtmcmglclgdgdnaaCoreB
namespace Go.Proofs.Ytmcmglclgdgdnaa.Core
open Go.RowKit Go.Proofs.YtmcmglclgdgdnaaW.PrintWords Go.Proofs.YtmcmglclgdgdnaaW.PrintLast Go.Proofs.YtmcmglclgdgdnaaW.PrintMore
set_option linter.unusedVariables false
set_option linter.unusedSimpArgs false

/-- The parents of a word's ones: st is the way up from where the walk is, c how many there have been. -/
def parS (st : List Int) (c : Int) : List Int → List Int
  | [] => []
  | x :: s => if x = 1 then st.headD 0 :: parS (c :: st) (c + 1) s else parS st.tail c s
theorem parS_len (s : List Int) : ∀ st c, (parS st c s).length ≤ s.length := by
  induction s with
  | nil => intro st c; simp [parS]
  | cons x s ih =>
    intro st c
    unfold parS
    split
    · simp only [List.length_cons]; exact Nat.succ_le_succ (ih _ _)
    · exact Nat.le_trans (ih _ _) (by simp)
/-- A way up in a list of parents: from its head to -1. -/
def wayUp (l : List Int) : List Int → Prop
  | [] => False
  | [a] => a = -1
  | a :: b :: r => (0 ≤ a ∧ a < (l.length : Int) ∧ rd l a = b) ∧ wayUp l (b :: r)
theorem wayUp_head {l st : List Int} (h : wayUp l st) : ∃ a r, st = a :: r := by
  cases st with
  | nil => exact h.elim
  | cons a r => exact ⟨a, r, rfl⟩
theorem wayUp_more {l : List Int} (y : Int) (st : List Int) : wayUp l st → wayUp (l ++ [y]) st := by
  induction st with
  | nil => exact id
  | cons a r ih =>
    cases r with
    | nil => exact id
    | cons b r =>
      rintro ⟨⟨h1, h2, h3⟩, h4⟩
      refine ⟨⟨h1, by rw [len_snoc]; omega, ?_⟩, ih h4⟩
      rw [← h3]
      obtain ⟨n, rfl⟩ : ∃ n : Nat, a = (n : Int) := ⟨a.toNat, by omega⟩
      rw [rd_nat _ n (by simp; omega), rd_nat _ n (by omega)]
      exact List.getElem_append_left (by omega)
theorem wayUp_drop {l : List Int} (u : List Int) : ∀ v : List Int, v ≠ [] → wayUp l (u ++ v) → wayUp l v := by
  induction u with
  | nil => intro v _ h; exact h
  | cons a u ih =>
    intro v hv h
    refine ih v hv ?_
    cases huv : u ++ v with
    | nil => simp at huv; exact absurd huv.2 hv
    | cons b r =>
      rw [List.cons_append, huv] at h
      exact h.2

/-- Up to p: how many are left behind, and the way up from there. -/
def popTo (p : Int) : List Int → Option (Nat × List Int)
  | [] => none
  | a :: r => if a = p then some (0, a :: r) else (popTo p r).map fun q => (q.1 + 1, q.2)
theorem popTo_some {p : Int} (st : List Int) : ∀ z t, popTo p st = some (z, t) → ∃ u v, st = u ++ p :: v ∧ t = p :: v ∧ u.length = z ∧ p ∉ u := by
  induction st with
  | nil => intro z t h; simp [popTo] at h
  | cons a r ih =>
    intro z t h
    unfold popTo at h
    by_cases c : a = p
    · rw [if_pos c] at h
      simp only [Option.some.injEq, Prod.mk.injEq] at h
      exact ⟨[], r, by rw [c]; rfl, by rw [← h.2, c], h.1, by simp⟩
    · rw [if_neg c, Option.map_eq_some_iff] at h
      obtain ⟨⟨z', t'⟩, h1, h2⟩ := h
      simp only [Prod.mk.injEq] at h2
      obtain ⟨u, v, e1, e2, e3, e4⟩ := ih z' t' h1
      exact ⟨a :: u, v, by rw [e1]; rfl, by rw [← h2.2, e2], by simp [e3, h2.1], by simp [e4, Ne.symm c]⟩
theorem popTo_none {p : Int} (st : List Int) : popTo p st = none → p ∉ st := by
  induction st with
  | nil => intro _; simp
  | cons a r ih =>
    intro h
    unfold popTo at h
    by_cases c : a = p
    · rw [if_pos c] at h; cases h
    · rw [if_neg c, Option.map_eq_none_iff] at h
      simp [ih h, Ne.symm c]
theorem popTo_has {p : Int} (u v : List Int) (h : p ∉ u) : popTo p (u ++ p :: v) = some (u.length, p :: v) := by
  induction u with
  | nil => simp [popTo]
  | cons a u ih =>
    have h1 : ¬ a = p := fun e => h (by simp [e])
    rw [List.cons_append, popTo, if_neg h1, ih (fun h2 => h (by simp [h2]))]
    rfl
/-- The word of a parents list. -/
def treeW (st : List Int) (i : Int) : List Int → Option (List Int)
  | [] => some (List.replicate (st.length - 1) 0)
  | p :: s => match popTo p st with
    | none => none
    | some (z, t) => (treeW (i :: t) (i + 1) s).map fun w => List.replicate z 0 ++ 1 :: w
theorem treeW_len (s : List Int) : ∀ (st : List Int) (i : Int) (w : List Int), st ≠ [] → treeW st i s = some w → w.length + 1 = st.length + 2 * s.length := by
  induction s with
  | nil =>
    intro st i w hs h
    have : 0 < st.length := List.length_pos_iff.2 hs
    simp only [treeW, Option.some.injEq] at h
    rw [← h]; simp; omega
  | cons p s ih =>
    intro st i w hs h
    unfold treeW at h
    cases hp : popTo p st with
    | none => rw [hp] at h; cases h
    | some q =>
      obtain ⟨z, t⟩ := q
      rw [hp] at h
      simp only [Option.map_eq_some_iff] at h
      obtain ⟨w', h1, h2⟩ := h
      obtain ⟨u, v, e1, e2, e3, e4⟩ := popTo_some st z t hp
      have := ih _ _ _ (by simp) h1
      rw [← h2, e1]
      rw [e2] at this
      simp at this ⊢
      omega
def treeR (l : List Int) : List Int × Bool :=
  if (l.length : Int) > 12 then ([], false) else match treeW [-1] 0 l with
    | none => ([], false)
    | some w => (w, true)
theorem treeR_len (l : List Int) : (treeR l).1.length ≤ 24 := by
  unfold treeR
  split
  · simp
  · rename_i h
    split
    · simp
    · rename_i w hw
      have := treeW_len l [-1] 0 w (by simp) hw
      simp at this ⊢
      omega

end Go.Proofs.Ytmcmglclgdgdnaa.Core
