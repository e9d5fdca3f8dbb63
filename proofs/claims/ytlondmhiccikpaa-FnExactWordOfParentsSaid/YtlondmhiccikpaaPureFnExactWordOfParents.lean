/- The program's WordOfParents returns what the reference's returns, for every list of whole numbers that takes at most 2^47 - 4096 bytes. -/
import Derived.Test.YtlondmhiccikpaaHFnExactWordOfParentsx4
import Derived.Test.YtlondmhiccikpaaCoreA
import Derived.Test.YtlondmhiccikpaaCoreB
import Derived.Test.YtlondmhiccikpaaCoreT
namespace Go.Proofs.Ytlondmhiccikpaa.Pure
open Go.RowKit Go.Proofs.Ytlondmhiccikpaa.HFnExactWordOfParents Go.Proofs.YtlondmhiccikpaaW.PrintWords Go.Proofs.YtlondmhiccikpaaW.PrintLast Go.Proofs.YtlondmhiccikpaaW.PrintMore Go.Proofs.Ytlondmhiccikpaa.Core
set_option linter.unusedVariables false
set_option linter.unusedSimpArgs false

theorem laws_toIntS_loop (s : List Int) : ∀ (p q : List Int) (i : Int), q.length = s.length → i = (p.length : Int) → (p ++ s).length ≤ 1099511627776 →
    Ev (fun k => laws_toIntS.l0 k (p ++ s) (p ++ q) i) (p ++ s) := by
  induction s with
  | nil =>
    intro p q i hq hi hl
    have hq0 : q = [] := List.eq_nil_of_length_eq_zero hq
    subst hq0
    refine Ev.done fun k => ?_
    simp only [laws_toIntS.l0]
    rw [if_neg (by rw [len_nil]; omega)]
  | cons x s ih =>
    intro p q i hq hi hl
    cases q with
    | nil => simp at hq
    | cons y q =>
      have hq' : q.length = s.length := by simpa using hq
      have h1 := len_mid p s x
      have h2 := len_mid p q y
      have := ih (p ++ [x]) q (i + 1) hq' (by rw [len_snoc]; omega) (by rw [← snoc_mid]; exact hl)
      rw [← snoc_mid, ← snoc_mid] at this
      refine Ev.step' this fun k => ?_
      simp only [laws_toIntS.l0]
      rw [if_pos (by omega), if_pos (by omega), if_pos (by omega), rd_mid hi, set_mid hi, w64 (by omega)]
theorem laws_toIntS_ev (l : List Int) (hl : l.length ≤ 1099511627776) : Ev (fun k => laws_toIntS.f k l) l := by
  have := laws_toIntS_loop l [] (List.replicate l.length 0) 0 (by simp) (by simp) (by simpa using hl)
  simp only [List.nil_append] at this
  refine Ev.congr (fun k => ?_) this
  unfold laws_toIntS.f
  rw [if_pos (by omega), if_pos (by omega)]
  simp only [Int.toNat_natCast]

theorem laws_eqIntS_loop (s : List Int) : ∀ (p q t : List Int) (i : Int), t.length = s.length → q.length = p.length → i = (p.length : Int) → (p ++ s).length ≤ 1099511627776 →
    Ev (fun k => laws_eqIntS.l0 k (p ++ s) (q ++ t) i) (decide (s = t)) := by
  induction s with
  | nil =>
    intro p q t i ht hq hi hl
    have ht0 : t = [] := List.eq_nil_of_length_eq_zero ht
    subst ht0
    refine Ev.done fun k => ?_
    simp only [laws_eqIntS.l0]
    rw [if_neg (by rw [len_nil]; omega)]
    simp
  | cons x s ih =>
    intro p q t i ht hq hi hl
    cases t with
    | nil => simp at ht
    | cons y t =>
      have ht' : t.length = s.length := by simpa using ht
      have h1 := len_mid p s x
      have h2 := len_mid q t y
      by_cases hxy : x = y
      · have := ih (p ++ [x]) (q ++ [y]) t (i + 1) ht' (by simp [hq]) (by rw [len_snoc]; omega) (by rw [← snoc_mid]; exact hl)
        rw [← snoc_mid, ← snoc_mid] at this
        refine Ev.to (Ev.step' this fun k => ?_) (by simp [hxy])
        simp only [laws_eqIntS.l0]
        rw [if_pos (by omega), if_pos (by omega), if_pos (by omega), rd_mid hi, rd_mid (by omega), if_pos hxy, w64 (by omega)]
      · refine Ev.to (Ev.done fun k => ?_) (show false = _ by simp [hxy])
        simp only [laws_eqIntS.l0]
        rw [if_pos (by omega), if_pos (by omega), if_pos (by omega), rd_mid hi, rd_mid (by omega), if_neg hxy]
theorem laws_eqIntS_ev (l t : List Int) (hl : l.length ≤ 1099511627776) : Ev (fun k => laws_eqIntS.f k l t) (decide (l = t)) := by
  by_cases h : l.length = t.length
  · have := laws_eqIntS_loop l [] [] t 0 h.symm rfl (by simp) (by simpa using hl)
    simp only [List.nil_append] at this
    refine Ev.congr (fun k => ?_) this
    unfold laws_eqIntS.f
    rw [if_pos (by omega)]
  · refine Ev.to (Ev.congr (fun k => ?_) (Ev.now false)) (by rw [decide_eq_false]; exact fun e => h (by rw [e]))
    unfold laws_eqIntS.f
    rw [if_neg (by omega)]

theorem laws_markIntS_loop (s : List Int) : ∀ (p : List Int) (m i : Int), 0 ≤ m → m + s.length ≤ 1099511627776 → i = (p.length : Int) → (p ++ s).length ≤ 1099511627776 →
    Ev (fun k => laws_markIntS.l0 k (p ++ s) m i) (m + s.length, p ++ upFrom m s.length) := by
  induction s with
  | nil =>
    intro p m i hm hm' hi hl
    refine Ev.to (Ev.done fun k => ?_) (show (m, p ++ []) = _ by simp [upFrom])
    simp only [laws_markIntS.l0]
    rw [if_neg (by rw [len_nil]; omega)]
  | cons x s ih =>
    intro p m i hm hm' hi hl
    have h1 := len_mid p s x
    have h2 : (((x :: s).length : Nat) : Int) = s.length + 1 := by simp
    have h3 : (p ++ m :: s).length = (p ++ x :: s).length := by simp
    have := ih (p ++ [m]) (m + 1) (i + 1) (by omega) (by omega) (by rw [len_snoc]; omega) (by rw [← snoc_mid, h3]; exact hl)
    rw [← snoc_mid] at this
    refine Ev.to (Ev.step' this fun k => ?_) (by rw [h2, ← snoc_mid]; simp only [List.length_cons, upFrom]; congr 1; omega)
    simp only [laws_markIntS.l0]
    rw [if_pos (by omega), if_pos (by omega), set_mid hi, w64 (by omega), w64 (by omega)]
theorem laws_markIntS_ev (l : List Int) (hl : l.length ≤ 109951162777) : Ev (fun k => laws_markIntS.f k l 1) (1 + l.length, upFrom 1 l.length) :=
  laws_markIntS_loop l [] 1 0 (by omega) (by omega) (by simp) (by simp; omega)

theorem laws_heldIntS_loop (n : Nat) : ∀ (p : List Int) (m i : Int), 0 ≤ m → m + n ≤ 1099511627776 → i = (p.length : Int) → p.length + n ≤ 1099511627776 →
    Ev (fun k => laws_heldIntS.l0 k (p ++ upFrom m n) m i) (m + n) := by
  induction n with
  | zero =>
    intro p m i hm hm' hi hl
    show Ev (fun k => laws_heldIntS.l0 k (p ++ []) m i) _
    refine Ev.to (Ev.done fun k => ?_) (show m = _ by simp)
    simp only [laws_heldIntS.l0]
    rw [if_neg (by rw [len_nil]; omega)]
  | succ n ih =>
    intro p m i hm hm' hi hl
    have h1 := len_mid p (upFrom (m + 1) n) m
    have := ih (p ++ [m]) (m + 1) (i + 1) (by omega) (by omega) (by rw [len_snoc]; omega) (by rw [List.length_append]; simp; omega)
    rw [← snoc_mid] at this
    show Ev (fun k => laws_heldIntS.l0 k (p ++ m :: upFrom (m + 1) n) m i) _
    refine Ev.to (Ev.step' this fun k => ?_) (by omega)
    simp only [laws_heldIntS.l0]
    rw [if_pos (by omega), if_pos (by omega), rd_mid hi, if_pos rfl, w64 (by omega), w64 (by omega)]
theorem laws_heldIntS_ev (n : Nat) (hn : n ≤ 109951162777) : Ev (fun k => laws_heldIntS.f k (upFrom 1 n) 1) (1 + n) :=
  laws_heldIntS_loop n [] 1 0 (by omega) (by omega) (by simp) (by simp; omega)

theorem spec_spTree_l1 (a : List Int) (ha : a.length ≤ 12) (x j : Int) (R : Bool)  (st : List Int) : wayUp a st → (x ∈ st → Ev (fun k => spec_spTree.l0 k a a (a.length : Int) (wrap64 (j + 1))) R) → (x ∉ st → R = false) →
    Ev (fun k => spec_spTree.l1 k a x (st.headD 0) a (a.length : Int) j) R := by
  induction st with
  | nil => intro h; exact h.elim
  | cons t r ih =>
    intro hw h1 h2
    show Ev (fun k => spec_spTree.l1 k a x t a (a.length : Int) j) R
    refine Ev.succ ?_
    simp only [spec_spTree.l1]
    by_cases c : t = x
    · subst c
      have h3 := h1 (by simp)
      by_cases g : t ≥ 0
      · simp only [if_pos g, if_true]; exact h3
      · simp only [if_neg g, if_true]; exact h3
    · cases r with
      | nil =>
        have ht : t = -1 := hw
        simp only [if_neg (show ¬ t ≥ 0 by omega), if_neg c]
        exact Ev.some_ (h2 (by simp [Ne.symm c])).symm
      | cons b r =>
        obtain ⟨⟨q1, q2, q3⟩, q4⟩ := hw
        have := ih q4 (fun h => h1 (by simp only [List.mem_cons] at h ⊢; exact .inr h)) (fun h => h2 (by simp only [List.mem_cons, not_or] at h ⊢; exact ⟨Ne.symm c, h⟩))
        simp only [if_pos (show t ≥ 0 from q1), if_neg c, if_pos q1, if_pos q2, q3]
        exact this
theorem spec_spTree_loop (a : List Int) (ha : a.length ≤ 12) (s : List Int) : ∀ (p st : List Int), p ++ s = a → wayUp a st → st.headD 0 = (p.length : Int) - 1 →
    Ev (fun k => spec_spTree.l0 k a a (a.length : Int) (p.length : Int)) (treeW st (p.length : Int) s).isSome := by
  induction s with
  | nil =>
    intro p st h1 h2 h3
    have : a.length = p.length := by rw [← h1]; simp
    refine Ev.to (Ev.done fun k => ?_) (show true = _ by simp [treeW])
    simp only [spec_spTree.l0]
    rw [if_neg (by omega)]
  | cons x s ih =>
    intro p st h1 h2 h3
    have hlen : a.length = p.length + s.length + 1 := by rw [← h1]; simp; omega
    have e0 : rd a (p.length : Int) = x := by rw [← h1]; exact rd_mid rfl
    have e5 := i_succ (out := p) (x := x) (by omega)
    have hp' : (p ++ [x]) ++ s = a := by rw [← snoc_mid]; exact h1
    have e1 : wrap64 ((p.length : Int) - 1) = st.headD 0 := by rw [h3, w64 (by omega)]
    refine Ev.succ ?_
    simp only [spec_spTree.l0]
    simp only [if_pos (show (p.length : Int) < (a.length : Int) by omega), if_pos (show 0 ≤ (p.length : Int) by omega), e0, e1]
    refine spec_spTree_l1 a ha x (p.length : Int) _ st h2 (fun hx => ?_) (fun hx => ?_)
    · rw [e5]
      cases hpop : popTo x st with
      | none => exact absurd hx (popTo_none st hpop)
      | some q =>
        obtain ⟨z, t⟩ := q
        obtain ⟨u, v, q1, q2, q3, q4⟩ := popTo_some st z t hpop
        subst q1 q2
        have hw : wayUp a ((p.length : Int) :: x :: v) := ⟨⟨by omega, by omega, e0⟩, wayUp_drop u (x :: v) (by simp) h2⟩
        have := ih (p ++ [x]) ((p.length : Int) :: x :: v) hp' hw (by rw [len_snoc]; simp)
        rw [len_snoc] at this
        refine Ev.to (by rw [len_snoc]; exact this) ?_
        simp only [treeW, hpop]
        cases treeW ((p.length : Int) :: x :: v) ((p.length : Int) + 1) s <;> rfl
    · have hpop : popTo x st = none := by
        cases hpop : popTo x st with
        | none => rfl
        | some q =>
          obtain ⟨z, t⟩ := q
          obtain ⟨u, v, q1, _⟩ := popTo_some st z t hpop
          exact absurd (by rw [q1]; simp) hx
      simp [treeW, hpop]
theorem spec_WordOfParents_l2 (a : List Int) (st : List Int) : ∀ (out : List Int), wayUp a st → out.length + st.length ≤ 1000 →
    Ev (fun k => spec_WordOfParents.l2 k a out (st.headD 0)) (out ++ List.replicate (st.length - 1) 0, true) := by
  induction st with
  | nil => intro out h; exact h.elim
  | cons t r ih =>
    intro out hw ho
    show Ev (fun k => spec_WordOfParents.l2 k a out t) _
    refine Ev.succ ?_
    simp only [spec_WordOfParents.l2]
    cases r with
    | nil =>
      have ht : t = -1 := hw
      simp only [if_neg (show ¬ t ≥ 0 by omega)]
      exact Ev.some_ (by simp)
    | cons b r =>
      obtain ⟨⟨q1, q2, q3⟩, q4⟩ := hw
      have hol : out.length + (r.length + 1 + 1) ≤ 1000 := ho
      have := ih (out ++ [0]) q4 (by simp; omega)
      simp only [if_pos (show t ≥ 0 from q1), if_pos (show out.length < 17592186044416 by omega), if_pos q1, if_pos q2, q3]
      refine Ev.to this ?_
      simp [List.replicate_succ]
theorem spec_WordOfParents_l1 (a : List Int) (i j y : Int) (v : List Int) (R : List Int × Bool) (u : List Int) : ∀ (out : List Int), wayUp a (u ++ y :: v) → y ∉ u → out.length + u.length ≤ 1000 →
    Ev (fun k => spec_WordOfParents.l0 k a (out ++ List.replicate u.length 0 ++ [1]) i a (a.length : Int) (wrap64 (j + 1))) R →
    Ev (fun k => spec_WordOfParents.l1 k a out ((u ++ y :: v).headD 0) i y a (a.length : Int) j) R := by
  induction u with
  | nil =>
    intro out hw hy ho hR
    show Ev (fun k => spec_WordOfParents.l1 k a out y i y a (a.length : Int) j) R
    refine Ev.succ ?_
    simp only [spec_WordOfParents.l1, if_true]
    simp only [if_pos (show out.length < 17592186044416 by simp at ho; omega)]
    simpa using hR
  | cons t u ih =>
    intro out hw hy ho hR
    have hty : ¬ t = y := fun e => hy (by simp [e])
    have hyu : y ∉ u := fun h => hy (by simp [h])
    have hol : out.length + (u.length + 1) ≤ 1000 := ho
    obtain ⟨b, r, hbr⟩ : ∃ b r, u ++ y :: v = b :: r := by
      cases u with
      | nil => exact ⟨y, v, rfl⟩
      | cons b r => exact ⟨b, r ++ y :: v, rfl⟩
    rw [List.cons_append, hbr] at hw
    obtain ⟨⟨q1, q2, q3⟩, q4⟩ := hw
    rw [← hbr] at q4
    have := ih (out ++ [0]) q4 hyu (by simp; omega) (by simpa [List.replicate_succ] using hR)
    rw [hbr, List.headD_cons] at this
    show Ev (fun k => spec_WordOfParents.l1 k a out t i y a (a.length : Int) j) R
    refine Ev.succ ?_
    simp only [spec_WordOfParents.l1]
    simp only [if_neg hty, if_pos (show out.length < 17592186044416 by omega), if_pos q1, if_pos q2, q3]
    exact this
theorem spec_WordOfParents_loop (a : List Int) (ha : a.length ≤ 12) (s : List Int) : ∀ (p out st w : List Int), p ++ s = a → wayUp a st → treeW st (p.length : Int) s = some w → st.length ≤ p.length + 1 → out.length + st.length ≤ 2 * p.length + 1 →
    Ev (fun k => spec_WordOfParents.l0 k a out (st.headD 0) a (a.length : Int) (p.length : Int)) (out ++ w, true) := by
  induction s with
  | nil =>
    intro p out st w h1 h2 h3 h5 h6
    have : a.length = p.length := by rw [← h1]; simp
    simp only [treeW, Option.some.injEq] at h3
    refine Ev.succ ?_
    simp only [spec_WordOfParents.l0]
    simp only [if_neg (show ¬ (p.length : Int) < (a.length : Int) by omega)]
    rw [← h3]
    exact spec_WordOfParents_l2 a st out h2 (by omega)
  | cons x s ih =>
    intro p out st w h1 h2 h3 h5 h6
    have hlen : a.length = p.length + s.length + 1 := by rw [← h1]; simp; omega
    have e0 : rd a (p.length : Int) = x := by rw [← h1]; exact rd_mid rfl
    have e5 := i_succ (out := p) (x := x) (by omega)
    have hp' : (p ++ [x]) ++ s = a := by rw [← snoc_mid]; exact h1
    refine Ev.succ ?_
    simp only [spec_WordOfParents.l0]
    simp only [if_pos (show (p.length : Int) < (a.length : Int) by omega), if_pos (show 0 ≤ (p.length : Int) by omega), e0]
    unfold treeW at h3
    cases hpop : popTo x st with
    | none => rw [hpop] at h3; cases h3
    | some q =>
      obtain ⟨z, t⟩ := q
      rw [hpop] at h3
      obtain ⟨u, v, q1, q2, q3, q4⟩ := popTo_some st z t hpop
      subst q1 q2 q3
      simp only [Option.map_eq_some_iff] at h3
      obtain ⟨w', h7, h8⟩ := h3
      have hul : u.length + (v.length + 1) ≤ p.length + 1 := by simpa using h5
      have hw : wayUp a ((p.length : Int) :: x :: v) := ⟨⟨by omega, by omega, e0⟩, wayUp_drop u (x :: v) (by simp) h2⟩
      refine spec_WordOfParents_l1 a (p.length : Int) (p.length : Int) x v _ u out h2 q4 (by simp at h6; omega) ?_
      rw [e5]
      have := ih (p ++ [x]) (out ++ List.replicate u.length 0 ++ [1]) ((p.length : Int) :: x :: v) w' hp' hw (by rw [len_snoc]; exact h7) (by simp; omega) (by simp at h6 ⊢; omega)
      refine Ev.to this ?_
      rw [← h8]; simp
theorem spec_WordOfParents_ev (l : List Int) (hl : l.length ≤ 1099511627776) : Ev (fun k => spec_WordOfParents.f k l) (treeR l) := by
  unfold spec_WordOfParents.f spec_spTree.f treeR
  by_cases h : (l.length : Int) > 12
  · simp only [if_pos h, obind, Bool.false_eq_true, if_false]
    exact Ev.now _
  · simp only [if_neg h]
    have hw : wayUp l [-1] := rfl
    refine Ev.bind (spec_spTree_loop l (by omega) l [] [-1] rfl hw (by simp)) ?_
    cases ht : treeW [-1] ((([] : List Int).length : Nat) : Int) l with
    | none =>
      have ht' : treeW [-1] 0 l = none := ht
      simp only [Option.isSome_none, Bool.false_eq_true, if_false, ht']
      exact Ev.now _
    | some w =>
      have ht' : treeW [-1] 0 l = some w := ht
      simp only [Option.isSome_some, if_true, ht']
      exact Ev.to (spec_WordOfParents_loop l (by omega) l [] [] [-1] w rfl hw ht (by simp) (by simp)) (by simp)

theorem slices_Index_loop (y : Int) (v w : List Int) (hv : y ∉ v) : ∀ (p : List Int) (n i : Int), n = ((p ++ v ++ y :: w).length : Int) → i = (p.length : Int) → (p ++ v ++ y :: w).length ≤ 1099511627776 →
    Ev (fun k => slices_Index_int_int.l0 k (p ++ v ++ y :: w) y n i) ((p.length + v.length : Nat) : Int) := by
  induction v with
  | nil =>
    intro p n i hn hi hl
    rw [List.append_nil] at hn hl ⊢
    have h1 := len_mid p w y
    refine Ev.to (Ev.done fun k => ?_) (show i = _ by simp [hi])
    simp only [slices_Index_int_int.l0]
    rw [if_pos (by omega), if_pos (by omega), if_pos (by omega), rd_mid hi, if_pos rfl]
  | cons x v ih =>
    intro p n i hn hi hl
    have e : p ++ (x :: v) ++ y :: w = (p ++ [x]) ++ v ++ y :: w := by simp
    have e' : p ++ (x :: v) ++ y :: w = p ++ x :: (v ++ y :: w) := by simp
    have h1 := len_mid p (v ++ y :: w) x
    rw [← e'] at h1
    have hxy : ¬ y = x := fun h => hv (by simp [h])
    have := ih (fun h => hv (by simp [h])) (p ++ [x]) n (i + 1) (by rw [← e]; exact hn) (by rw [len_snoc]; omega) (by rw [← e]; exact hl)
    rw [← e] at this
    have er : rd (p ++ (x :: v) ++ y :: w) i = x := by rw [e']; exact rd_mid hi
    have hge : 0 ≤ ((v ++ y :: w).length : Int) := by omega
    refine Ev.to (Ev.step' this fun k => ?_) (by simp; omega)
    simp only [slices_Index_int_int.l0]
    rw [if_pos (by omega), if_pos (by omega), if_pos (by omega), er, if_neg hxy, w64 (by omega)]
theorem slices_Index_none (y : Int) (v : List Int) (hv : y ∉ v) : ∀ (p : List Int) (n i : Int), n = ((p ++ v).length : Int) → i = (p.length : Int) → (p ++ v).length ≤ 1099511627776 →
    Ev (fun k => slices_Index_int_int.l0 k (p ++ v) y n i) (-1) := by
  induction v with
  | nil =>
    intro p n i hn hi hl
    refine Ev.done fun k => ?_
    simp only [slices_Index_int_int.l0]
    rw [if_neg (by rw [len_nil] at hn; omega)]
  | cons x v ih =>
    intro p n i hn hi hl
    have h1 := len_mid p v x
    have hxy : ¬ y = x := fun h => hv (by simp [h])
    have := ih (fun h => hv (by simp [h])) (p ++ [x]) n (i + 1) (by rw [← snoc_mid]; exact hn) (by rw [len_snoc]; omega) (by rw [← snoc_mid]; exact hl)
    rw [← snoc_mid] at this
    refine Ev.step' this fun k => ?_
    simp only [slices_Index_int_int.l0]
    rw [if_pos (by omega), if_pos (by omega), if_pos (by omega), rd_mid hi, if_neg hxy, w64 (by omega)]

theorem impl_WordOfParents_l2 (d : Nat) : ∀ (out : List Int) (j : Nat) (n : Nat), j + d = n → n ≤ 100 → out.length + d ≤ 1000 →
    Ev (fun k => impl_WordOfParents.l2 k out (n : Int) (j : Int)) (out ++ List.replicate d 0, true) := by
  induction d with
  | zero =>
    intro out j n h hn ho
    refine Ev.to (Ev.done fun k => ?_) (show (out, true) = _ by simp)
    simp only [impl_WordOfParents.l2]
    rw [if_neg (by omega)]
  | succ d ih =>
    intro out j n h hn ho
    have e : wrap64 ((j : Int) + 1) = ((j + 1 : Nat) : Int) := by rw [w64 (by omega)]; omega
    refine Ev.succ ?_
    simp only [impl_WordOfParents.l2]
    simp only [if_pos (show (j : Int) < (n : Int) by omega), if_pos (show out.length < 17592186044416 by omega), e]
    refine Ev.to (ih (out ++ [0]) (j + 1) n (by omega) hn (by simp; omega)) ?_
    simp [List.replicate_succ]
theorem impl_WordOfParents_l1 (a : List Int) (i j : Int) (v : List Int) (y : Int) (hv : v.length ≤ 100) (R : List Int × Bool) (u : List Int) : ∀ (out : List Int), u.length ≤ 100 → out.length + u.length ≤ 1000 →
    Ev (fun k => impl_WordOfParents.l0 k (out ++ List.replicate u.length 0 ++ [1]) ((i :: y :: v).reverse) a (a.length : Int) (wrap64 (j + 1))) R →
    Ev (fun k => impl_WordOfParents.l1 k out ((u ++ y :: v).reverse) i (v.length : Int) a (a.length : Int) j) R := by
  induction u with
  | nil =>
    intro out hu ho hR
    have e : wrap64 ((v.length : Int) + 1) = ((v.length + 1 : Nat) : Int) := by rw [w64 (by omega)]; omega
    have hl : (([] ++ y :: v).reverse.length : Int) = ((v.length + 1 : Nat) : Int) := by simp
    have hl' : (([] ++ y :: v).reverse.length) = v.length + 1 := by simp
    refine Ev.succ ?_
    simp only [impl_WordOfParents.l1]
    simp only [e, hl, if_neg (show ¬ ((v.length + 1 : Nat) : Int) > ((v.length + 1 : Nat) : Int) by omega), if_pos (show out.length < 17592186044416 by simp at ho; omega), if_pos (show (([] ++ y :: v).reverse.length) < 17592186044416 by omega)]
    simpa using hR
  | cons x u ih =>
    intro out hu ho hR
    have hu' : u.length + 1 ≤ 100 := hu
    have ho' : out.length + (u.length + 1) ≤ 1000 := ho
    have e : wrap64 ((v.length : Int) + 1) = ((v.length + 1 : Nat) : Int) := by rw [w64 (by omega)]; omega
    have hl : (((x :: u) ++ y :: v).reverse.length : Int) = ((u.length + v.length + 2 : Nat) : Int) := by simp; omega
    have e2 : wrap64 (((u.length + v.length + 2 : Nat) : Int) - 1) = ((u.length + v.length + 1 : Nat) : Int) := by rw [w64 (by omega)]; omega
    have ec : ((x :: u) ++ y :: v).reverse.take (u.length + v.length + 1) = (u ++ y :: v).reverse := by
      rw [List.cons_append, List.reverse_cons]
      exact List.take_left' (by simp; omega)
    refine Ev.succ ?_
    simp only [impl_WordOfParents.l1]
    simp only [e, e2, hl, if_pos (show ((u.length + v.length + 2 : Nat) : Int) > ((v.length + 1 : Nat) : Int) by omega), if_pos (show out.length < 17592186044416 by omega), if_pos (show 0 ≤ ((u.length + v.length + 1 : Nat) : Int) by omega), if_pos (show ((u.length + v.length + 1 : Nat) : Int) ≤ ((u.length + v.length + 2 : Nat) : Int) by omega), Int.toNat_natCast, ec]
    refine ih (out ++ [0]) (by omega) (by simp; omega) ?_
    simpa [List.replicate_succ] using hR
theorem impl_WordOfParents_loop (a : List Int) (ha : a.length ≤ 12) (s : List Int) : ∀ (p out st : List Int), p ++ s = a → st.Pairwise (· > ·) → st ≠ [] → (∀ x ∈ st, x < (p.length : Int)) → st.length ≤ p.length + 1 → out.length + st.length ≤ 2 * p.length + 1 →
    Ev (fun k => impl_WordOfParents.l0 k out st.reverse a (a.length : Int) (p.length : Int)) (match treeW st (p.length : Int) s with | none => ([], false) | some w => (out ++ w, true)) := by
  induction s with
  | nil =>
    intro p out st h1 h2 h3 h4 h5 h6
    have hp : 0 < st.length := List.length_pos_iff.2 h3
    have : a.length = p.length := by rw [← h1]; simp
    have e : wrap64 ((st.reverse.length : Int) - 1) = ((st.length - 1 : Nat) : Int) := by rw [List.length_reverse, w64 (by omega)]; omega
    refine Ev.succ ?_
    simp only [impl_WordOfParents.l0]
    simp only [if_neg (show ¬ (p.length : Int) < (a.length : Int) by omega), e, treeW]
    exact impl_WordOfParents_l2 (st.length - 1) out 0 (st.length - 1) (by omega) (by omega) (by omega)
  | cons x s ih =>
    intro p out st h1 h2 h3 h4 h5 h6
    have hlen : a.length = p.length + s.length + 1 := by rw [← h1]; simp; omega
    have e0 : rd a (p.length : Int) = x := by rw [← h1]; exact rd_mid rfl
    have e5 := i_succ (out := p) (x := x) (by omega)
    have hp' : (p ++ [x]) ++ s = a := by rw [← snoc_mid]; exact h1
    have hpl : (p ++ [x]).length = p.length + 1 := by simp
    refine Ev.succ ?_
    simp only [impl_WordOfParents.l0]
    simp only [if_pos (show (p.length : Int) < (a.length : Int) by omega), if_pos (show 0 ≤ (p.length : Int) by omega), e0, treeW]
    cases hpop : popTo x st with
    | none =>
      have hno := popTo_none st hpop
      have hidx := slices_Index_none x st.reverse (by simpa using hno) [] _ 0 rfl (by simp) (by simp; omega)
      rw [List.nil_append] at hidx
      refine Ev.bind (a := -1) hidx ?_
      simp only [if_pos (show (-1 : Int) < 0 by decide)]
      exact Ev.now _
    | some q =>
      obtain ⟨z, t⟩ := q
      obtain ⟨u, v, q1, q2, q3, q4⟩ := popTo_some st z t hpop
      subst q1 q2 q3
      have hpw := List.pairwise_append.1 h2
      have hpv := List.pairwise_cons.1 hpw.2.1
      have hxv : x ∉ v := fun hx => by have := hpv.1 x hx; omega
      have hul : u.length + (v.length + 1) ≤ p.length + 1 := by simpa using h5
      have hidx := slices_Index_loop x v.reverse u.reverse (by simpa using hxv) [] _ 0 rfl (by simp) (by simp; omega)
      have er : [] ++ v.reverse ++ x :: u.reverse = (u ++ x :: v).reverse := by simp
      rw [er] at hidx
      have hidx' : Ev (fun k => slices_Index_int_int.f k (u ++ x :: v).reverse x) (v.length : Int) := by
        unfold slices_Index_int_int.f
        refine Ev.to hidx (by simp)
      refine Ev.bind hidx' ?_
      simp only [if_neg (show ¬ (v.length : Int) < 0 by omega)]
      refine impl_WordOfParents_l1 a (p.length : Int) (p.length : Int) v x (by omega) _ u out (by omega) (by simp at h6; omega) ?_
      rw [e5]
      have hst : ((p.length : Int) :: x :: v).Pairwise (· > ·) := by
        refine List.pairwise_cons.2 ⟨fun y hy => ?_, hpw.2.1⟩
        have := h4 y (List.mem_append_right _ hy)
        omega
      refine Ev.to (ih (p ++ [x]) (out ++ List.replicate u.length 0 ++ [1]) ((p.length : Int) :: x :: v) hp' hst (by simp) (fun y hy => ?_) (by simp; omega) (by simp at h6 ⊢; omega)) ?_
      · rw [len_snoc]
        rcases List.mem_cons.1 hy with hy | hy
        · omega
        · have := h4 y (List.mem_append_right _ hy)
          omega
      · rw [len_snoc]
        cases treeW ((p.length : Int) :: x :: v) ((p.length : Int) + 1) s with
        | none => rfl
        | some w => simp
theorem impl_WordOfParents_ev (l : List Int) (hl : l.length ≤ 1099511627776) : Ev (fun k => impl_WordOfParents.f k l) (treeR l) := by
  unfold impl_WordOfParents.f treeR
  by_cases h : (l.length : Int) > 12
  · simp only [if_pos h]
    exact Ev.now _
  · simp only [if_neg h]
    refine Ev.to (impl_WordOfParents_loop l (by omega) l [] [] [-1] rfl (by simp) (by simp) (by simp) (by simp) (by simp)) ?_
    show (match treeW [-1] 0 l with | none => ([], false) | some w => ([] ++ w, true)) = _
    cases treeW [-1] 0 l <;> rfl

theorem FnExactWordOfParents : laws_FnExactWordOfParents.Pure := by
  intro l _ hl _
  unfold laws_FnExactWordOfParents.f
  by_cases hbig : (l.length : Int) > 1048576
  · exact ⟨0, by rw [if_pos hbig]⟩
  simp only [if_neg hbig]
  have hl' : l.length ≤ 1048576 := by omega
  have ht := laws_toIntS_ev l (by omega)
  have het := laws_eqIntS_ev l l (by omega)
  have hmt := laws_markIntS_ev l (by omega)
  have hs := spec_WordOfParents_ev l (by omega)
  have hi := impl_WordOfParents_ev l (by omega)
  have hlen : (treeR l : List Int × Bool).1.length ≤ 1048576 := by
    exact Nat.le_trans (treeR_len l) (by omega)
  generalize (treeR l : List Int × Bool) = R at hs hi hlen
  obtain ⟨o, b⟩ := R
  simp only at hlen
  have he := laws_eqIntS_ev o o (by omega)
  have hm := laws_markIntS_ev o (by omega)
  have hh := laws_heldIntS_ev o.length (by omega)
  refine (Ev.bind ht (Ev.bind hs (Ev.bind ht (Ev.bind hi (Ev.bind he ?_))))).rounds
  simp only [decide_true, if_true, bne_self_eq_false]
  refine Ev.succ ?_
  simp only [laws_FnExactWordOfParents.j0, Bool.false_eq_true, if_false]
  refine Ev.bind ht (Ev.bind het ?_)
  simp only [decide_true, if_true]
  refine Ev.bind hmt ?_
  simp only [if_neg (show ¬ (1 + (l.length : Int)) < 0 by omega)]
  refine Ev.bind he ?_
  simp only [decide_true, if_true, bne_self_eq_false]
  refine Ev.succ ?_
  simp only [laws_FnExactWordOfParents.j1, Bool.false_eq_true, if_false]
  refine Ev.bind hm (Ev.bind hh ?_)
  simp only [if_neg (show ¬ (1 + (o.length : Int)) < 0 by omega), if_true]
  refine Ev.bind ht (Ev.bind hi (Ev.bind he ?_))
  simp only [decide_true, if_true, bne_self_eq_false]
  refine Ev.succ ?_
  simp only [laws_FnExactWordOfParents.j2, Bool.false_eq_true, if_false]
  refine Ev.bind hh ?_
  simp only [if_neg (show ¬ (1 + (o.length : Int)) < 0 by omega), if_true]
  exact Ev.now _

end Go.Proofs.Ytlondmhiccikpaa.Pure
