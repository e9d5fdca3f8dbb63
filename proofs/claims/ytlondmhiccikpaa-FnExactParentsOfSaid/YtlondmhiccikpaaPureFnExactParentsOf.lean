/- The program's ParentsOf returns what the reference's returns, for every list of whole numbers that takes at most 2^47 - 4096 bytes. -/
import Derived.Test.YtlondmhiccikpaaHFnExactParentsOfx3
import Derived.Test.YtlondmhiccikpaaCoreA
import Derived.Test.YtlondmhiccikpaaCoreB
import Derived.Test.YtlondmhiccikpaaCoreT
namespace Go.Proofs.Ytlondmhiccikpaa.Pure
open Go.RowKit Go.Proofs.Ytlondmhiccikpaa.HFnExactParentsOf Go.Proofs.YtlondmhiccikpaaW.PrintWords Go.Proofs.YtlondmhiccikpaaW.PrintLast Go.Proofs.YtlondmhiccikpaaW.PrintMore Go.Proofs.Ytlondmhiccikpaa.Core
set_option linter.unusedVariables false
set_option linter.unusedSimpArgs false

theorem laws_toIntS_loop (s : List Int) : ∀ (p q : List Int) (i : Int), q.length = s.length → i = (p.length : Int) → (p ++ s).length ≤ 1099511627776 →
    Ev (fun k => laws_toIntS.l0 k (p ++ s) (p ++ q) i) (p ++ s) := by
  induction s with
  | nil =>
    intro p q i hq hi hl
    have hq0 : q = [] := List.eq_nil_of_length_eq_zero hq
    subst hq0
    refine Ev.done fun k => ?_
    simp only [laws_toIntS.l0]
    rw [if_neg (by rw [len_nil]; omega)]
  | cons x s ih =>
    intro p q i hq hi hl
    cases q with
    | nil => simp at hq
    | cons y q =>
      have hq' : q.length = s.length := by simpa using hq
      have h1 := len_mid p s x
      have h2 := len_mid p q y
      have := ih (p ++ [x]) q (i + 1) hq' (by rw [len_snoc]; omega) (by rw [← snoc_mid]; exact hl)
      rw [← snoc_mid, ← snoc_mid] at this
      refine Ev.step' this fun k => ?_
      simp only [laws_toIntS.l0]
      rw [if_pos (by omega), if_pos (by omega), if_pos (by omega), rd_mid hi, set_mid hi, w64 (by omega)]
theorem laws_toIntS_ev (l : List Int) (hl : l.length ≤ 1099511627776) : Ev (fun k => laws_toIntS.f k l) l := by
  have := laws_toIntS_loop l [] (List.replicate l.length 0) 0 (by simp) (by simp) (by simpa using hl)
  simp only [List.nil_append] at this
  refine Ev.congr (fun k => ?_) this
  unfold laws_toIntS.f
  rw [if_pos (by omega), if_pos (by omega)]
  simp only [Int.toNat_natCast]

theorem laws_eqIntS_loop (s : List Int) : ∀ (p q t : List Int) (i : Int), t.length = s.length → q.length = p.length → i = (p.length : Int) → (p ++ s).length ≤ 1099511627776 →
    Ev (fun k => laws_eqIntS.l0 k (p ++ s) (q ++ t) i) (decide (s = t)) := by
  induction s with
  | nil =>
    intro p q t i ht hq hi hl
    have ht0 : t = [] := List.eq_nil_of_length_eq_zero ht
    subst ht0
    refine Ev.done fun k => ?_
    simp only [laws_eqIntS.l0]
    rw [if_neg (by rw [len_nil]; omega)]
    simp
  | cons x s ih =>
    intro p q t i ht hq hi hl
    cases t with
    | nil => simp at ht
    | cons y t =>
      have ht' : t.length = s.length := by simpa using ht
      have h1 := len_mid p s x
      have h2 := len_mid q t y
      by_cases hxy : x = y
      · have := ih (p ++ [x]) (q ++ [y]) t (i + 1) ht' (by simp [hq]) (by rw [len_snoc]; omega) (by rw [← snoc_mid]; exact hl)
        rw [← snoc_mid, ← snoc_mid] at this
        refine Ev.to (Ev.step' this fun k => ?_) (by simp [hxy])
        simp only [laws_eqIntS.l0]
        rw [if_pos (by omega), if_pos (by omega), if_pos (by omega), rd_mid hi, rd_mid (by omega), if_pos hxy, w64 (by omega)]
      · refine Ev.to (Ev.done fun k => ?_) (show false = _ by simp [hxy])
        simp only [laws_eqIntS.l0]
        rw [if_pos (by omega), if_pos (by omega), if_pos (by omega), rd_mid hi, rd_mid (by omega), if_neg hxy]
theorem laws_eqIntS_ev (l t : List Int) (hl : l.length ≤ 1099511627776) : Ev (fun k => laws_eqIntS.f k l t) (decide (l = t)) := by
  by_cases h : l.length = t.length
  · have := laws_eqIntS_loop l [] [] t 0 h.symm rfl (by simp) (by simpa using hl)
    simp only [List.nil_append] at this
    refine Ev.congr (fun k => ?_) this
    unfold laws_eqIntS.f
    rw [if_pos (by omega)]
  · refine Ev.to (Ev.congr (fun k => ?_) (Ev.now false)) (by rw [decide_eq_false]; exact fun e => h (by rw [e]))
    unfold laws_eqIntS.f
    rw [if_neg (by omega)]

theorem laws_markIntS_loop (s : List Int) : ∀ (p : List Int) (m i : Int), 0 ≤ m → m + s.length ≤ 1099511627776 → i = (p.length : Int) → (p ++ s).length ≤ 1099511627776 →
    Ev (fun k => laws_markIntS.l0 k (p ++ s) m i) (m + s.length, p ++ upFrom m s.length) := by
  induction s with
  | nil =>
    intro p m i hm hm' hi hl
    refine Ev.to (Ev.done fun k => ?_) (show (m, p ++ []) = _ by simp [upFrom])
    simp only [laws_markIntS.l0]
    rw [if_neg (by rw [len_nil]; omega)]
  | cons x s ih =>
    intro p m i hm hm' hi hl
    have h1 := len_mid p s x
    have h2 : (((x :: s).length : Nat) : Int) = s.length + 1 := by simp
    have h3 : (p ++ m :: s).length = (p ++ x :: s).length := by simp
    have := ih (p ++ [m]) (m + 1) (i + 1) (by omega) (by omega) (by rw [len_snoc]; omega) (by rw [← snoc_mid, h3]; exact hl)
    rw [← snoc_mid] at this
    refine Ev.to (Ev.step' this fun k => ?_) (by rw [h2, ← snoc_mid]; simp only [List.length_cons, upFrom]; congr 1; omega)
    simp only [laws_markIntS.l0]
    rw [if_pos (by omega), if_pos (by omega), set_mid hi, w64 (by omega), w64 (by omega)]
theorem laws_markIntS_ev (l : List Int) (hl : l.length ≤ 109951162777) : Ev (fun k => laws_markIntS.f k l 1) (1 + l.length, upFrom 1 l.length) :=
  laws_markIntS_loop l [] 1 0 (by omega) (by omega) (by simp) (by simp; omega)

theorem laws_heldIntS_loop (n : Nat) : ∀ (p : List Int) (m i : Int), 0 ≤ m → m + n ≤ 1099511627776 → i = (p.length : Int) → p.length + n ≤ 1099511627776 →
    Ev (fun k => laws_heldIntS.l0 k (p ++ upFrom m n) m i) (m + n) := by
  induction n with
  | zero =>
    intro p m i hm hm' hi hl
    show Ev (fun k => laws_heldIntS.l0 k (p ++ []) m i) _
    refine Ev.to (Ev.done fun k => ?_) (show m = _ by simp)
    simp only [laws_heldIntS.l0]
    rw [if_neg (by rw [len_nil]; omega)]
  | succ n ih =>
    intro p m i hm hm' hi hl
    have h1 := len_mid p (upFrom (m + 1) n) m
    have := ih (p ++ [m]) (m + 1) (i + 1) (by omega) (by omega) (by rw [len_snoc]; omega) (by rw [List.length_append]; simp; omega)
    rw [← snoc_mid] at this
    show Ev (fun k => laws_heldIntS.l0 k (p ++ m :: upFrom (m + 1) n) m i) _
    refine Ev.to (Ev.step' this fun k => ?_) (by omega)
    simp only [laws_heldIntS.l0]
    rw [if_pos (by omega), if_pos (by omega), rd_mid hi, if_pos rfl, w64 (by omega), w64 (by omega)]
theorem laws_heldIntS_ev (n : Nat) (hn : n ≤ 109951162777) : Ev (fun k => laws_heldIntS.f k (upFrom 1 n) 1) (1 + n) :=
  laws_heldIntS_loop n [] 1 0 (by omega) (by omega) (by simp) (by simp; omega)

theorem spec_l1In_eq (a b c : Int) : spec_l1In.f a b c = some (inB a b c) := inB_ite a b c

theorem spec_spBalanced_loop (l : List Int) (s : List Int) : ∀ (p : List Int) (o n i : Int), 0 ≤ o → o ≤ p.length → n = ((p ++ s).length : Int) → i = (p.length : Int) → (p ++ s).length ≤ 1099511627776 →
    Ev (fun k => spec_spBalanced.l0 k l o (p ++ s) n i) (balW o s && decide ((l.length : Int) ≤ 24)) := by
  induction s with
  | nil =>
    intro p o n i ho ho' hn hi hl
    refine Ev.to (Ev.done fun k => ?_) (show (if o = 0 then decide ((l.length : Int) ≤ 24) else false) = _ by unfold balW; split <;> simp [*])
    simp only [spec_spBalanced.l0]
    rw [if_neg (by rw [len_nil] at hn; omega)]
    split <;> rfl
  | cons x s ih =>
    intro p o n i ho ho' hn hi hl
    have h1 := len_mid p s x
    unfold balW
    cases hb : inB x 0 1 with
    | false =>
      refine Ev.to (Ev.done fun k => ?_) (show false = _ by simp)
      simp only [spec_spBalanced.l0]
      rw [if_pos (by omega), if_pos (by omega), if_pos (by omega), rd_mid hi, spec_l1In_eq, hb]
      rfl
    | true =>
      have hx := inB_true.1 hb
      by_cases hneg : o + (2 * x - 1) < 0
      · refine Ev.to (Ev.done fun k => ?_) (show false = _ by rw [decide_eq_false (by omega)]; simp)
        simp only [spec_spBalanced.l0]
        rw [if_pos (by omega), if_pos (by omega), if_pos (by omega), rd_mid hi, spec_l1In_eq, hb]
        simp only [obind, if_true]
        rw [w64 (n := 2 * x) (by omega), w64 (n := 2 * x - 1) (by omega), w64 (n := o + (2 * x - 1)) (by omega), if_pos hneg]
      · have := ih (p ++ [x]) (o + (2 * x - 1)) n (i + 1) (by omega) (by rw [len_snoc]; omega) (by rw [← snoc_mid]; exact hn) (by rw [len_snoc]; omega) (by rw [← snoc_mid]; exact hl)
        rw [← snoc_mid] at this
        refine Ev.to (Ev.step' this fun k => ?_) (by rw [decide_eq_true (show 0 ≤ o + (2 * x - 1) by omega)]; simp)
        simp only [spec_spBalanced.l0]
        rw [if_pos (by omega), if_pos (by omega), if_pos (by omega), rd_mid hi, spec_l1In_eq, hb]
        simp only [obind, if_true]
        rw [w64 (n := 2 * x) (by omega), w64 (n := 2 * x - 1) (by omega), w64 (n := o + (2 * x - 1)) (by omega), if_neg hneg, w64 (n := i + 1) (by omega)]
theorem spec_spBalanced_ev (l : List Int) (hl : l.length ≤ 1099511627776) : Ev (fun k => spec_spBalanced.f k l) (isB l) :=
  spec_spBalanced_loop l l [] 0 _ 0 (by omega) (by simp) rfl (by simp) (by simpa using hl)

theorem spec_spParents_loop (a : List Int) (ha : a.length ≤ 24) (s : List Int) : ∀ (p out st : List Int) (o : Nat), p ++ s = a → balW (o : Int) s = true → st.length = o + 1 → wayUp out st → out.length ≤ p.length →
    Ev (fun k => spec_spParents.l0 k out (st.headD 0) a (a.length : Int) (p.length : Int)) (out ++ parS st (out.length : Int) s) := by
  induction s with
  | nil =>
    intro p out st o h1 h2 h3 h4 h5
    have : a.length = p.length := by rw [← h1]; simp
    refine Ev.to (Ev.done fun f => ?_) (show out = _ by simp [parS])
    simp only [spec_spParents.l0]
    rw [if_neg (by omega)]
  | cons x s ih =>
    intro p out st o h1 h2 h3 h4 h5
    have hlen : a.length = p.length + s.length + 1 := by rw [← h1]; simp; omega
    have e0 : rd a (p.length : Int) = x := by rw [← h1]; exact rd_mid rfl
    have e5 := i_succ (out := p) (x := x) (by omega)
    have hp' : (p ++ [x]) ++ s = a := by rw [← snoc_mid]; exact h1
    have hpl : (p ++ [x]).length = p.length + 1 := by simp
    obtain ⟨t, r, rfl⟩ := wayUp_head h4
    refine Ev.succ ?_
    simp only [spec_spParents.l0]
    simp only [if_pos (show (p.length : Int) < (a.length : Int) by omega), if_pos (show 0 ≤ (p.length : Int) by omega), e0, e5, List.headD_cons]
    unfold balW at h2
    rw [Bool.and_eq_true, Bool.and_eq_true, inB_true, decide_eq_true_iff] at h2
    obtain ⟨g1, g2, g3⟩ := h2
    by_cases hx : x = 1
    · subst hx
      have e : (o : Int) + (2 * 1 - 1) = ((o + 1 : Nat) : Int) := by omega
      rw [e] at g3
      have e1 : wrap64 (((out ++ [t]).length : Int) - 1) = (out.length : Int) := by rw [len_snoc, w64 (by omega)]; omega
      have hw : wayUp (out ++ [t]) ((out.length : Int) :: t :: r) := by
        refine ⟨⟨by omega, by rw [len_snoc]; omega, ?_⟩, wayUp_more t _ h4⟩
        exact rd_mid (s := []) rfl
      have := ih (p ++ [1]) (out ++ [t]) ((out.length : Int) :: t :: r) (o + 1) hp' g3 (by simp at h3 ⊢; omega) hw (by simp; omega)
      simp only [if_true, if_pos (show out.length < 17592186044416 by omega), obind, e1]
      refine Ev.to this ?_
      rw [len_snoc]
      simp [parS]
    · have hx0 : x = 0 := by omega
      subst hx0
      cases r with
      | nil => simp at h3; omega
      | cons b r =>
        obtain ⟨⟨q1, q2, q3⟩, q4⟩ := h4
        have e : (o : Int) + (2 * 0 - 1) = ((o - 1 : Nat) : Int) := by omega
        rw [e] at g3
        have := ih (p ++ [0]) out (b :: r) (o - 1) hp' g3 (by simp at h3 ⊢; omega) q4 (by omega)
        simp only [if_neg hx, if_pos q1, if_pos q2, q3]
        refine Ev.to this ?_
        simp [parS]
theorem spec_ParentsOf_ev (l : List Int) (hl : l.length ≤ 1099511627776) : Ev (fun k => spec_ParentsOf.f k l) (if isB l = true then (parS [-1] 0 l, true) else ([], false)) := by
  unfold spec_ParentsOf.f
  refine Ev.bind (spec_spBalanced_ev l hl) ?_
  by_cases h : isB l = true
  · obtain ⟨m, h1, h2, h3⟩ := isB_true h
    simp only [h, if_true]
    refine Ev.bind (a := parS [-1] 0 l) ?_ (Ev.now _)
    unfold spec_spParents.f
    exact Ev.to (spec_spParents_loop l (by omega) l [] [] [-1] 0 rfl h3 rfl rfl (by simp)) (by simp)
  · simp only [if_neg h]
    exact Ev.now _

theorem impl_within_eq (a b c : Int) : impl_within.f a b c = some (inB a b c) := inB_ite a b c

theorem impl_IsBalancedWord_loop (l : List Int) (s : List Int) : ∀ (p : List Int) (o n i : Int), 0 ≤ o → o ≤ p.length → n = ((p ++ s).length : Int) → i = (p.length : Int) → (p ++ s).length ≤ 1099511627776 →
    Ev (fun k => impl_IsBalancedWord.l0 k l o (p ++ s) n i) (balW o s && decide ((l.length : Int) ≤ 24)) := by
  induction s with
  | nil =>
    intro p o n i ho ho' hn hi hl
    refine Ev.to (Ev.done fun k => ?_) (show (if o = 0 then decide ((l.length : Int) ≤ 24) else false) = _ by unfold balW; split <;> simp [*])
    simp only [impl_IsBalancedWord.l0]
    rw [if_neg (by rw [len_nil] at hn; omega)]
    split <;> rfl
  | cons x s ih =>
    intro p o n i ho ho' hn hi hl
    have h1 := len_mid p s x
    unfold balW
    cases hb : inB x 0 1 with
    | false =>
      refine Ev.to (Ev.done fun k => ?_) (show false = _ by simp)
      simp only [impl_IsBalancedWord.l0]
      rw [if_pos (by omega), if_pos (by omega), if_pos (by omega), rd_mid hi, impl_within_eq, hb]
      rfl
    | true =>
      have hx := inB_true.1 hb
      by_cases hneg : o + (2 * x - 1) < 0
      · refine Ev.to (Ev.done fun k => ?_) (show false = _ by rw [decide_eq_false (by omega)]; simp)
        simp only [impl_IsBalancedWord.l0]
        rw [if_pos (by omega), if_pos (by omega), if_pos (by omega), rd_mid hi, impl_within_eq, hb]
        simp only [obind, if_true]
        rw [w64 (n := 2 * x) (by omega), w64 (n := 2 * x - 1) (by omega), w64 (n := o + (2 * x - 1)) (by omega), if_pos hneg]
      · have := ih (p ++ [x]) (o + (2 * x - 1)) n (i + 1) (by omega) (by rw [len_snoc]; omega) (by rw [← snoc_mid]; exact hn) (by rw [len_snoc]; omega) (by rw [← snoc_mid]; exact hl)
        rw [← snoc_mid] at this
        refine Ev.to (Ev.step' this fun k => ?_) (by rw [decide_eq_true (show 0 ≤ o + (2 * x - 1) by omega)]; simp)
        simp only [impl_IsBalancedWord.l0]
        rw [if_pos (by omega), if_pos (by omega), if_pos (by omega), rd_mid hi, impl_within_eq, hb]
        simp only [obind, if_true]
        rw [w64 (n := 2 * x) (by omega), w64 (n := 2 * x - 1) (by omega), w64 (n := o + (2 * x - 1)) (by omega), if_neg hneg, w64 (n := i + 1) (by omega)]
theorem impl_IsBalancedWord_ev (l : List Int) (hl : l.length ≤ 1099511627776) : Ev (fun k => impl_IsBalancedWord.f k l) (isB l) :=
  impl_IsBalancedWord_loop l l [] 0 _ 0 (by omega) (by simp) rfl (by simp) (by simpa using hl)

theorem impl_ParentsOf_loop (a : List Int) (ha : a.length ≤ 24) (s : List Int) : ∀ (p out st : List Int) (o : Nat), p ++ s = a → balW (o : Int) s = true → st.length = o + 1 → out.length ≤ p.length → o ≤ p.length →
    Ev (fun k => impl_ParentsOf.l0 k out st.reverse a (a.length : Int) (p.length : Int)) (out ++ parS st (out.length : Int) s, true) := by
  induction s with
  | nil =>
    intro p out st o h1 h2 h3 h5 h6
    have : a.length = p.length := by rw [← h1]; simp
    refine Ev.to (Ev.done fun f => ?_) (show (out, true) = _ by simp [parS])
    simp only [impl_ParentsOf.l0]
    rw [if_neg (by omega)]
  | cons x s ih =>
    intro p out st o h1 h2 h3 h5 h6
    have hlen : a.length = p.length + s.length + 1 := by rw [← h1]; simp; omega
    have e0 : rd a (p.length : Int) = x := by rw [← h1]; exact rd_mid rfl
    have e5 := i_succ (out := p) (x := x) (by omega)
    have hp' : (p ++ [x]) ++ s = a := by rw [← snoc_mid]; exact h1
    have hpl : (p ++ [x]).length = p.length + 1 := by simp
    have hrl : st.reverse.length = o + 1 := by simp [h3]
    have e2 : wrap64 ((st.reverse.length : Int) - 1) = (o : Int) := by rw [w64 (by omega)]; omega
    obtain ⟨t, r, rfl⟩ : ∃ t r, st = t :: r := by
      cases st with
      | nil => simp at h3
      | cons t r => exact ⟨t, r, rfl⟩
    have hr : r.length = o := by simpa using h3
    refine Ev.succ ?_
    simp only [impl_ParentsOf.l0]
    simp only [if_pos (show (p.length : Int) < (a.length : Int) by omega), if_pos (show 0 ≤ (p.length : Int) by omega), e0, e5, e2, if_pos (show 0 ≤ (o : Int) by omega), if_pos (show (o : Int) ≤ ((t :: r).reverse.length : Int) by omega), if_pos (show (o : Int) < ((t :: r).reverse.length : Int) by omega), Int.toNat_natCast]
    unfold balW at h2
    rw [Bool.and_eq_true, Bool.and_eq_true, inB_true, decide_eq_true_iff] at h2
    obtain ⟨g1, g2, g3⟩ := h2
    by_cases hx : x = 0
    · subst hx
      have e : (o : Int) + (2 * 0 - 1) = ((o - 1 : Nat) : Int) := by omega
      rw [e] at g3
      have ec : (t :: r).reverse.take o = r.reverse := by
        rw [List.reverse_cons, ← hr]
        exact List.take_left' (by simp)
      simp only [if_true, ec]
      refine Ev.to (ih (p ++ [0]) out r (o - 1) hp' g3 (by omega) (by omega) (by omega)) ?_
      simp [parS]
    · have hx1 : x = 1 := by omega
      subst hx1
      have e : (o : Int) + (2 * 1 - 1) = ((o + 1 : Nat) : Int) := by omega
      rw [e] at g3
      have e3 : rd (t :: r).reverse (o : Int) = t := by
        rw [List.reverse_cons]
        exact rd_mid (s := []) (by simp [hr])
      have e1 : wrap64 (((out ++ [t]).length : Int) - 1) = (out.length : Int) := by rw [len_snoc, w64 (by omega)]; omega
      have e4 : (t :: r).reverse ++ [(out.length : Int)] = ((out.length : Int) :: t :: r).reverse := by simp
      simp only [if_neg hx, e3, if_pos (show out.length < 17592186044416 by omega), obind, e1, if_pos (show (t :: r).reverse.length < 17592186044416 by omega), e4]
      refine Ev.to (ih (p ++ [1]) (out ++ [t]) ((out.length : Int) :: t :: r) (o + 1) hp' g3 (by simp [hr]) (by simp; omega) (by omega)) ?_
      rw [len_snoc]
      simp [parS]
theorem impl_ParentsOf_ev (l : List Int) (hl : l.length ≤ 1099511627776) : Ev (fun k => impl_ParentsOf.f k l) (if isB l = true then (parS [-1] 0 l, true) else ([], false)) := by
  unfold impl_ParentsOf.f
  refine Ev.bind (impl_IsBalancedWord_ev l hl) ?_
  by_cases h : isB l = true
  · obtain ⟨m, h1, h2, h3⟩ := isB_true h
    simp only [h, if_true, obind]
    exact Ev.to (impl_ParentsOf_loop l (by omega) l [] [] [-1] 0 rfl h3 rfl (by simp) (by simp)) (by simp)
  · simp only [if_neg h]
    exact Ev.now _

theorem FnExactParentsOf : laws_FnExactParentsOf.Pure := by
  intro l _ hl _
  unfold laws_FnExactParentsOf.f
  by_cases hbig : (l.length : Int) > 1048576
  · exact ⟨0, by rw [if_pos hbig]⟩
  simp only [if_neg hbig]
  have hl' : l.length ≤ 1048576 := by omega
  have ht := laws_toIntS_ev l (by omega)
  have het := laws_eqIntS_ev l l (by omega)
  have hmt := laws_markIntS_ev l (by omega)
  have hs := spec_ParentsOf_ev l (by omega)
  have hi := impl_ParentsOf_ev l (by omega)
  have hlen : (if isB l = true then (parS [-1] 0 l, true) else ([], false) : List Int × Bool).1.length ≤ 1048576 := by
    split
    · exact Nat.le_trans (parS_len _ _ _) hl'
    · simp
  generalize (if isB l = true then (parS [-1] 0 l, true) else ([], false) : List Int × Bool) = R at hs hi hlen
  obtain ⟨o, b⟩ := R
  simp only at hlen
  have he := laws_eqIntS_ev o o (by omega)
  have hm := laws_markIntS_ev o (by omega)
  have hh := laws_heldIntS_ev o.length (by omega)
  refine (Ev.bind ht (Ev.bind hs (Ev.bind ht (Ev.bind hi (Ev.bind he ?_))))).rounds
  simp only [decide_true, if_true, bne_self_eq_false]
  refine Ev.succ ?_
  simp only [laws_FnExactParentsOf.j0, Bool.false_eq_true, if_false]
  refine Ev.bind ht (Ev.bind het ?_)
  simp only [decide_true, if_true]
  refine Ev.bind hmt ?_
  simp only [if_neg (show ¬ (1 + (l.length : Int)) < 0 by omega)]
  refine Ev.bind he ?_
  simp only [decide_true, if_true, bne_self_eq_false]
  refine Ev.succ ?_
  simp only [laws_FnExactParentsOf.j1, Bool.false_eq_true, if_false]
  refine Ev.bind hm (Ev.bind hh ?_)
  simp only [if_neg (show ¬ (1 + (o.length : Int)) < 0 by omega), if_true]
  refine Ev.bind ht (Ev.bind hi (Ev.bind he ?_))
  simp only [decide_true, if_true, bne_self_eq_false]
  refine Ev.succ ?_
  simp only [laws_FnExactParentsOf.j2, Bool.false_eq_true, if_false]
  refine Ev.bind hh ?_
  simp only [if_neg (show ¬ (1 + (o.length : Int)) < 0 by omega), if_true]
  exact Ev.now _

end Go.Proofs.Ytlondmhiccikpaa.Pure
