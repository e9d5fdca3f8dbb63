/- The program's ConjugateOf returns what the reference's returns, for every list of whole numbers that takes at most 2^47 - 4096 bytes. -/
import Derived.Test.YtlondmhiccikpaaHFnExactConjugateOfx4
import Derived.Test.YtlondmhiccikpaaCoreA
import Derived.Test.YtlondmhiccikpaaCoreP
namespace Go.Proofs.Ytlondmhiccikpaa.Pure
open Go.RowKit Go.Proofs.Ytlondmhiccikpaa.HFnExactConjugateOf Go.Proofs.YtlondmhiccikpaaW.PrintWords Go.Proofs.YtlondmhiccikpaaW.PrintLast Go.Proofs.YtlondmhiccikpaaW.PrintMore Go.Proofs.Ytlondmhiccikpaa.Core
set_option linter.unusedVariables false
set_option linter.unusedSimpArgs false

theorem laws_toIntS_loop (s : List Int) : ∀ (p q : List Int) (i : Int), q.length = s.length → i = (p.length : Int) → (p ++ s).length ≤ 1099511627776 →
    Ev (fun k => laws_toIntS.l0 k (p ++ s) (p ++ q) i) (p ++ s) := by
  induction s with
  | nil =>
    intro p q i hq hi hl
    have hq0 : q = [] := List.eq_nil_of_length_eq_zero hq
    subst hq0
    refine Ev.done fun k => ?_
    simp only [laws_toIntS.l0]
    rw [if_neg (by rw [len_nil]; omega)]
  | cons x s ih =>
    intro p q i hq hi hl
    cases q with
    | nil => simp at hq
    | cons y q =>
      have hq' : q.length = s.length := by simpa using hq
      have h1 := len_mid p s x
      have h2 := len_mid p q y
      have := ih (p ++ [x]) q (i + 1) hq' (by rw [len_snoc]; omega) (by rw [← snoc_mid]; exact hl)
      rw [← snoc_mid, ← snoc_mid] at this
      refine Ev.step' this fun k => ?_
      simp only [laws_toIntS.l0]
      rw [if_pos (by omega), if_pos (by omega), if_pos (by omega), rd_mid hi, set_mid hi, w64 (by omega)]
theorem laws_toIntS_ev (l : List Int) (hl : l.length ≤ 1099511627776) : Ev (fun k => laws_toIntS.f k l) l := by
  have := laws_toIntS_loop l [] (List.replicate l.length 0) 0 (by simp) (by simp) (by simpa using hl)
  simp only [List.nil_append] at this
  refine Ev.congr (fun k => ?_) this
  unfold laws_toIntS.f
  rw [if_pos (by omega), if_pos (by omega)]
  simp only [Int.toNat_natCast]

theorem laws_eqIntS_loop (s : List Int) : ∀ (p q t : List Int) (i : Int), t.length = s.length → q.length = p.length → i = (p.length : Int) → (p ++ s).length ≤ 1099511627776 →
    Ev (fun k => laws_eqIntS.l0 k (p ++ s) (q ++ t) i) (decide (s = t)) := by
  induction s with
  | nil =>
    intro p q t i ht hq hi hl
    have ht0 : t = [] := List.eq_nil_of_length_eq_zero ht
    subst ht0
    refine Ev.done fun k => ?_
    simp only [laws_eqIntS.l0]
    rw [if_neg (by rw [len_nil]; omega)]
    simp
  | cons x s ih =>
    intro p q t i ht hq hi hl
    cases t with
    | nil => simp at ht
    | cons y t =>
      have ht' : t.length = s.length := by simpa using ht
      have h1 := len_mid p s x
      have h2 := len_mid q t y
      by_cases hxy : x = y
      · have := ih (p ++ [x]) (q ++ [y]) t (i + 1) ht' (by simp [hq]) (by rw [len_snoc]; omega) (by rw [← snoc_mid]; exact hl)
        rw [← snoc_mid, ← snoc_mid] at this
        refine Ev.to (Ev.step' this fun k => ?_) (by simp [hxy])
        simp only [laws_eqIntS.l0]
        rw [if_pos (by omega), if_pos (by omega), if_pos (by omega), rd_mid hi, rd_mid (by omega), if_pos hxy, w64 (by omega)]
      · refine Ev.to (Ev.done fun k => ?_) (show false = _ by simp [hxy])
        simp only [laws_eqIntS.l0]
        rw [if_pos (by omega), if_pos (by omega), if_pos (by omega), rd_mid hi, rd_mid (by omega), if_neg hxy]
theorem laws_eqIntS_ev (l t : List Int) (hl : l.length ≤ 1099511627776) : Ev (fun k => laws_eqIntS.f k l t) (decide (l = t)) := by
  by_cases h : l.length = t.length
  · have := laws_eqIntS_loop l [] [] t 0 h.symm rfl (by simp) (by simpa using hl)
    simp only [List.nil_append] at this
    refine Ev.congr (fun k => ?_) this
    unfold laws_eqIntS.f
    rw [if_pos (by omega)]
  · refine Ev.to (Ev.congr (fun k => ?_) (Ev.now false)) (by rw [decide_eq_false]; exact fun e => h (by rw [e]))
    unfold laws_eqIntS.f
    rw [if_neg (by omega)]

theorem laws_markIntS_loop (s : List Int) : ∀ (p : List Int) (m i : Int), 0 ≤ m → m + s.length ≤ 1099511627776 → i = (p.length : Int) → (p ++ s).length ≤ 1099511627776 →
    Ev (fun k => laws_markIntS.l0 k (p ++ s) m i) (m + s.length, p ++ upFrom m s.length) := by
  induction s with
  | nil =>
    intro p m i hm hm' hi hl
    refine Ev.to (Ev.done fun k => ?_) (show (m, p ++ []) = _ by simp [upFrom])
    simp only [laws_markIntS.l0]
    rw [if_neg (by rw [len_nil]; omega)]
  | cons x s ih =>
    intro p m i hm hm' hi hl
    have h1 := len_mid p s x
    have h2 : (((x :: s).length : Nat) : Int) = s.length + 1 := by simp
    have h3 : (p ++ m :: s).length = (p ++ x :: s).length := by simp
    have := ih (p ++ [m]) (m + 1) (i + 1) (by omega) (by omega) (by rw [len_snoc]; omega) (by rw [← snoc_mid, h3]; exact hl)
    rw [← snoc_mid] at this
    refine Ev.to (Ev.step' this fun k => ?_) (by rw [h2, ← snoc_mid]; simp only [List.length_cons, upFrom]; congr 1; omega)
    simp only [laws_markIntS.l0]
    rw [if_pos (by omega), if_pos (by omega), set_mid hi, w64 (by omega), w64 (by omega)]
theorem laws_markIntS_ev (l : List Int) (hl : l.length ≤ 109951162777) : Ev (fun k => laws_markIntS.f k l 1) (1 + l.length, upFrom 1 l.length) :=
  laws_markIntS_loop l [] 1 0 (by omega) (by omega) (by simp) (by simp; omega)

theorem laws_heldIntS_loop (n : Nat) : ∀ (p : List Int) (m i : Int), 0 ≤ m → m + n ≤ 1099511627776 → i = (p.length : Int) → p.length + n ≤ 1099511627776 →
    Ev (fun k => laws_heldIntS.l0 k (p ++ upFrom m n) m i) (m + n) := by
  induction n with
  | zero =>
    intro p m i hm hm' hi hl
    show Ev (fun k => laws_heldIntS.l0 k (p ++ []) m i) _
    refine Ev.to (Ev.done fun k => ?_) (show m = _ by simp)
    simp only [laws_heldIntS.l0]
    rw [if_neg (by rw [len_nil]; omega)]
  | succ n ih =>
    intro p m i hm hm' hi hl
    have h1 := len_mid p (upFrom (m + 1) n) m
    have := ih (p ++ [m]) (m + 1) (i + 1) (by omega) (by omega) (by rw [len_snoc]; omega) (by rw [List.length_append]; simp; omega)
    rw [← snoc_mid] at this
    show Ev (fun k => laws_heldIntS.l0 k (p ++ m :: upFrom (m + 1) n) m i) _
    refine Ev.to (Ev.step' this fun k => ?_) (by omega)
    simp only [laws_heldIntS.l0]
    rw [if_pos (by omega), if_pos (by omega), rd_mid hi, if_pos rfl, w64 (by omega), w64 (by omega)]
theorem laws_heldIntS_ev (n : Nat) (hn : n ≤ 109951162777) : Ev (fun k => laws_heldIntS.f k (upFrom 1 n) 1) (1 + n) :=
  laws_heldIntS_loop n [] 1 0 (by omega) (by omega) (by simp) (by simp; omega)

theorem spec_l1In_eq (a b c : Int) : spec_l1In.f a b c = some (inB a b c) := inB_ite a b c

theorem spec_l1All_loop (lo hi : Int) (s : List Int) : ∀ (p : List Int) (n i : Int), n = ((p ++ s).length : Int) → i = (p.length : Int) → (p ++ s).length ≤ 1099511627776 →
    Ev (fun k => spec_l1All.l0 k lo hi (p ++ s) n i) (s.all fun x => inB x lo hi) := by
  induction s with
  | nil =>
    intro p n i hn hx hl
    refine Ev.done fun k => ?_
    simp only [spec_l1All.l0]
    rw [if_neg (by rw [len_nil] at hn; omega)]
    rfl
  | cons x s ih =>
    intro p n i hn hx hl
    have h1 := len_mid p s x
    cases hb : inB x lo hi with
    | true =>
      have := ih (p ++ [x]) n (i + 1) (by rw [← snoc_mid]; exact hn) (by rw [len_snoc]; omega) (by rw [← snoc_mid]; exact hl)
      rw [← snoc_mid] at this
      refine Ev.to (Ev.step' this fun k => ?_) (by simp [hb])
      simp only [spec_l1All.l0]
      rw [if_pos (by omega), if_pos (by omega), if_pos (by omega), rd_mid hx, spec_l1In_eq, hb, w64 (by omega)]
      rfl
    | false =>
      refine Ev.to (Ev.done fun k => ?_) (show false = _ by simp [hb])
      simp only [spec_l1All.l0]
      rw [if_pos (by omega), if_pos (by omega), if_pos (by omega), rd_mid hx, spec_l1In_eq, hb]
      rfl
theorem spec_l1All_ev (l : List Int) (lo hi : Int) (hl : l.length ≤ 1099511627776) : Ev (fun k => spec_l1All.f k l lo hi) (l.all fun x => inB x lo hi) :=
  spec_l1All_loop lo hi l [] _ 0 rfl (by simp) (by simpa using hl)

theorem spec_spSum_loop (s : List Int) : ∀ (p : List Int) (m n i : Int), (∀ x ∈ s, 0 ≤ x ∧ x ≤ 1048576) → 0 ≤ m → m ≤ 1048576 * p.length → n = ((p ++ s).length : Int) → i = (p.length : Int) → (p ++ s).length ≤ 1073741824 →
    Ev (fun k => spec_spSum.l0 k m (p ++ s) n i) (m + sumL s) := by
  induction s with
  | nil =>
    intro p m n i hs hm hm' hn hi hl
    refine Ev.to (Ev.done fun k => ?_) (show m = _ by simp [sumL])
    simp only [spec_spSum.l0]
    rw [if_neg (by rw [len_nil] at hn; omega)]
  | cons x s ih =>
    intro p m n i hs hm hm' hn hi hl
    have h1 := len_mid p s x
    have hx := hs x (List.mem_cons_self ..)
    have h2 := len_snoc p x
    have := ih (p ++ [x]) (m + x) n (i + 1) (fun y hy => hs y (List.mem_cons_of_mem _ hy)) (by omega) (by omega) (by rw [← snoc_mid]; exact hn) (by omega) (by rw [← snoc_mid]; exact hl)
    rw [← snoc_mid] at this
    refine Ev.to (Ev.step' this fun k => ?_) (by simp [sumL]; omega)
    simp only [spec_spSum.l0]
    rw [if_pos (by omega), if_pos (by omega), if_pos (by omega), rd_mid hi, w64 (by omega), w64 (by omega)]
theorem spec_spSum_ev (l : List Int) (hs : ∀ x ∈ l, 0 ≤ x ∧ x ≤ 1048576) (hl : l.length ≤ 1073741824) : Ev (fun k => spec_spSum.f k l) (sumL l) :=
  Ev.to (spec_spSum_loop l [] 0 _ 0 hs (by omega) (by simp) rfl (by simp) (by simpa using hl)) (by simp)

theorem spec_spParted_loop (l : List Int) (hl : l.length ≤ 20) (hin : ∀ x ∈ l, 1 ≤ x ∧ x ≤ 20) (s : List Int) : ∀ (p : List Int) (m i : Int), p ++ s = l → 0 < p.length → rd l ((p.length : Int) - 1) = m → i = (p.length : Int) →
    Ev (fun k => spec_spParted.l0 k l i) (descL m s && decide (sumL l ≤ 20)) := by
  induction s with
  | nil =>
    intro p m i hp hp0 hm hi
    have hpl : p = l := by simpa using hp
    refine Ev.succ ?_
    simp only [spec_spParted.l0]
    simp only [if_neg (show ¬ i < (l.length : Int) by subst hpl; omega)]
    refine Ev.bind (spec_spSum_ev l (fun x hx => by have := hin x hx; omega) (by omega)) ?_
    refine Ev.some_ ?_
    simp [descL]
  | cons x s ih =>
    intro p m i hp hp0 hm hi
    have h1 := len_mid p s x
    rw [hp] at h1
    have hr : rd l i = x := by rw [← hp]; exact rd_mid hi
    have hp' : (p ++ [x]) ++ s = l := by rw [← snoc_mid]; exact hp
    have h2 := len_snoc p x
    have e1 : wrap64 (i - 1) = (p.length : Int) - 1 := by rw [w64 (by omega)]; omega
    by_cases hgt : x > m
    · refine Ev.to (Ev.done fun k => ?_) (show false = _ by rw [descL, decide_eq_false (by omega)]; rfl)
      simp only [spec_spParted.l0]
      rw [if_pos (by omega), if_pos (by omega), e1, if_pos (by omega), if_pos (by omega), hr, hm, if_pos hgt]
    · have hih := ih (p ++ [x]) x (i + 1) hp' (by simp) (by rw [h2, show (p.length : Int) + 1 - 1 = p.length by omega, ← hp]; exact rd_mid rfl) (by omega)
      refine Ev.to (Ev.step' hih fun k => ?_) (by rw [descL, decide_eq_true (show x ≤ m by omega)]; simp)
      simp only [spec_spParted.l0]
      rw [if_pos (by omega), if_pos (by omega), e1, if_pos (by omega), if_pos (by omega), hr, hm, if_neg hgt, w64 (n := i + 1) (by omega)]
theorem spec_spParted_ev (l : List Int) (hl : l.length ≤ 1073741824) : Ev (fun k => spec_spParted.f k l) (isP l) := by
  unfold spec_spParted.f isP
  by_cases h20 : (l.length : Int) > 20
  · simp only [if_pos h20]
    refine Ev.succ ?_
    simp only [spec_spParted.j0, if_true]
    refine Ev.some_ ?_
    rw [decide_eq_false (show ¬ (l.length : Int) ≤ 20 by omega)]
    simp
  · simp only [if_neg h20]
    rw [decide_eq_true (show (l.length : Int) ≤ 20 by omega), Bool.true_and]
    refine Ev.bind (spec_l1All_ev l 1 20 (by omega)) ?_
    refine Ev.succ ?_
    simp only [spec_spParted.j0]
    rw [parL_split]
    cases ha : (l.all fun x => inB x 1 20) with
    | false =>
      simp only [Bool.not_false, if_true]
      exact Ev.some_ (by simp)
    | true =>
      have hin := all_in.1 ha
      simp only [Bool.not_true, Bool.false_eq_true, if_false, Bool.true_and]
      cases l with
      | nil =>
        refine Ev.succ ?_
        simp only [spec_spParted.l0]
        simp only [List.length_nil, Int.natCast_zero, if_neg (show ¬ (1 : Int) < 0 by omega)]
        refine Ev.bind (spec_spSum_ev [] (by simp) (by simp)) ?_
        exact Ev.some_ (by simp [descL])
      | cons x s =>
        have hx := hin x (List.mem_cons_self ..)
        refine Ev.to (spec_spParted_loop (x :: s) (by omega) hin s [x] x 1 rfl (by simp) (by simp [rd]) (by simp)) ?_
        rw [descL, decide_eq_true (show x ≤ 20 by omega), Bool.true_and]

theorem spec_ConjugateOf_inner (l : List Int) (hl : l.length ≤ 20) (out : List Int) (j : Int) (hj : 0 ≤ j ∧ j ≤ 1000) (s : List Int) : ∀ (p : List Int) (c : Int) (R : List Int × Bool), p ++ s = l → 0 ≤ c → c ≤ p.length → out.length ≤ 1000 →
    Ev (fun k => spec_ConjugateOf.l0 k l (out ++ [c + cntGt j s]) (j + 1)) R →
    Ev (fun k => spec_ConjugateOf.l1 k l out j c l (l.length : Int) (p.length : Int)) R := by
  induction s with
  | nil =>
    intro p c R hp hc hc' ho hR
    have : l.length = p.length := by rw [← hp]; simp
    refine Ev.succ ?_
    simp only [spec_ConjugateOf.l1]
    simp only [if_neg (show ¬ (p.length : Int) < (l.length : Int) by omega), if_pos (show out.length < 17592186044416 by omega), w64 (show -9223372036854775808 ≤ j + 1 ∧ j + 1 ≤ 9223372036854775807 by omega)]
    simpa [cntGt] using hR
  | cons x s ih =>
    intro p c R hp hc hc' ho hR
    have hlen : l.length = p.length + s.length + 1 := by rw [← hp]; simp; omega
    have e0 : rd l (p.length : Int) = x := by rw [← hp]; exact rd_mid rfl
    have e1 := i_succ (out := p) (x := x) (by omega)
    have hp' : (p ++ [x]) ++ s = l := by rw [← snoc_mid]; exact hp
    have h2 := len_snoc p x
    refine Ev.succ ?_
    simp only [spec_ConjugateOf.l1]
    simp only [if_pos (show (p.length : Int) < (l.length : Int) by omega), if_pos (show 0 ≤ (p.length : Int) by omega), e0, e1]
    by_cases hx : x > j
    · simp only [if_pos hx, w64 (show -9223372036854775808 ≤ c + 1 ∧ c + 1 ≤ 9223372036854775807 by omega)]
      refine ih (p ++ [x]) (c + 1) R hp' (by omega) (by omega) ho ?_
      simp only [cntGt, if_pos hx] at hR
      rw [Int.add_assoc]; exact hR
    · simp only [if_neg hx]
      refine ih (p ++ [x]) c R hp' hc (by omega) ho ?_
      simp only [cntGt, if_neg hx, Int.zero_add] at hR
      exact hR
theorem spec_ConjugateOf_loop (l : List Int) (hl : l.length ≤ 20) (h0 : 0 < l.length) (hx : rd l 0 ≤ 20) (d : Nat) : ∀ (out : List Int) (j : Int), j = (out.length : Int) → (out.length : Int) + d = rd l 0 →
    Ev (fun k => spec_ConjugateOf.l0 k l out j) (out ++ conjF l d j, true) := by
  induction d with
  | zero =>
    intro out j hj ho
    refine Ev.succ ?_
    simp only [spec_ConjugateOf.l0]
    simp only [if_pos (show (l.length : Int) > 0 by omega), if_pos (show (0 : Int) < (l.length : Int) by omega), decide_eq_false (show ¬ j < rd l 0 by omega)]
    refine Ev.succ ?_
    simp only [spec_ConjugateOf.j1, Bool.false_eq_true, if_false]
    exact Ev.some_ (by simp [conjF])
  | succ d ih =>
    intro out j hj ho
    have hih := ih (out ++ [cntGt j l]) (j + 1) (by rw [len_snoc]; omega) (by rw [len_snoc]; omega)
    refine Ev.succ ?_
    simp only [spec_ConjugateOf.l0]
    simp only [if_pos (show (l.length : Int) > 0 by omega), if_pos (show (0 : Int) < (l.length : Int) by omega), decide_eq_true (show j < rd l 0 by omega)]
    refine Ev.succ ?_
    simp only [spec_ConjugateOf.j1, if_true]
    refine spec_ConjugateOf_inner l hl out j (by omega) l [] 0 _ rfl (by omega) (by simp) (by omega) ?_
    rw [Int.zero_add]
    refine Ev.to hih ?_
    simp [conjF]
theorem spec_ConjugateOf_ev (l : List Int) (hl : l.length ≤ 1073741824) : Ev (fun k => spec_ConjugateOf.f k l) (if isP l = true then (conjL l, true) else ([], false)) := by
  unfold spec_ConjugateOf.f
  refine Ev.bind (spec_spParted_ev l hl) ?_
  by_cases h : isP l = true
  · obtain ⟨_, h2, _, h4⟩ := isP_true h
    have hh := head_small h
    simp only [h, if_true]
    cases l with
    | nil =>
      refine Ev.succ ?_
      simp only [spec_ConjugateOf.l0]
      simp only [List.length_nil, Int.natCast_zero, if_neg (show ¬ (0 : Int) > 0 by decide)]
      refine Ev.succ ?_
      simp only [spec_ConjugateOf.j1, Bool.false_eq_true, if_false]
      exact Ev.now _
    | cons x s =>
      have hx : (x :: s).headD 0 = x := rfl
      rw [hx] at hh
      have hr : rd (x :: s) 0 = x := by simp [rd]
      refine Ev.to (spec_ConjugateOf_loop (x :: s) h2 (by simp) (by rw [hr]; omega) x.toNat [] 0 (by simp) (by rw [hr]; simp; omega)) ?_
      simp [conjL]
  · simp only [if_neg h]
    exact Ev.now _

theorem impl_within_eq (a b c : Int) : impl_within.f a b c = some (inB a b c) := inB_ite a b c

theorem impl_sum_loop (s : List Int) : ∀ (p : List Int) (m n i : Int), (∀ x ∈ s, 0 ≤ x ∧ x ≤ 1048576) → 0 ≤ m → m ≤ 1048576 * p.length → n = ((p ++ s).length : Int) → i = (p.length : Int) → (p ++ s).length ≤ 1073741824 →
    Ev (fun k => impl_sum.l0 k m (p ++ s) n i) (m + sumL s) := by
  induction s with
  | nil =>
    intro p m n i hs hm hm' hn hi hl
    refine Ev.to (Ev.done fun k => ?_) (show m = _ by simp [sumL])
    simp only [impl_sum.l0]
    rw [if_neg (by rw [len_nil] at hn; omega)]
  | cons x s ih =>
    intro p m n i hs hm hm' hn hi hl
    have h1 := len_mid p s x
    have hx := hs x (List.mem_cons_self ..)
    have h2 := len_snoc p x
    have := ih (p ++ [x]) (m + x) n (i + 1) (fun y hy => hs y (List.mem_cons_of_mem _ hy)) (by omega) (by omega) (by rw [← snoc_mid]; exact hn) (by omega) (by rw [← snoc_mid]; exact hl)
    rw [← snoc_mid] at this
    refine Ev.to (Ev.step' this fun k => ?_) (by simp [sumL]; omega)
    simp only [impl_sum.l0]
    rw [if_pos (by omega), if_pos (by omega), if_pos (by omega), rd_mid hi, w64 (by omega), w64 (by omega)]
theorem impl_sum_ev (l : List Int) (hs : ∀ x ∈ l, 0 ≤ x ∧ x ≤ 1048576) (hl : l.length ≤ 1073741824) : Ev (fun k => impl_sum.f k l) (sumL l) :=
  Ev.to (impl_sum_loop l [] 0 _ 0 hs (by omega) (by simp) rfl (by simp) (by simpa using hl)) (by simp)

theorem impl_IsParted_loop (l : List Int) (hl : l.length ≤ 1073741824) (s : List Int) : ∀ (p : List Int) (m n i : Int), p ++ s = l → (∀ x ∈ p, 1 ≤ x ∧ x ≤ 20) → (p = [] → m = 20) → (0 < p.length → rd l ((p.length : Int) - 1) = m) → n = (l.length : Int) → i = (p.length : Int) →
    Ev (fun k => impl_IsParted.l0 k l l n i) (parL m s && (decide ((l.length : Int) ≤ 20) && decide (sumL l ≤ 20))) := by
  induction s with
  | nil =>
    intro p m n i hp hin h0 hm hn hi
    have hpl : p = l := by simpa using hp
    refine Ev.succ ?_
    simp only [impl_IsParted.l0]
    simp only [if_neg (show ¬ i < n by subst hpl; omega)]
    by_cases h20 : (l.length : Int) ≤ 20
    · simp only [if_pos h20]
      refine Ev.bind (impl_sum_ev l (fun x hx => by have := hin x (hpl ▸ hx); omega) hl) ?_
      refine Ev.some_ ?_
      simp [parL, h20]
    · simp only [if_neg h20]
      refine Ev.some_ ?_
      simp [h20]
  | cons x s ih =>
    intro p m n i hp hin h0 hm hn hi
    have h1 := len_mid p s x
    rw [hp] at h1
    have hr : rd l i = x := by rw [← hp]; exact rd_mid hi
    have hp' : (p ++ [x]) ++ s = l := by rw [← snoc_mid]; exact hp
    have h2 := len_snoc p x
    cases hb : inB x 1 20 with
    | false =>
      refine Ev.to (Ev.done fun k => ?_) (show false = _ by simp [parL, hb])
      simp only [impl_IsParted.l0]
      rw [if_pos (by omega), if_pos (by omega), if_pos (by omega), hr, impl_within_eq, hb]
      rfl
    | true =>
      have hx := inB_true.1 hb
      have hih := ih (p ++ [x]) x n (i + 1) hp' (by intro y hy; rcases List.mem_append.1 hy with hy | hy; exact hin y hy; simp at hy; omega) (by simp) (fun _ => by rw [h2, show (p.length : Int) + 1 - 1 = p.length by omega, ← hp]; exact rd_mid rfl) hn (by omega)
      by_cases hpos : i > 0
      · have hr1 := hm (by omega)
        have e1 : wrap64 (i - 1) = (p.length : Int) - 1 := by rw [w64 (by omega)]; omega
        by_cases hlt : m < x
        · refine Ev.to (Ev.done fun k => ?_) (show false = _ by rw [parL, hb, decide_eq_false (by omega)]; rfl)
          simp only [impl_IsParted.l0]
          rw [if_pos (by omega), if_pos (by omega), if_pos (by omega), hr, impl_within_eq, hb]
          simp only [obind, if_true]
          rw [if_pos hpos, e1, if_pos (by omega), if_pos (by omega), hr1, if_pos hlt]
        · refine Ev.to (Ev.step' hih fun k => ?_) (by rw [parL, hb, decide_eq_true (show x ≤ m by omega)]; simp)
          simp only [impl_IsParted.l0]
          rw [if_pos (by omega), if_pos (by omega), if_pos (by omega), hr, impl_within_eq, hb]
          simp only [obind, if_true]
          rw [if_pos hpos, e1, if_pos (by omega), if_pos (by omega), hr1, if_neg hlt, w64 (n := i + 1) (by omega)]
      · have hp0 : p = [] := List.eq_nil_of_length_eq_zero (by omega)
        have hm20 := h0 hp0
        refine Ev.to (Ev.step' hih fun k => ?_) (by rw [parL, hb, decide_eq_true (show x ≤ m by omega)]; simp)
        simp only [impl_IsParted.l0]
        rw [if_pos (by omega), if_pos (by omega), if_pos (by omega), hr, impl_within_eq, hb]
        simp only [obind, if_true]
        rw [if_neg hpos, w64 (n := i + 1) (by omega)]
theorem impl_IsParted_ev (l : List Int) (hl : l.length ≤ 1073741824) : Ev (fun k => impl_IsParted.f k l) (isP l) :=
  impl_IsParted_loop l hl l [] 20 _ 0 rfl (by simp) (fun _ => rfl) (by simp) rfl (by simp)

theorem impl_ConjugateOf_inner (l : List Int) (hl : l.length ≤ 20) (out : List Int) (s : List Int) : ∀ (p : List Int) (c : Int) (R : List Int × Bool), p ++ s = l → 0 ≤ c → c ≤ p.length → out.length ≤ 1000 →
    Ev (fun k => impl_ConjugateOf.l0 k l (out ++ [c + cntGt (out.length : Int) s])) R →
    Ev (fun k => impl_ConjugateOf.l1 k l out c l (l.length : Int) (p.length : Int)) R := by
  induction s with
  | nil =>
    intro p c R hp hc hc' ho hR
    have : l.length = p.length := by rw [← hp]; simp
    refine Ev.succ ?_
    simp only [impl_ConjugateOf.l1]
    simp only [if_neg (show ¬ (p.length : Int) < (l.length : Int) by omega), if_pos (show out.length < 17592186044416 by omega)]
    simpa [cntGt] using hR
  | cons x s ih =>
    intro p c R hp hc hc' ho hR
    have hlen : l.length = p.length + s.length + 1 := by rw [← hp]; simp; omega
    have e0 : rd l (p.length : Int) = x := by rw [← hp]; exact rd_mid rfl
    have e1 := i_succ (out := p) (x := x) (by omega)
    have hp' : (p ++ [x]) ++ s = l := by rw [← snoc_mid]; exact hp
    have h2 := len_snoc p x
    refine Ev.succ ?_
    simp only [impl_ConjugateOf.l1]
    simp only [if_pos (show (p.length : Int) < (l.length : Int) by omega), if_pos (show 0 ≤ (p.length : Int) by omega), e0, e1]
    by_cases hx : x > (out.length : Int)
    · simp only [if_pos hx, w64 (show -9223372036854775808 ≤ c + 1 ∧ c + 1 ≤ 9223372036854775807 by omega)]
      refine ih (p ++ [x]) (c + 1) R hp' (by omega) (by omega) ho ?_
      simp only [cntGt, if_pos hx] at hR
      rw [Int.add_assoc]; exact hR
    · simp only [if_neg hx]
      refine ih (p ++ [x]) c R hp' hc (by omega) ho ?_
      simp only [cntGt, if_neg hx, Int.zero_add] at hR
      exact hR
theorem impl_ConjugateOf_loop (l : List Int) (hl : l.length ≤ 20) (h0 : 0 < l.length) (hx : rd l 0 ≤ 20) (d : Nat) : ∀ (out : List Int), (out.length : Int) + d = rd l 0 →
    Ev (fun k => impl_ConjugateOf.l0 k l out) (out ++ conjF l d (out.length : Int), true) := by
  induction d with
  | zero =>
    intro out ho
    refine Ev.succ ?_
    simp only [impl_ConjugateOf.l0]
    simp only [if_pos (show (l.length : Int) > 0 by omega), if_pos (show (0 : Int) < (l.length : Int) by omega), decide_eq_false (show ¬ (out.length : Int) < rd l 0 by omega)]
    refine Ev.succ ?_
    simp only [impl_ConjugateOf.j1, Bool.false_eq_true, if_false]
    exact Ev.some_ (by simp [conjF])
  | succ d ih =>
    intro out ho
    have hih := ih (out ++ [cntGt (out.length : Int) l]) (by rw [len_snoc]; omega)
    refine Ev.succ ?_
    simp only [impl_ConjugateOf.l0]
    simp only [if_pos (show (l.length : Int) > 0 by omega), if_pos (show (0 : Int) < (l.length : Int) by omega), decide_eq_true (show (out.length : Int) < rd l 0 by omega)]
    refine Ev.succ ?_
    simp only [impl_ConjugateOf.j1, if_true]
    refine impl_ConjugateOf_inner l hl out l [] 0 _ rfl (by omega) (by simp) (by omega) ?_
    rw [Int.zero_add]
    refine Ev.to hih ?_
    rw [len_snoc]
    simp [conjF]
theorem impl_ConjugateOf_ev (l : List Int) (hl : l.length ≤ 1073741824) : Ev (fun k => impl_ConjugateOf.f k l) (if isP l = true then (conjL l, true) else ([], false)) := by
  unfold impl_ConjugateOf.f
  refine Ev.bind (impl_IsParted_ev l hl) ?_
  by_cases h : isP l = true
  · obtain ⟨_, h2, _, h4⟩ := isP_true h
    have hh := head_small h
    simp only [h, if_true]
    cases l with
    | nil =>
      refine Ev.succ ?_
      simp only [impl_ConjugateOf.l0]
      simp only [List.length_nil, Int.natCast_zero, if_neg (show ¬ (0 : Int) > 0 by decide)]
      refine Ev.succ ?_
      simp only [impl_ConjugateOf.j1, Bool.false_eq_true, if_false]
      exact Ev.now _
    | cons x s =>
      have hx : (x :: s).headD 0 = x := rfl
      rw [hx] at hh
      have hr : rd (x :: s) 0 = x := by simp [rd]
      refine Ev.to (impl_ConjugateOf_loop (x :: s) h2 (by simp) (by rw [hr]; omega) x.toNat [] (by rw [hr]; simp; omega)) ?_
      simp [conjL]
  · simp only [if_neg h]
    exact Ev.now _

theorem FnExactConjugateOf : laws_FnExactConjugateOf.Pure := by
  intro l _ hl _
  unfold laws_FnExactConjugateOf.f
  by_cases hbig : (l.length : Int) > 1048576
  · exact ⟨0, by rw [if_pos hbig]⟩
  simp only [if_neg hbig]
  have hl' : l.length ≤ 1048576 := by omega
  have ht := laws_toIntS_ev l (by omega)
  have het := laws_eqIntS_ev l l (by omega)
  have hmt := laws_markIntS_ev l (by omega)
  have hs := spec_ConjugateOf_ev l (by omega)
  have hi := impl_ConjugateOf_ev l (by omega)
  have hlen : (if isP l = true then (conjL l, true) else ([], false) : List Int × Bool).1.length ≤ 1048576 := by
    split
    · rename_i h
      exact conjL_small h
    · simp
  generalize (if isP l = true then (conjL l, true) else ([], false) : List Int × Bool) = R at hs hi hlen
  obtain ⟨o, b⟩ := R
  simp only at hlen
  have he := laws_eqIntS_ev o o (by omega)
  have hm := laws_markIntS_ev o (by omega)
  have hh := laws_heldIntS_ev o.length (by omega)
  refine (Ev.bind ht (Ev.bind hs (Ev.bind ht (Ev.bind hi (Ev.bind he ?_))))).rounds
  simp only [decide_true, if_true, bne_self_eq_false]
  refine Ev.succ ?_
  simp only [laws_FnExactConjugateOf.j0, Bool.false_eq_true, if_false]
  refine Ev.bind ht (Ev.bind het ?_)
  simp only [decide_true, if_true]
  refine Ev.bind hmt ?_
  simp only [if_neg (show ¬ (1 + (l.length : Int)) < 0 by omega)]
  refine Ev.bind he ?_
  simp only [decide_true, if_true, bne_self_eq_false]
  refine Ev.succ ?_
  simp only [laws_FnExactConjugateOf.j1, Bool.false_eq_true, if_false]
  refine Ev.bind hm (Ev.bind hh ?_)
  simp only [if_neg (show ¬ (1 + (o.length : Int)) < 0 by omega), if_true]
  refine Ev.bind ht (Ev.bind hi (Ev.bind he ?_))
  simp only [decide_true, if_true, bne_self_eq_false]
  refine Ev.succ ?_
  simp only [laws_FnExactConjugateOf.j2, Bool.false_eq_true, if_false]
  refine Ev.bind hh ?_
  simp only [if_neg (show ¬ (1 + (o.length : Int)) < 0 by omega), if_true]
  exact Ev.now _

end Go.Proofs.Ytlondmhiccikpaa.Pure
