/- The program's DominatesParted returns what the reference's returns, for every two lists of whole numbers that take at most 2^47 - 4096 bytes each. -/
import Derived.Test.YtaaoeaojimjikaaHFnExactDominatesPartedx3
import Derived.Test.YtaaoeaojimjikaaCoreA
import Derived.Test.YtaaoeaojimjikaaCoreP
namespace Go.Proofs.Ytaaoeaojimjikaa.Pure
open Go.RowKit Go.Proofs.Ytaaoeaojimjikaa.HFnExactDominatesParted Go.Proofs.YtaaoeaojimjikaaW.PrintWords Go.Proofs.YtaaoeaojimjikaaW.PrintLast Go.Proofs.YtaaoeaojimjikaaW.PrintMore Go.Proofs.Ytaaoeaojimjikaa.Core
set_option linter.unusedVariables false
set_option linter.unusedSimpArgs false

theorem laws_toIntS_loop (s : List Int) : ∀ (p q : List Int) (i : Int), q.length = s.length → i = (p.length : Int) → (p ++ s).length ≤ 1099511627776 →
    Ev (fun k => laws_toIntS.l0 k (p ++ s) (p ++ q) i) (p ++ s) := by
  induction s with
  | nil =>
    intro p q i hq hi hl
    have hq0 : q = [] := List.eq_nil_of_length_eq_zero hq
    subst hq0
    refine Ev.done fun k => ?_
    simp only [laws_toIntS.l0]
    rw [if_neg (by rw [len_nil]; omega)]
  | cons x s ih =>
    intro p q i hq hi hl
    cases q with
    | nil => simp at hq
    | cons y q =>
      have hq' : q.length = s.length := by simpa using hq
      have h1 := len_mid p s x
      have h2 := len_mid p q y
      have := ih (p ++ [x]) q (i + 1) hq' (by rw [len_snoc]; omega) (by rw [← snoc_mid]; exact hl)
      rw [← snoc_mid, ← snoc_mid] at this
      refine Ev.step' this fun k => ?_
      simp only [laws_toIntS.l0]
      rw [if_pos (by omega), if_pos (by omega), if_pos (by omega), rd_mid hi, set_mid hi, w64 (by omega)]
theorem laws_toIntS_ev (l : List Int) (hl : l.length ≤ 1099511627776) : Ev (fun k => laws_toIntS.f k l) l := by
  have := laws_toIntS_loop l [] (List.replicate l.length 0) 0 (by simp) (by simp) (by simpa using hl)
  simp only [List.nil_append] at this
  refine Ev.congr (fun k => ?_) this
  unfold laws_toIntS.f
  rw [if_pos (by omega), if_pos (by omega)]
  simp only [Int.toNat_natCast]

theorem laws_eqIntS_loop (s : List Int) : ∀ (p q t : List Int) (i : Int), t.length = s.length → q.length = p.length → i = (p.length : Int) → (p ++ s).length ≤ 1099511627776 →
    Ev (fun k => laws_eqIntS.l0 k (p ++ s) (q ++ t) i) (decide (s = t)) := by
  induction s with
  | nil =>
    intro p q t i ht hq hi hl
    have ht0 : t = [] := List.eq_nil_of_length_eq_zero ht
    subst ht0
    refine Ev.done fun k => ?_
    simp only [laws_eqIntS.l0]
    rw [if_neg (by rw [len_nil]; omega)]
    simp
  | cons x s ih =>
    intro p q t i ht hq hi hl
    cases t with
    | nil => simp at ht
    | cons y t =>
      have ht' : t.length = s.length := by simpa using ht
      have h1 := len_mid p s x
      have h2 := len_mid q t y
      by_cases hxy : x = y
      · have := ih (p ++ [x]) (q ++ [y]) t (i + 1) ht' (by simp [hq]) (by rw [len_snoc]; omega) (by rw [← snoc_mid]; exact hl)
        rw [← snoc_mid, ← snoc_mid] at this
        refine Ev.to (Ev.step' this fun k => ?_) (by simp [hxy])
        simp only [laws_eqIntS.l0]
        rw [if_pos (by omega), if_pos (by omega), if_pos (by omega), rd_mid hi, rd_mid (by omega), if_pos hxy, w64 (by omega)]
      · refine Ev.to (Ev.done fun k => ?_) (show false = _ by simp [hxy])
        simp only [laws_eqIntS.l0]
        rw [if_pos (by omega), if_pos (by omega), if_pos (by omega), rd_mid hi, rd_mid (by omega), if_neg hxy]
theorem laws_eqIntS_ev (l t : List Int) (hl : l.length ≤ 1099511627776) : Ev (fun k => laws_eqIntS.f k l t) (decide (l = t)) := by
  by_cases h : l.length = t.length
  · have := laws_eqIntS_loop l [] [] t 0 h.symm rfl (by simp) (by simpa using hl)
    simp only [List.nil_append] at this
    refine Ev.congr (fun k => ?_) this
    unfold laws_eqIntS.f
    rw [if_pos (by omega)]
  · refine Ev.to (Ev.congr (fun k => ?_) (Ev.now false)) (by rw [decide_eq_false]; exact fun e => h (by rw [e]))
    unfold laws_eqIntS.f
    rw [if_neg (by omega)]

theorem spec_l1In_eq (a b c : Int) : spec_l1In.f a b c = some (inB a b c) := inB_ite a b c

theorem spec_l1All_loop (lo hi : Int) (s : List Int) : ∀ (p : List Int) (n i : Int), n = ((p ++ s).length : Int) → i = (p.length : Int) → (p ++ s).length ≤ 1099511627776 →
    Ev (fun k => spec_l1All.l0 k lo hi (p ++ s) n i) (s.all fun x => inB x lo hi) := by
  induction s with
  | nil =>
    intro p n i hn hx hl
    refine Ev.done fun k => ?_
    simp only [spec_l1All.l0]
    rw [if_neg (by rw [len_nil] at hn; omega)]
    rfl
  | cons x s ih =>
    intro p n i hn hx hl
    have h1 := len_mid p s x
    cases hb : inB x lo hi with
    | true =>
      have := ih (p ++ [x]) n (i + 1) (by rw [← snoc_mid]; exact hn) (by rw [len_snoc]; omega) (by rw [← snoc_mid]; exact hl)
      rw [← snoc_mid] at this
      refine Ev.to (Ev.step' this fun k => ?_) (by simp [hb])
      simp only [spec_l1All.l0]
      rw [if_pos (by omega), if_pos (by omega), if_pos (by omega), rd_mid hx, spec_l1In_eq, hb, w64 (by omega)]
      rfl
    | false =>
      refine Ev.to (Ev.done fun k => ?_) (show false = _ by simp [hb])
      simp only [spec_l1All.l0]
      rw [if_pos (by omega), if_pos (by omega), if_pos (by omega), rd_mid hx, spec_l1In_eq, hb]
      rfl
theorem spec_l1All_ev (l : List Int) (lo hi : Int) (hl : l.length ≤ 1099511627776) : Ev (fun k => spec_l1All.f k l lo hi) (l.all fun x => inB x lo hi) :=
  spec_l1All_loop lo hi l [] _ 0 rfl (by simp) (by simpa using hl)

theorem spec_spSum_loop (s : List Int) : ∀ (p : List Int) (m n i : Int), (∀ x ∈ s, 0 ≤ x ∧ x ≤ 1048576) → 0 ≤ m → m ≤ 1048576 * p.length → n = ((p ++ s).length : Int) → i = (p.length : Int) → (p ++ s).length ≤ 1073741824 →
    Ev (fun k => spec_spSum.l0 k m (p ++ s) n i) (m + sumL s) := by
  induction s with
  | nil =>
    intro p m n i hs hm hm' hn hi hl
    refine Ev.to (Ev.done fun k => ?_) (show m = _ by simp [sumL])
    simp only [spec_spSum.l0]
    rw [if_neg (by rw [len_nil] at hn; omega)]
  | cons x s ih =>
    intro p m n i hs hm hm' hn hi hl
    have h1 := len_mid p s x
    have hx := hs x (List.mem_cons_self ..)
    have h2 := len_snoc p x
    have := ih (p ++ [x]) (m + x) n (i + 1) (fun y hy => hs y (List.mem_cons_of_mem _ hy)) (by omega) (by omega) (by rw [← snoc_mid]; exact hn) (by omega) (by rw [← snoc_mid]; exact hl)
    rw [← snoc_mid] at this
    refine Ev.to (Ev.step' this fun k => ?_) (by simp [sumL]; omega)
    simp only [spec_spSum.l0]
    rw [if_pos (by omega), if_pos (by omega), if_pos (by omega), rd_mid hi, w64 (by omega), w64 (by omega)]
theorem spec_spSum_ev (l : List Int) (hs : ∀ x ∈ l, 0 ≤ x ∧ x ≤ 1048576) (hl : l.length ≤ 1073741824) : Ev (fun k => spec_spSum.f k l) (sumL l) :=
  Ev.to (spec_spSum_loop l [] 0 _ 0 hs (by omega) (by simp) rfl (by simp) (by simpa using hl)) (by simp)

theorem spec_spParted_loop (l : List Int) (hl : l.length ≤ 20) (hin : ∀ x ∈ l, 1 ≤ x ∧ x ≤ 20) (s : List Int) : ∀ (p : List Int) (m i : Int), p ++ s = l → 0 < p.length → rd l ((p.length : Int) - 1) = m → i = (p.length : Int) →
    Ev (fun k => spec_spParted.l0 k l i) (descL m s && decide (sumL l ≤ 20)) := by
  induction s with
  | nil =>
    intro p m i hp hp0 hm hi
    have hpl : p = l := by simpa using hp
    refine Ev.succ ?_
    simp only [spec_spParted.l0]
    simp only [if_neg (show ¬ i < (l.length : Int) by subst hpl; omega)]
    refine Ev.bind (spec_spSum_ev l (fun x hx => by have := hin x hx; omega) (by omega)) ?_
    refine Ev.some_ ?_
    simp [descL]
  | cons x s ih =>
    intro p m i hp hp0 hm hi
    have h1 := len_mid p s x
    rw [hp] at h1
    have hr : rd l i = x := by rw [← hp]; exact rd_mid hi
    have hp' : (p ++ [x]) ++ s = l := by rw [← snoc_mid]; exact hp
    have h2 := len_snoc p x
    have e1 : wrap64 (i - 1) = (p.length : Int) - 1 := by rw [w64 (by omega)]; omega
    by_cases hgt : x > m
    · refine Ev.to (Ev.done fun k => ?_) (show false = _ by rw [descL, decide_eq_false (by omega)]; rfl)
      simp only [spec_spParted.l0]
      rw [if_pos (by omega), if_pos (by omega), e1, if_pos (by omega), if_pos (by omega), hr, hm, if_pos hgt]
    · have hih := ih (p ++ [x]) x (i + 1) hp' (by simp) (by rw [h2, show (p.length : Int) + 1 - 1 = p.length by omega, ← hp]; exact rd_mid rfl) (by omega)
      refine Ev.to (Ev.step' hih fun k => ?_) (by rw [descL, decide_eq_true (show x ≤ m by omega)]; simp)
      simp only [spec_spParted.l0]
      rw [if_pos (by omega), if_pos (by omega), e1, if_pos (by omega), if_pos (by omega), hr, hm, if_neg hgt, w64 (n := i + 1) (by omega)]
theorem spec_spParted_ev (l : List Int) (hl : l.length ≤ 1073741824) : Ev (fun k => spec_spParted.f k l) (isP l) := by
  unfold spec_spParted.f isP
  by_cases h20 : (l.length : Int) > 20
  · simp only [if_pos h20]
    refine Ev.succ ?_
    simp only [spec_spParted.j0, if_true]
    refine Ev.some_ ?_
    rw [decide_eq_false (show ¬ (l.length : Int) ≤ 20 by omega)]
    simp
  · simp only [if_neg h20]
    rw [decide_eq_true (show (l.length : Int) ≤ 20 by omega), Bool.true_and]
    refine Ev.bind (spec_l1All_ev l 1 20 (by omega)) ?_
    refine Ev.succ ?_
    simp only [spec_spParted.j0]
    rw [parL_split]
    cases ha : (l.all fun x => inB x 1 20) with
    | false =>
      simp only [Bool.not_false, if_true]
      exact Ev.some_ (by simp)
    | true =>
      have hin := all_in.1 ha
      simp only [Bool.not_true, Bool.false_eq_true, if_false, Bool.true_and]
      cases l with
      | nil =>
        refine Ev.succ ?_
        simp only [spec_spParted.l0]
        simp only [List.length_nil, Int.natCast_zero, if_neg (show ¬ (1 : Int) < 0 by omega)]
        refine Ev.bind (spec_spSum_ev [] (by simp) (by simp)) ?_
        exact Ev.some_ (by simp [descL])
      | cons x s =>
        have hx := hin x (List.mem_cons_self ..)
        refine Ev.to (spec_spParted_loop (x :: s) (by omega) hin s [x] x 1 rfl (by simp) (by simp [rd]) (by simp)) ?_
        rw [descL, decide_eq_true (show x ≤ 20 by omega), Bool.true_and]

theorem spec_l1Least_eq (a b : Int) : spec_l1Least.f a b = some (min a b) := least_min a b

theorem spec_DominatesParted_loop (a b : List Int) (ha : ∀ x ∈ a, 1 ≤ x ∧ x ≤ 20) (hb : ∀ x ∈ b, 1 ≤ x ∧ x ≤ 20) (hal : a.length ≤ 20) (hbl : b.length ≤ 20) (d : Nat) : ∀ i : Nat, i + d = b.length →
    Ev (fun k => spec_DominatesParted.l0 k a b (b.length : Int) (i : Int)) (domR a b d (i + 1), true) := by
  have bnd : ∀ l : List Int, (∀ x ∈ l, 1 ≤ x ∧ x ≤ 20) → ∀ j : Nat, ∀ x ∈ l.take j, 0 ≤ x ∧ x ≤ 1048576 := fun l h j x hx => by have := h x (List.mem_of_mem_take hx); omega
  have cut : ∀ (l : List Int) (i : Nat), l.take (min (i : Int) (l.length : Int)).toNat = l.take i := by
    intro l i
    by_cases h : i ≤ l.length
    · rw [show min (i : Int) (l.length : Int) = (i : Int) by omega, Int.toNat_natCast]
    · rw [show min (i : Int) (l.length : Int) = (l.length : Int) by omega, Int.toNat_natCast, List.take_of_length_le (Nat.le_refl _), List.take_of_length_le (by omega)]
  induction d with
  | zero =>
    intro i hi
    refine Ev.succ ?_
    simp only [spec_DominatesParted.l0]
    simp only [if_neg (show ¬ (i : Int) < (b.length : Int) by omega)]
    exact Ev.now _
  | succ d ih =>
    intro i hi
    have h1 := ih (i + 1) (by omega)
    have e1 : wrap64 ((i : Int) + 1) = ((i + 1 : Nat) : Int) := by rw [w64 (by omega)]; omega
    refine Ev.succ ?_
    simp only [spec_DominatesParted.l0]
    simp only [if_pos (show (i : Int) < (b.length : Int) by omega), e1, spec_l1Least_eq, obind, if_pos (show 0 ≤ min ((i + 1 : Nat) : Int) (a.length : Int) by omega), if_pos (show min ((i + 1 : Nat) : Int) (a.length : Int) ≤ (a.length : Int) by omega), cut, if_pos (show 0 ≤ ((i + 1 : Nat) : Int) by omega), if_pos (show ((i + 1 : Nat) : Int) ≤ (b.length : Int) by omega), Int.toNat_natCast]
    refine Ev.bind (spec_spSum_ev (a.take (i + 1)) (bnd a ha (i + 1)) (by simp; omega)) (Ev.bind (spec_spSum_ev (b.take (i + 1)) (bnd b hb (i + 1)) (by simp; omega)) ?_)
    by_cases hlt : sumL (a.take (i + 1)) < sumL (b.take (i + 1))
    · simp only [if_pos hlt]
      refine Ev.some_ ?_
      rw [domR, decide_eq_false (by omega)]; simp
    · simp only [if_neg hlt]
      refine Ev.to h1 ?_
      rw [domR, decide_eq_true (show sumL (b.take (i + 1)) ≤ sumL (a.take (i + 1)) by omega), Bool.true_and]
theorem spec_DominatesParted_ev (a b : List Int) (hal : a.length ≤ 1073741824) (hbl : b.length ≤ 1073741824) :
    Ev (fun k => spec_DominatesParted.f k a b) (if (isP a && isP b) = true then (domP a b, true) else (false, false)) := by
  unfold spec_DominatesParted.f
  refine Ev.bind (spec_spParted_ev a hal) ?_
  cases hA : isP a with
  | false =>
    simp only [Bool.false_and, Bool.false_eq_true, if_false]
    refine Ev.succ ?_
    simp only [spec_DominatesParted.j0, if_true]
    exact Ev.now _
  | true =>
    simp only [Bool.true_and, if_true]
    refine Ev.bind (spec_spParted_ev b hbl) ?_
    refine Ev.succ ?_
    simp only [spec_DominatesParted.j0]
    cases hB : isP b with
    | false =>
      simp only [Bool.not_false, if_true, Bool.false_eq_true, if_false]
      exact Ev.now _
    | true =>
      simp only [Bool.not_true, Bool.false_eq_true, if_false, if_true]
      obtain ⟨_, h2, _, h4⟩ := isP_true hA
      obtain ⟨_, h6, _, h8⟩ := isP_true hB
      refine Ev.bind (spec_spSum_ev a (fun x hx => by have := h4 x hx; omega) hal) (Ev.bind (spec_spSum_ev b (fun x hx => by have := h8 x hx; omega) hbl) ?_)
      unfold domP
      by_cases hs : sumL a = sumL b
      · simp only [if_pos hs]
        refine Ev.to (spec_DominatesParted_loop a b h4 h8 h2 h6 b.length 0 (by omega)) ?_
        rw [decide_eq_true hs, Bool.true_and]
      · simp only [if_neg hs]
        exact Ev.some_ (by rw [decide_eq_false hs, Bool.false_and])

theorem impl_within_eq (a b c : Int) : impl_within.f a b c = some (inB a b c) := inB_ite a b c

theorem impl_sum_loop (s : List Int) : ∀ (p : List Int) (m n i : Int), (∀ x ∈ s, 0 ≤ x ∧ x ≤ 1048576) → 0 ≤ m → m ≤ 1048576 * p.length → n = ((p ++ s).length : Int) → i = (p.length : Int) → (p ++ s).length ≤ 1073741824 →
    Ev (fun k => impl_sum.l0 k m (p ++ s) n i) (m + sumL s) := by
  induction s with
  | nil =>
    intro p m n i hs hm hm' hn hi hl
    refine Ev.to (Ev.done fun k => ?_) (show m = _ by simp [sumL])
    simp only [impl_sum.l0]
    rw [if_neg (by rw [len_nil] at hn; omega)]
  | cons x s ih =>
    intro p m n i hs hm hm' hn hi hl
    have h1 := len_mid p s x
    have hx := hs x (List.mem_cons_self ..)
    have h2 := len_snoc p x
    have := ih (p ++ [x]) (m + x) n (i + 1) (fun y hy => hs y (List.mem_cons_of_mem _ hy)) (by omega) (by omega) (by rw [← snoc_mid]; exact hn) (by omega) (by rw [← snoc_mid]; exact hl)
    rw [← snoc_mid] at this
    refine Ev.to (Ev.step' this fun k => ?_) (by simp [sumL]; omega)
    simp only [impl_sum.l0]
    rw [if_pos (by omega), if_pos (by omega), if_pos (by omega), rd_mid hi, w64 (by omega), w64 (by omega)]
theorem impl_sum_ev (l : List Int) (hs : ∀ x ∈ l, 0 ≤ x ∧ x ≤ 1048576) (hl : l.length ≤ 1073741824) : Ev (fun k => impl_sum.f k l) (sumL l) :=
  Ev.to (impl_sum_loop l [] 0 _ 0 hs (by omega) (by simp) rfl (by simp) (by simpa using hl)) (by simp)

theorem impl_IsParted_loop (l : List Int) (hl : l.length ≤ 1073741824) (s : List Int) : ∀ (p : List Int) (m n i : Int), p ++ s = l → (∀ x ∈ p, 1 ≤ x ∧ x ≤ 20) → (p = [] → m = 20) → (0 < p.length → rd l ((p.length : Int) - 1) = m) → n = (l.length : Int) → i = (p.length : Int) →
    Ev (fun k => impl_IsParted.l0 k l l n i) (parL m s && (decide ((l.length : Int) ≤ 20) && decide (sumL l ≤ 20))) := by
  induction s with
  | nil =>
    intro p m n i hp hin h0 hm hn hi
    have hpl : p = l := by simpa using hp
    refine Ev.succ ?_
    simp only [impl_IsParted.l0]
    simp only [if_neg (show ¬ i < n by subst hpl; omega)]
    by_cases h20 : (l.length : Int) ≤ 20
    · simp only [if_pos h20]
      refine Ev.bind (impl_sum_ev l (fun x hx => by have := hin x (hpl ▸ hx); omega) hl) ?_
      refine Ev.some_ ?_
      simp [parL, h20]
    · simp only [if_neg h20]
      refine Ev.some_ ?_
      simp [h20]
  | cons x s ih =>
    intro p m n i hp hin h0 hm hn hi
    have h1 := len_mid p s x
    rw [hp] at h1
    have hr : rd l i = x := by rw [← hp]; exact rd_mid hi
    have hp' : (p ++ [x]) ++ s = l := by rw [← snoc_mid]; exact hp
    have h2 := len_snoc p x
    cases hb : inB x 1 20 with
    | false =>
      refine Ev.to (Ev.done fun k => ?_) (show false = _ by simp [parL, hb])
      simp only [impl_IsParted.l0]
      rw [if_pos (by omega), if_pos (by omega), if_pos (by omega), hr, impl_within_eq, hb]
      rfl
    | true =>
      have hx := inB_true.1 hb
      have hih := ih (p ++ [x]) x n (i + 1) hp' (by intro y hy; rcases List.mem_append.1 hy with hy | hy; exact hin y hy; simp at hy; omega) (by simp) (fun _ => by rw [h2, show (p.length : Int) + 1 - 1 = p.length by omega, ← hp]; exact rd_mid rfl) hn (by omega)
      by_cases hpos : i > 0
      · have hr1 := hm (by omega)
        have e1 : wrap64 (i - 1) = (p.length : Int) - 1 := by rw [w64 (by omega)]; omega
        by_cases hlt : m < x
        · refine Ev.to (Ev.done fun k => ?_) (show false = _ by rw [parL, hb, decide_eq_false (by omega)]; rfl)
          simp only [impl_IsParted.l0]
          rw [if_pos (by omega), if_pos (by omega), if_pos (by omega), hr, impl_within_eq, hb]
          simp only [obind, if_true]
          rw [if_pos hpos, e1, if_pos (by omega), if_pos (by omega), hr1, if_pos hlt]
        · refine Ev.to (Ev.step' hih fun k => ?_) (by rw [parL, hb, decide_eq_true (show x ≤ m by omega)]; simp)
          simp only [impl_IsParted.l0]
          rw [if_pos (by omega), if_pos (by omega), if_pos (by omega), hr, impl_within_eq, hb]
          simp only [obind, if_true]
          rw [if_pos hpos, e1, if_pos (by omega), if_pos (by omega), hr1, if_neg hlt, w64 (n := i + 1) (by omega)]
      · have hp0 : p = [] := List.eq_nil_of_length_eq_zero (by omega)
        have hm20 := h0 hp0
        refine Ev.to (Ev.step' hih fun k => ?_) (by rw [parL, hb, decide_eq_true (show x ≤ m by omega)]; simp)
        simp only [impl_IsParted.l0]
        rw [if_pos (by omega), if_pos (by omega), if_pos (by omega), hr, impl_within_eq, hb]
        simp only [obind, if_true]
        rw [if_neg hpos, w64 (n := i + 1) (by omega)]
theorem impl_IsParted_ev (l : List Int) (hl : l.length ≤ 1073741824) : Ev (fun k => impl_IsParted.f k l) (isP l) :=
  impl_IsParted_loop l hl l [] 20 _ 0 rfl (by simp) (fun _ => rfl) (by simp) rfl (by simp)

theorem impl_DominatesParted_loop (a b : List Int) (ha : ∀ x ∈ a, 1 ≤ x ∧ x ≤ 20) (hb : ∀ x ∈ b, 1 ≤ x ∧ x ≤ 20) (hal : a.length ≤ 20) (hbl : b.length ≤ 20) (n : Nat) (hn : n ≤ 21) (d : Nat) : ∀ i : Nat, i + d = n →
    Ev (fun k => impl_DominatesParted.l0 k a b (n : Int) (i : Int)) (domR a b d i && decide (sumL a = sumL b), true) := by
  have bnd : ∀ l : List Int, (∀ x ∈ l, 1 ≤ x ∧ x ≤ 20) → ∀ j : Nat, ∀ x ∈ l.take j, 0 ≤ x ∧ x ≤ 1048576 := fun l h j x hx => by have := h x (List.mem_of_mem_take hx); omega
  have bnd0 : ∀ l : List Int, (∀ x ∈ l, 1 ≤ x ∧ x ≤ 20) → ∀ x ∈ l, 0 ≤ x ∧ x ≤ 1048576 := fun l h x hx => by have := h x hx; omega
  have cut : ∀ (l : List Int) (i : Nat), l.take (mn (i : Int) (l.length : Int)).toNat = l.take i := by
    intro l i
    rw [mn_min]
    by_cases h : i ≤ l.length
    · rw [show min (i : Int) (l.length : Int) = (i : Int) by omega, Int.toNat_natCast]
    · rw [show min (i : Int) (l.length : Int) = (l.length : Int) by omega, Int.toNat_natCast, List.take_of_length_le (Nat.le_refl _), List.take_of_length_le (by omega)]
  induction d with
  | zero =>
    intro i hi
    refine Ev.succ ?_
    simp only [impl_DominatesParted.l0]
    simp only [if_neg (show ¬ (i : Int) < (n : Int) by omega)]
    refine Ev.bind (impl_sum_ev a (bnd0 a ha) (by omega)) (Ev.bind (impl_sum_ev b (bnd0 b hb) (by omega)) ?_)
    refine Ev.some_ ?_
    simp only [domR, Bool.true_and]
    congr 1
  | succ d ih =>
    intro i hi
    have h1 := ih (i + 1) (by omega)
    have e1 : wrap64 ((i : Int) + 1) = ((i + 1 : Nat) : Int) := by rw [w64 (by omega)]; omega
    have hm : ∀ l : List Int, 0 ≤ mn (i : Int) (l.length : Int) ∧ mn (i : Int) (l.length : Int) ≤ (l.length : Int) := fun l => by rw [mn_min]; omega
    refine Ev.succ ?_
    simp only [impl_DominatesParted.l0]
    simp only [if_pos (show (i : Int) < (n : Int) by omega), if_pos (hm a).1, if_pos (hm a).2, if_pos (hm b).1, if_pos (hm b).2, cut, e1]
    refine Ev.bind (impl_sum_ev (a.take i) (bnd a ha i) (by simp; omega)) (Ev.bind (impl_sum_ev (b.take i) (bnd b hb i) (by simp; omega)) ?_)
    by_cases hlt : sumL (a.take i) < sumL (b.take i)
    · simp only [if_pos hlt]
      refine Ev.some_ ?_
      rw [domR, decide_eq_false (by omega)]; simp
    · simp only [if_neg hlt]
      refine Ev.to h1 ?_
      rw [domR, decide_eq_true (show sumL (b.take i) ≤ sumL (a.take i) by omega), Bool.true_and]
theorem impl_DominatesParted_ev (a b : List Int) (hal : a.length ≤ 1073741824) (hbl : b.length ≤ 1073741824) :
    Ev (fun k => impl_DominatesParted.f k a b) (if (isP a && isP b) = true then (domP a b, true) else (false, false)) := by
  unfold impl_DominatesParted.f
  refine Ev.bind (impl_IsParted_ev a hal) ?_
  cases hA : isP a with
  | false =>
    simp only [Bool.false_and, Bool.false_eq_true, if_false]
    refine Ev.succ ?_
    simp only [impl_DominatesParted.j0, if_true]
    exact Ev.now _
  | true =>
    simp only [Bool.true_and, if_true]
    refine Ev.bind (impl_IsParted_ev b hbl) ?_
    refine Ev.succ ?_
    simp only [impl_DominatesParted.j0]
    cases hB : isP b with
    | false =>
      simp only [Bool.not_false, if_true, Bool.false_eq_true, if_false]
      exact Ev.now _
    | true =>
      simp only [Bool.not_true, Bool.false_eq_true, if_false, if_true]
      obtain ⟨_, h2, _, h4⟩ := isP_true hA
      obtain ⟨_, h6, _, h8⟩ := isP_true hB
      have e : wrap64 (mx (a.length : Int) (b.length : Int) + 1) = ((max a.length b.length + 1 : Nat) : Int) := by rw [mx_max, w64 (by omega)]; omega
      simp only [e]
      refine Ev.to (impl_DominatesParted_loop a b h4 h8 h2 h6 (max a.length b.length + 1) (by omega) (max a.length b.length + 1) 0 (by omega)) ?_
      rw [dom_same (fun x hx => by have := h4 x hx; omega) (fun x hx => by have := h8 x hx; omega)]
      rfl

theorem FnExactDominatesParted : laws_FnExactDominatesParted.Pure := by
  intro a b _ hal _ _ hbl _
  unfold laws_FnExactDominatesParted.f
  by_cases hbig : (a.length : Int) > 1048576
  · exact ⟨0, by rw [if_pos hbig]⟩
  by_cases hbig' : (b.length : Int) > 1048576
  · exact ⟨0, by rw [if_neg hbig, if_pos hbig']⟩
  simp only [if_neg hbig, if_neg hbig']
  have ht := laws_toIntS_ev a (by omega)
  have he := laws_eqIntS_ev a a (by omega)
  have ht' := laws_toIntS_ev b (by omega)
  have he' := laws_eqIntS_ev b b (by omega)
  refine (Ev.bind ht (Ev.bind ht' (Ev.bind (spec_DominatesParted_ev a b (by omega) (by omega)) (Ev.bind ht (Ev.bind ht' (Ev.bind (impl_DominatesParted_ev a b (by omega) (by omega)) ?_)))))).rounds
  simp only [bne_self_eq_false, Bool.false_eq_true, if_false]
  refine Ev.succ ?_
  simp only [laws_FnExactDominatesParted.j0, Bool.false_eq_true, if_false]
  refine Ev.bind ht (Ev.bind he ?_)
  simp only [decide_true, if_true]
  refine Ev.bind ht' (Ev.bind he' ?_)
  simp only [decide_true, if_true]
  exact Ev.now _

end Go.Proofs.Ytaaoeaojimjikaa.Pure
