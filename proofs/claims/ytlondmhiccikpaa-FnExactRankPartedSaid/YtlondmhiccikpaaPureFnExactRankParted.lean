/- The program's RankParted returns what the reference's returns, for every list of whole numbers that takes at most 2^47 - 4096 bytes. -/
import Derived.Test.YtlondmhiccikpaaHFnExactRankPartedx4
import Derived.Test.YtlondmhiccikpaaCoreA
import Derived.Test.YtlondmhiccikpaaCoreP
import Derived.Test.YtlondmhiccikpaaCorePR
namespace Go.Proofs.Ytlondmhiccikpaa.Pure
open Go.RowKit Go.Proofs.Ytlondmhiccikpaa.HFnExactRankParted Go.Proofs.YtlondmhiccikpaaW.PrintWords Go.Proofs.YtlondmhiccikpaaW.PrintLast Go.Proofs.YtlondmhiccikpaaW.PrintMore Go.Proofs.Ytlondmhiccikpaa.Core
set_option linter.unusedVariables false
set_option linter.unusedSimpArgs false

theorem laws_toIntS_loop (s : List Int) : ∀ (p q : List Int) (i : Int), q.length = s.length → i = (p.length : Int) → (p ++ s).length ≤ 1099511627776 →
    Ev (fun k => laws_toIntS.l0 k (p ++ s) (p ++ q) i) (p ++ s) := by
  induction s with
  | nil =>
    intro p q i hq hi hl
    have hq0 : q = [] := List.eq_nil_of_length_eq_zero hq
    subst hq0
    refine Ev.done fun k => ?_
    simp only [laws_toIntS.l0]
    rw [if_neg (by rw [len_nil]; omega)]
  | cons x s ih =>
    intro p q i hq hi hl
    cases q with
    | nil => simp at hq
    | cons y q =>
      have hq' : q.length = s.length := by simpa using hq
      have h1 := len_mid p s x
      have h2 := len_mid p q y
      have := ih (p ++ [x]) q (i + 1) hq' (by rw [len_snoc]; omega) (by rw [← snoc_mid]; exact hl)
      rw [← snoc_mid, ← snoc_mid] at this
      refine Ev.step' this fun k => ?_
      simp only [laws_toIntS.l0]
      rw [if_pos (by omega), if_pos (by omega), if_pos (by omega), rd_mid hi, set_mid hi, w64 (by omega)]
theorem laws_toIntS_ev (l : List Int) (hl : l.length ≤ 1099511627776) : Ev (fun k => laws_toIntS.f k l) l := by
  have := laws_toIntS_loop l [] (List.replicate l.length 0) 0 (by simp) (by simp) (by simpa using hl)
  simp only [List.nil_append] at this
  refine Ev.congr (fun k => ?_) this
  unfold laws_toIntS.f
  rw [if_pos (by omega), if_pos (by omega)]
  simp only [Int.toNat_natCast]

theorem laws_eqIntS_loop (s : List Int) : ∀ (p q t : List Int) (i : Int), t.length = s.length → q.length = p.length → i = (p.length : Int) → (p ++ s).length ≤ 1099511627776 →
    Ev (fun k => laws_eqIntS.l0 k (p ++ s) (q ++ t) i) (decide (s = t)) := by
  induction s with
  | nil =>
    intro p q t i ht hq hi hl
    have ht0 : t = [] := List.eq_nil_of_length_eq_zero ht
    subst ht0
    refine Ev.done fun k => ?_
    simp only [laws_eqIntS.l0]
    rw [if_neg (by rw [len_nil]; omega)]
    simp
  | cons x s ih =>
    intro p q t i ht hq hi hl
    cases t with
    | nil => simp at ht
    | cons y t =>
      have ht' : t.length = s.length := by simpa using ht
      have h1 := len_mid p s x
      have h2 := len_mid q t y
      by_cases hxy : x = y
      · have := ih (p ++ [x]) (q ++ [y]) t (i + 1) ht' (by simp [hq]) (by rw [len_snoc]; omega) (by rw [← snoc_mid]; exact hl)
        rw [← snoc_mid, ← snoc_mid] at this
        refine Ev.to (Ev.step' this fun k => ?_) (by simp [hxy])
        simp only [laws_eqIntS.l0]
        rw [if_pos (by omega), if_pos (by omega), if_pos (by omega), rd_mid hi, rd_mid (by omega), if_pos hxy, w64 (by omega)]
      · refine Ev.to (Ev.done fun k => ?_) (show false = _ by simp [hxy])
        simp only [laws_eqIntS.l0]
        rw [if_pos (by omega), if_pos (by omega), if_pos (by omega), rd_mid hi, rd_mid (by omega), if_neg hxy]
theorem laws_eqIntS_ev (l t : List Int) (hl : l.length ≤ 1099511627776) : Ev (fun k => laws_eqIntS.f k l t) (decide (l = t)) := by
  by_cases h : l.length = t.length
  · have := laws_eqIntS_loop l [] [] t 0 h.symm rfl (by simp) (by simpa using hl)
    simp only [List.nil_append] at this
    refine Ev.congr (fun k => ?_) this
    unfold laws_eqIntS.f
    rw [if_pos (by omega)]
  · refine Ev.to (Ev.congr (fun k => ?_) (Ev.now false)) (by rw [decide_eq_false]; exact fun e => h (by rw [e]))
    unfold laws_eqIntS.f
    rw [if_neg (by omega)]

theorem spec_l1In_eq (a b c : Int) : spec_l1In.f a b c = some (inB a b c) := inB_ite a b c

theorem spec_l1All_loop (lo hi : Int) (s : List Int) : ∀ (p : List Int) (n i : Int), n = ((p ++ s).length : Int) → i = (p.length : Int) → (p ++ s).length ≤ 1099511627776 →
    Ev (fun k => spec_l1All.l0 k lo hi (p ++ s) n i) (s.all fun x => inB x lo hi) := by
  induction s with
  | nil =>
    intro p n i hn hx hl
    refine Ev.done fun k => ?_
    simp only [spec_l1All.l0]
    rw [if_neg (by rw [len_nil] at hn; omega)]
    rfl
  | cons x s ih =>
    intro p n i hn hx hl
    have h1 := len_mid p s x
    cases hb : inB x lo hi with
    | true =>
      have := ih (p ++ [x]) n (i + 1) (by rw [← snoc_mid]; exact hn) (by rw [len_snoc]; omega) (by rw [← snoc_mid]; exact hl)
      rw [← snoc_mid] at this
      refine Ev.to (Ev.step' this fun k => ?_) (by simp [hb])
      simp only [spec_l1All.l0]
      rw [if_pos (by omega), if_pos (by omega), if_pos (by omega), rd_mid hx, spec_l1In_eq, hb, w64 (by omega)]
      rfl
    | false =>
      refine Ev.to (Ev.done fun k => ?_) (show false = _ by simp [hb])
      simp only [spec_l1All.l0]
      rw [if_pos (by omega), if_pos (by omega), if_pos (by omega), rd_mid hx, spec_l1In_eq, hb]
      rfl
theorem spec_l1All_ev (l : List Int) (lo hi : Int) (hl : l.length ≤ 1099511627776) : Ev (fun k => spec_l1All.f k l lo hi) (l.all fun x => inB x lo hi) :=
  spec_l1All_loop lo hi l [] _ 0 rfl (by simp) (by simpa using hl)

theorem spec_spSum_loop (s : List Int) : ∀ (p : List Int) (m n i : Int), (∀ x ∈ s, 0 ≤ x ∧ x ≤ 1048576) → 0 ≤ m → m ≤ 1048576 * p.length → n = ((p ++ s).length : Int) → i = (p.length : Int) → (p ++ s).length ≤ 1073741824 →
    Ev (fun k => spec_spSum.l0 k m (p ++ s) n i) (m + sumL s) := by
  induction s with
  | nil =>
    intro p m n i hs hm hm' hn hi hl
    refine Ev.to (Ev.done fun k => ?_) (show m = _ by simp [sumL])
    simp only [spec_spSum.l0]
    rw [if_neg (by rw [len_nil] at hn; omega)]
  | cons x s ih =>
    intro p m n i hs hm hm' hn hi hl
    have h1 := len_mid p s x
    have hx := hs x (List.mem_cons_self ..)
    have h2 := len_snoc p x
    have := ih (p ++ [x]) (m + x) n (i + 1) (fun y hy => hs y (List.mem_cons_of_mem _ hy)) (by omega) (by omega) (by rw [← snoc_mid]; exact hn) (by omega) (by rw [← snoc_mid]; exact hl)
    rw [← snoc_mid] at this
    refine Ev.to (Ev.step' this fun k => ?_) (by simp [sumL]; omega)
    simp only [spec_spSum.l0]
    rw [if_pos (by omega), if_pos (by omega), if_pos (by omega), rd_mid hi, w64 (by omega), w64 (by omega)]
theorem spec_spSum_ev (l : List Int) (hs : ∀ x ∈ l, 0 ≤ x ∧ x ≤ 1048576) (hl : l.length ≤ 1073741824) : Ev (fun k => spec_spSum.f k l) (sumL l) :=
  Ev.to (spec_spSum_loop l [] 0 _ 0 hs (by omega) (by simp) rfl (by simp) (by simpa using hl)) (by simp)

theorem spec_spParted_loop (l : List Int) (hl : l.length ≤ 20) (hin : ∀ x ∈ l, 1 ≤ x ∧ x ≤ 20) (s : List Int) : ∀ (p : List Int) (m i : Int), p ++ s = l → 0 < p.length → rd l ((p.length : Int) - 1) = m → i = (p.length : Int) →
    Ev (fun k => spec_spParted.l0 k l i) (descL m s && decide (sumL l ≤ 20)) := by
  induction s with
  | nil =>
    intro p m i hp hp0 hm hi
    have hpl : p = l := by simpa using hp
    refine Ev.succ ?_
    simp only [spec_spParted.l0]
    simp only [if_neg (show ¬ i < (l.length : Int) by subst hpl; omega)]
    refine Ev.bind (spec_spSum_ev l (fun x hx => by have := hin x hx; omega) (by omega)) ?_
    refine Ev.some_ ?_
    simp [descL]
  | cons x s ih =>
    intro p m i hp hp0 hm hi
    have h1 := len_mid p s x
    rw [hp] at h1
    have hr : rd l i = x := by rw [← hp]; exact rd_mid hi
    have hp' : (p ++ [x]) ++ s = l := by rw [← snoc_mid]; exact hp
    have h2 := len_snoc p x
    have e1 : wrap64 (i - 1) = (p.length : Int) - 1 := by rw [w64 (by omega)]; omega
    by_cases hgt : x > m
    · refine Ev.to (Ev.done fun k => ?_) (show false = _ by rw [descL, decide_eq_false (by omega)]; rfl)
      simp only [spec_spParted.l0]
      rw [if_pos (by omega), if_pos (by omega), e1, if_pos (by omega), if_pos (by omega), hr, hm, if_pos hgt]
    · have hih := ih (p ++ [x]) x (i + 1) hp' (by simp) (by rw [h2, show (p.length : Int) + 1 - 1 = p.length by omega, ← hp]; exact rd_mid rfl) (by omega)
      refine Ev.to (Ev.step' hih fun k => ?_) (by rw [descL, decide_eq_true (show x ≤ m by omega)]; simp)
      simp only [spec_spParted.l0]
      rw [if_pos (by omega), if_pos (by omega), e1, if_pos (by omega), if_pos (by omega), hr, hm, if_neg hgt, w64 (n := i + 1) (by omega)]
theorem spec_spParted_ev (l : List Int) (hl : l.length ≤ 1073741824) : Ev (fun k => spec_spParted.f k l) (isP l) := by
  unfold spec_spParted.f isP
  by_cases h20 : (l.length : Int) > 20
  · simp only [if_pos h20]
    refine Ev.succ ?_
    simp only [spec_spParted.j0, if_true]
    refine Ev.some_ ?_
    rw [decide_eq_false (show ¬ (l.length : Int) ≤ 20 by omega)]
    simp
  · simp only [if_neg h20]
    rw [decide_eq_true (show (l.length : Int) ≤ 20 by omega), Bool.true_and]
    refine Ev.bind (spec_l1All_ev l 1 20 (by omega)) ?_
    refine Ev.succ ?_
    simp only [spec_spParted.j0]
    rw [parL_split]
    cases ha : (l.all fun x => inB x 1 20) with
    | false =>
      simp only [Bool.not_false, if_true]
      exact Ev.some_ (by simp)
    | true =>
      have hin := all_in.1 ha
      simp only [Bool.not_true, Bool.false_eq_true, if_false, Bool.true_and]
      cases l with
      | nil =>
        refine Ev.succ ?_
        simp only [spec_spParted.l0]
        simp only [List.length_nil, Int.natCast_zero, if_neg (show ¬ (1 : Int) < 0 by omega)]
        refine Ev.bind (spec_spSum_ev [] (by simp) (by simp)) ?_
        exact Ev.some_ (by simp [descL])
      | cons x s =>
        have hx := hin x (List.mem_cons_self ..)
        refine Ev.to (spec_spParted_loop (x :: s) (by omega) hin s [x] x 1 rfl (by simp) (by simp [rd]) (by simp)) ?_
        rw [descL, decide_eq_true (show x ≤ 20 by omega), Bool.true_and]

set_option maxRecDepth 100000 in
theorem spec_spCount_small : ∀ n : Nat, n < 21 → ∀ m : Nat, m < 21 → spec_spCount.f 600 (n : Int) (m : Int) = some ((pc n m : Nat) : Int) := by
  decide +kernel
theorem spec_spCount_ev (n m : Nat) (hn : n ≤ 20) (hm : m ≤ 20) : Ev (fun k => spec_spCount.f k (n : Int) (m : Int)) ((pc n m : Nat) : Int) :=
  Ev.of (g := fun k => spec_spCount.f k (n : Int) (m : Int)) (spec_spCount.mono _ _) (spec_spCount_small n (by omega) m (by omega))

theorem spec_l1Least_eq (a b : Int) : spec_l1Least.f a b = some (min a b) := least_min a b

theorem spec_RankParted_l1 (a : List Int) (n x : Nat) (hn : n ≤ 20) (i : Int) (R : Int × Bool) (y : Nat) : ∀ (rank : Nat), y ≤ n → rank + 627 * y ≤ 1000000 →
    Ev (fun k => spec_RankParted.l0 k ((rank + above n x y : Nat) : Int) (wrap64 ((n : Int) - (x : Int))) (x : Int) a (a.length : Int) (wrap64 (i + 1))) R →
    Ev (fun k => spec_RankParted.l1 k (rank : Int) (n : Int) (x : Int) (y : Int) a (a.length : Int) i) R := by
  induction y with
  | zero =>
    intro rank hy hr hR
    refine Ev.succ ?_
    simp only [spec_RankParted.l1]
    simp only [if_neg (show ¬ ((0 : Nat) : Int) > (x : Int) by omega)]
    exact hR
  | succ y ih =>
    intro rank hy hr hR
    refine Ev.succ ?_
    simp only [spec_RankParted.l1]
    unfold above at hR
    by_cases c : x < y + 1
    · rw [if_pos c] at hR
      have hs := pc_small (n := n - (y + 1)) (x := y + 1) (by omega) (by omega)
      have e1 : wrap64 ((n : Int) - ((y + 1 : Nat) : Int)) = ((n - (y + 1) : Nat) : Int) := by rw [w64 (by omega)]; omega
      have e2 : wrap64 (((y + 1 : Nat) : Int) - 1) = (y : Int) := by rw [w64 (by omega)]; omega
      have e3 : wrap64 ((rank : Int) + ((pc (n - (y + 1)) (y + 1) : Nat) : Int)) = ((rank + pc (n - (y + 1)) (y + 1) : Nat) : Int) := by rw [w64 (by omega)]; omega
      simp only [if_pos (show ((y + 1 : Nat) : Int) > (x : Int) by omega), e1, e2]
      refine Ev.bind (spec_spCount_ev (n - (y + 1)) (y + 1) (by omega) (by omega)) ?_
      simp only [e3]
      refine ih _ (by omega) (by omega) ?_
      rw [Nat.add_assoc]; exact hR
    · rw [if_neg c] at hR
      simp only [if_neg (show ¬ ((y + 1 : Nat) : Int) > (x : Int) by omega)]
      exact hR
theorem spec_RankParted_l0 (a : List Int) (ha : a.length ≤ 20) (hin : ∀ x ∈ a, 1 ≤ x ∧ x ≤ 20) (s : List Int) : ∀ (p : List Int) (n most rank : Nat), p ++ s = a → sumL s = (n : Int) → n ≤ 20 → rank ≤ 13000 * p.length →
    Ev (fun k => spec_RankParted.l0 k (rank : Int) (n : Int) (most : Int) a (a.length : Int) (p.length : Int)) (((rank + rkP n most s : Nat) : Int), true) := by
  induction s with
  | nil =>
    intro p n most rank hp hs hn hr
    have : a.length = p.length := by rw [← hp]; simp
    refine Ev.succ ?_
    simp only [spec_RankParted.l0]
    simp only [if_neg (show ¬ (p.length : Int) < (a.length : Int) by omega)]
    exact Ev.some_ (by simp [rkP])
  | cons x s ih =>
    intro p n most rank hp hs hn hr
    have hlen : a.length = p.length + s.length + 1 := by rw [← hp]; simp; omega
    have hsub : ∀ y ∈ x :: s, 1 ≤ y ∧ y ≤ 20 := fun y hy => hin y (by rw [← hp]; exact List.mem_append_right _ hy)
    have hx := hsub x (List.mem_cons_self ..)
    have hs0 : 0 ≤ sumL s := sumL_nonneg fun y hy => by have := hsub y (List.mem_cons_of_mem _ hy); omega
    have hsx : sumL (x :: s) = x + sumL s := rfl
    obtain ⟨q, rfl⟩ : ∃ q : Nat, x = (q : Int) := ⟨x.toNat, by omega⟩
    have e0 : rd a (p.length : Int) = (q : Int) := by rw [← hp]; exact rd_mid rfl
    have e1 : wrap64 ((p.length : Int) + 1) = ((p ++ [(q : Int)]).length : Int) := i_succ (by omega)
    have e2 : wrap64 ((n : Int) - (q : Int)) = ((n - q : Nat) : Int) := by rw [w64 (by omega)]; omega
    have hp' : (p ++ [(q : Int)]) ++ s = a := by rw [← snoc_mid]; exact hp
    have hab := above_le (n := n) hn q (min most n) (by omega)
    have hab2 : 627 * min most n ≤ 12540 := by omega
    refine Ev.succ ?_
    simp only [spec_RankParted.l0]
    simp only [if_pos (show (p.length : Int) < (a.length : Int) by omega), if_pos (show 0 ≤ (p.length : Int) by omega), e0, spec_l1Least_eq, obind, i_min, Nat.min_comm n most]
    refine spec_RankParted_l1 a n q hn (p.length : Int) _ (min most n) rank (Nat.min_le_right _ _) (by omega) ?_
    simp only [e1, e2]
    refine Ev.to (ih (p ++ [(q : Int)]) (n - q) q (rank + above n q (min most n)) hp' (by omega) (by omega) (by rw [List.length_append, List.length_singleton]; omega)) ?_
    simp only [rkP, Int.toNat_natCast]
    rw [Nat.add_assoc]
theorem spec_RankParted_ev (l : List Int) (hl : l.length ≤ 1073741824) : Ev (fun f => spec_RankParted.f f l) (if isP l = true then ((rkP (sumL l).toNat (sumL l).toNat l : Int), true) else (0, false)) := by
  unfold spec_RankParted.f
  refine Ev.bind (spec_spParted_ev l hl) ?_
  by_cases h : isP l = true
  · obtain ⟨_, h2, h3, h4⟩ := isP_true h
    have h0 : 0 ≤ sumL l := sumL_nonneg fun y hy => by have := h4 y hy; omega
    simp only [h, if_true]
    refine Ev.bind (spec_spSum_ev l (fun x hx => by have := h4 x hx; omega) hl) ?_
    obtain ⟨n, hn⟩ : ∃ n : Nat, sumL l = (n : Int) := ⟨(sumL l).toNat, by omega⟩
    rw [hn]
    refine Ev.to (spec_RankParted_l0 l h2 h4 l [] n n 0 rfl hn (by omega) (by simp)) ?_
    simp
  · simp only [if_neg h]
    exact Ev.now _

theorem impl_within_eq (a b c : Int) : impl_within.f a b c = some (inB a b c) := inB_ite a b c

theorem impl_sum_loop (s : List Int) : ∀ (p : List Int) (m n i : Int), (∀ x ∈ s, 0 ≤ x ∧ x ≤ 1048576) → 0 ≤ m → m ≤ 1048576 * p.length → n = ((p ++ s).length : Int) → i = (p.length : Int) → (p ++ s).length ≤ 1073741824 →
    Ev (fun k => impl_sum.l0 k m (p ++ s) n i) (m + sumL s) := by
  induction s with
  | nil =>
    intro p m n i hs hm hm' hn hi hl
    refine Ev.to (Ev.done fun k => ?_) (show m = _ by simp [sumL])
    simp only [impl_sum.l0]
    rw [if_neg (by rw [len_nil] at hn; omega)]
  | cons x s ih =>
    intro p m n i hs hm hm' hn hi hl
    have h1 := len_mid p s x
    have hx := hs x (List.mem_cons_self ..)
    have h2 := len_snoc p x
    have := ih (p ++ [x]) (m + x) n (i + 1) (fun y hy => hs y (List.mem_cons_of_mem _ hy)) (by omega) (by omega) (by rw [← snoc_mid]; exact hn) (by omega) (by rw [← snoc_mid]; exact hl)
    rw [← snoc_mid] at this
    refine Ev.to (Ev.step' this fun k => ?_) (by simp [sumL]; omega)
    simp only [impl_sum.l0]
    rw [if_pos (by omega), if_pos (by omega), if_pos (by omega), rd_mid hi, w64 (by omega), w64 (by omega)]
theorem impl_sum_ev (l : List Int) (hs : ∀ x ∈ l, 0 ≤ x ∧ x ≤ 1048576) (hl : l.length ≤ 1073741824) : Ev (fun k => impl_sum.f k l) (sumL l) :=
  Ev.to (impl_sum_loop l [] 0 _ 0 hs (by omega) (by simp) rfl (by simp) (by simpa using hl)) (by simp)

theorem impl_IsParted_loop (l : List Int) (hl : l.length ≤ 1073741824) (s : List Int) : ∀ (p : List Int) (m n i : Int), p ++ s = l → (∀ x ∈ p, 1 ≤ x ∧ x ≤ 20) → (p = [] → m = 20) → (0 < p.length → rd l ((p.length : Int) - 1) = m) → n = (l.length : Int) → i = (p.length : Int) →
    Ev (fun k => impl_IsParted.l0 k l l n i) (parL m s && (decide ((l.length : Int) ≤ 20) && decide (sumL l ≤ 20))) := by
  induction s with
  | nil =>
    intro p m n i hp hin h0 hm hn hi
    have hpl : p = l := by simpa using hp
    refine Ev.succ ?_
    simp only [impl_IsParted.l0]
    simp only [if_neg (show ¬ i < n by subst hpl; omega)]
    by_cases h20 : (l.length : Int) ≤ 20
    · simp only [if_pos h20]
      refine Ev.bind (impl_sum_ev l (fun x hx => by have := hin x (hpl ▸ hx); omega) hl) ?_
      refine Ev.some_ ?_
      simp [parL, h20]
    · simp only [if_neg h20]
      refine Ev.some_ ?_
      simp [h20]
  | cons x s ih =>
    intro p m n i hp hin h0 hm hn hi
    have h1 := len_mid p s x
    rw [hp] at h1
    have hr : rd l i = x := by rw [← hp]; exact rd_mid hi
    have hp' : (p ++ [x]) ++ s = l := by rw [← snoc_mid]; exact hp
    have h2 := len_snoc p x
    cases hb : inB x 1 20 with
    | false =>
      refine Ev.to (Ev.done fun k => ?_) (show false = _ by simp [parL, hb])
      simp only [impl_IsParted.l0]
      rw [if_pos (by omega), if_pos (by omega), if_pos (by omega), hr, impl_within_eq, hb]
      rfl
    | true =>
      have hx := inB_true.1 hb
      have hih := ih (p ++ [x]) x n (i + 1) hp' (by intro y hy; rcases List.mem_append.1 hy with hy | hy; exact hin y hy; simp at hy; omega) (by simp) (fun _ => by rw [h2, show (p.length : Int) + 1 - 1 = p.length by omega, ← hp]; exact rd_mid rfl) hn (by omega)
      by_cases hpos : i > 0
      · have hr1 := hm (by omega)
        have e1 : wrap64 (i - 1) = (p.length : Int) - 1 := by rw [w64 (by omega)]; omega
        by_cases hlt : m < x
        · refine Ev.to (Ev.done fun k => ?_) (show false = _ by rw [parL, hb, decide_eq_false (by omega)]; rfl)
          simp only [impl_IsParted.l0]
          rw [if_pos (by omega), if_pos (by omega), if_pos (by omega), hr, impl_within_eq, hb]
          simp only [obind, if_true]
          rw [if_pos hpos, e1, if_pos (by omega), if_pos (by omega), hr1, if_pos hlt]
        · refine Ev.to (Ev.step' hih fun k => ?_) (by rw [parL, hb, decide_eq_true (show x ≤ m by omega)]; simp)
          simp only [impl_IsParted.l0]
          rw [if_pos (by omega), if_pos (by omega), if_pos (by omega), hr, impl_within_eq, hb]
          simp only [obind, if_true]
          rw [if_pos hpos, e1, if_pos (by omega), if_pos (by omega), hr1, if_neg hlt, w64 (n := i + 1) (by omega)]
      · have hp0 : p = [] := List.eq_nil_of_length_eq_zero (by omega)
        have hm20 := h0 hp0
        refine Ev.to (Ev.step' hih fun k => ?_) (by rw [parL, hb, decide_eq_true (show x ≤ m by omega)]; simp)
        simp only [impl_IsParted.l0]
        rw [if_pos (by omega), if_pos (by omega), if_pos (by omega), hr, impl_within_eq, hb]
        simp only [obind, if_true]
        rw [if_neg hpos, w64 (n := i + 1) (by omega)]
theorem impl_IsParted_ev (l : List Int) (hl : l.length ≤ 1073741824) : Ev (fun k => impl_IsParted.f k l) (isP l) :=
  impl_IsParted_loop l hl l [] 20 _ 0 rfl (by simp) (fun _ => rfl) (by simp) rfl (by simp)

set_option maxRecDepth 100000 in
theorem impl_countParted_small : ∀ n : Nat, n < 21 → ∀ m : Nat, m < 21 → impl_countParted.f 600 (n : Int) (m : Int) = some ((pc n m : Nat) : Int) := by
  decide +kernel
theorem impl_countParted_ev (n m : Nat) (hn : n ≤ 20) (hm : m ≤ 20) : Ev (fun k => impl_countParted.f k (n : Int) (m : Int)) ((pc n m : Nat) : Int) :=
  Ev.of (g := fun k => impl_countParted.f k (n : Int) (m : Int)) (impl_countParted.mono _ _) (impl_countParted_small n (by omega) m (by omega))

theorem impl_RankParted_l1 (a : List Int) (n x : Nat) (hn : n ≤ 20) (i : Int) (R : Int × Bool) (y : Nat) : ∀ (rank : Nat), y ≤ n → rank + 627 * y ≤ 1000000 →
    Ev (fun k => impl_RankParted.l0 k ((rank + above n x y : Nat) : Int) (wrap64 ((n : Int) - (x : Int))) (x : Int) a (a.length : Int) (wrap64 (i + 1))) R →
    Ev (fun k => impl_RankParted.l1 k (rank : Int) (n : Int) (x : Int) (y : Int) a (a.length : Int) i) R := by
  induction y with
  | zero =>
    intro rank hy hr hR
    refine Ev.succ ?_
    simp only [impl_RankParted.l1]
    simp only [if_neg (show ¬ ((0 : Nat) : Int) > (x : Int) by omega)]
    exact hR
  | succ y ih =>
    intro rank hy hr hR
    refine Ev.succ ?_
    simp only [impl_RankParted.l1]
    unfold above at hR
    by_cases c : x < y + 1
    · rw [if_pos c] at hR
      have hs := pc_small (n := n - (y + 1)) (x := y + 1) (by omega) (by omega)
      have e1 : wrap64 ((n : Int) - ((y + 1 : Nat) : Int)) = ((n - (y + 1) : Nat) : Int) := by rw [w64 (by omega)]; omega
      have e2 : wrap64 (((y + 1 : Nat) : Int) - 1) = (y : Int) := by rw [w64 (by omega)]; omega
      have e3 : wrap64 ((rank : Int) + ((pc (n - (y + 1)) (y + 1) : Nat) : Int)) = ((rank + pc (n - (y + 1)) (y + 1) : Nat) : Int) := by rw [w64 (by omega)]; omega
      simp only [if_pos (show ((y + 1 : Nat) : Int) > (x : Int) by omega), e1, e2]
      refine Ev.bind (impl_countParted_ev (n - (y + 1)) (y + 1) (by omega) (by omega)) ?_
      simp only [e3]
      refine ih _ (by omega) (by omega) ?_
      rw [Nat.add_assoc]; exact hR
    · rw [if_neg c] at hR
      simp only [if_neg (show ¬ ((y + 1 : Nat) : Int) > (x : Int) by omega)]
      exact hR
theorem impl_RankParted_l0 (a : List Int) (ha : a.length ≤ 20) (hin : ∀ x ∈ a, 1 ≤ x ∧ x ≤ 20) (s : List Int) : ∀ (p : List Int) (n most rank : Nat), p ++ s = a → sumL s = (n : Int) → n ≤ 20 → rank ≤ 13000 * p.length →
    Ev (fun k => impl_RankParted.l0 k (rank : Int) (n : Int) (most : Int) a (a.length : Int) (p.length : Int)) (((rank + rkP n most s : Nat) : Int), true) := by
  induction s with
  | nil =>
    intro p n most rank hp hs hn hr
    have : a.length = p.length := by rw [← hp]; simp
    refine Ev.succ ?_
    simp only [impl_RankParted.l0]
    simp only [if_neg (show ¬ (p.length : Int) < (a.length : Int) by omega)]
    exact Ev.some_ (by simp [rkP])
  | cons x s ih =>
    intro p n most rank hp hs hn hr
    have hlen : a.length = p.length + s.length + 1 := by rw [← hp]; simp; omega
    have hsub : ∀ y ∈ x :: s, 1 ≤ y ∧ y ≤ 20 := fun y hy => hin y (by rw [← hp]; exact List.mem_append_right _ hy)
    have hx := hsub x (List.mem_cons_self ..)
    have hs0 : 0 ≤ sumL s := sumL_nonneg fun y hy => by have := hsub y (List.mem_cons_of_mem _ hy); omega
    have hsx : sumL (x :: s) = x + sumL s := rfl
    obtain ⟨q, rfl⟩ : ∃ q : Nat, x = (q : Int) := ⟨x.toNat, by omega⟩
    have e0 : rd a (p.length : Int) = (q : Int) := by rw [← hp]; exact rd_mid rfl
    have e1 : wrap64 ((p.length : Int) + 1) = ((p ++ [(q : Int)]).length : Int) := i_succ (by omega)
    have e2 : wrap64 ((n : Int) - (q : Int)) = ((n - q : Nat) : Int) := by rw [w64 (by omega)]; omega
    have hp' : (p ++ [(q : Int)]) ++ s = a := by rw [← snoc_mid]; exact hp
    have hab := above_le (n := n) hn q (min most n) (by omega)
    have hab2 : 627 * min most n ≤ 12540 := by omega
    refine Ev.succ ?_
    simp only [impl_RankParted.l0]
    simp only [if_pos (show (p.length : Int) < (a.length : Int) by omega), if_pos (show 0 ≤ (p.length : Int) by omega), e0, i_mn]
    refine impl_RankParted_l1 a n q hn (p.length : Int) _ (min most n) rank (Nat.min_le_right _ _) (by omega) ?_
    simp only [e1, e2]
    refine Ev.to (ih (p ++ [(q : Int)]) (n - q) q (rank + above n q (min most n)) hp' (by omega) (by omega) (by rw [List.length_append, List.length_singleton]; omega)) ?_
    simp only [rkP, Int.toNat_natCast]
    rw [Nat.add_assoc]
theorem impl_RankParted_ev (l : List Int) (hl : l.length ≤ 1073741824) : Ev (fun f => impl_RankParted.f f l) (if isP l = true then ((rkP (sumL l).toNat (sumL l).toNat l : Int), true) else (0, false)) := by
  unfold impl_RankParted.f
  refine Ev.bind (impl_IsParted_ev l hl) ?_
  by_cases h : isP l = true
  · obtain ⟨_, h2, h3, h4⟩ := isP_true h
    have h0 : 0 ≤ sumL l := sumL_nonneg fun y hy => by have := h4 y hy; omega
    simp only [h, if_true]
    refine Ev.bind (impl_sum_ev l (fun x hx => by have := h4 x hx; omega) hl) ?_
    obtain ⟨n, hn⟩ : ∃ n : Nat, sumL l = (n : Int) := ⟨(sumL l).toNat, by omega⟩
    rw [hn]
    refine Ev.to (impl_RankParted_l0 l h2 h4 l [] n n 0 rfl hn (by omega) (by simp)) ?_
    simp
  · simp only [if_neg h]
    exact Ev.now _

theorem FnExactRankParted : laws_FnExactRankParted.Pure := by
  intro l _ hl _
  unfold laws_FnExactRankParted.f
  by_cases hbig : (l.length : Int) > 1048576
  · exact ⟨0, by rw [if_pos hbig]⟩
  simp only [if_neg hbig]
  have hl' : l.length ≤ 1099511627776 := by omega
  have ht := laws_toIntS_ev l hl'
  have he := laws_eqIntS_ev l l hl'
  refine (Ev.bind ht (Ev.bind (spec_RankParted_ev l (by omega)) (Ev.bind ht (Ev.bind (impl_RankParted_ev l (by omega)) ?_)))).rounds
  simp only [bne_self_eq_false, if_true]
  refine Ev.succ ?_
  simp only [laws_FnExactRankParted.j0, Bool.false_eq_true, if_false]
  refine Ev.bind ht (Ev.bind he ?_)
  simp only [decide_true, if_true]
  exact Ev.now _

end Go.Proofs.Ytlondmhiccikpaa.Pure
