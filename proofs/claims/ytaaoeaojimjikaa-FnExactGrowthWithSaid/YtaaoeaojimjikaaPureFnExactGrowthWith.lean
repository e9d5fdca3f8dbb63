/- The program's GrowthWith returns what the reference's returns, for every pair of whole numbers. -/
import Derived.Test.YtaaoeaojimjikaaHFnExactGrowthWithx3
import Derived.Test.YtaaoeaojimjikaaCoreA
import Derived.Test.YtaaoeaojimjikaaCoreG
namespace Go.Proofs.Ytaaoeaojimjikaa.Pure
open Go.RowKit Go.Proofs.Ytaaoeaojimjikaa.HFnExactGrowthWith Go.Proofs.YtaaoeaojimjikaaW.PrintWords Go.Proofs.YtaaoeaojimjikaaW.PrintLast Go.Proofs.YtaaoeaojimjikaaW.PrintMore Go.Proofs.Ytaaoeaojimjikaa.Core
set_option linter.unusedVariables false
set_option linter.unusedSimpArgs false

theorem laws_eqIntS_loop (s : List Int) : ∀ (p q t : List Int) (i : Int), t.length = s.length → q.length = p.length → i = (p.length : Int) → (p ++ s).length ≤ 1099511627776 →
    Ev (fun k => laws_eqIntS.l0 k (p ++ s) (q ++ t) i) (decide (s = t)) := by
  induction s with
  | nil =>
    intro p q t i ht hq hi hl
    have ht0 : t = [] := List.eq_nil_of_length_eq_zero ht
    subst ht0
    refine Ev.done fun k => ?_
    simp only [laws_eqIntS.l0]
    rw [if_neg (by rw [len_nil]; omega)]
    simp
  | cons x s ih =>
    intro p q t i ht hq hi hl
    cases t with
    | nil => simp at ht
    | cons y t =>
      have ht' : t.length = s.length := by simpa using ht
      have h1 := len_mid p s x
      have h2 := len_mid q t y
      by_cases hxy : x = y
      · have := ih (p ++ [x]) (q ++ [y]) t (i + 1) ht' (by simp [hq]) (by rw [len_snoc]; omega) (by rw [← snoc_mid]; exact hl)
        rw [← snoc_mid, ← snoc_mid] at this
        refine Ev.to (Ev.step' this fun k => ?_) (by simp [hxy])
        simp only [laws_eqIntS.l0]
        rw [if_pos (by omega), if_pos (by omega), if_pos (by omega), rd_mid hi, rd_mid (by omega), if_pos hxy, w64 (by omega)]
      · refine Ev.to (Ev.done fun k => ?_) (show false = _ by simp [hxy])
        simp only [laws_eqIntS.l0]
        rw [if_pos (by omega), if_pos (by omega), if_pos (by omega), rd_mid hi, rd_mid (by omega), if_neg hxy]
theorem laws_eqIntS_ev (l t : List Int) (hl : l.length ≤ 1099511627776) : Ev (fun k => laws_eqIntS.f k l t) (decide (l = t)) := by
  by_cases h : l.length = t.length
  · have := laws_eqIntS_loop l [] [] t 0 h.symm rfl (by simp) (by simpa using hl)
    simp only [List.nil_append] at this
    refine Ev.congr (fun k => ?_) this
    unfold laws_eqIntS.f
    rw [if_pos (by omega)]
  · refine Ev.to (Ev.congr (fun k => ?_) (Ev.now false)) (by rw [decide_eq_false]; exact fun e => h (by rw [e]))
    unfold laws_eqIntS.f
    rw [if_neg (by omega)]

theorem laws_markIntS_loop (s : List Int) : ∀ (p : List Int) (m i : Int), 0 ≤ m → m + s.length ≤ 1099511627776 → i = (p.length : Int) → (p ++ s).length ≤ 1099511627776 →
    Ev (fun k => laws_markIntS.l0 k (p ++ s) m i) (m + s.length, p ++ upFrom m s.length) := by
  induction s with
  | nil =>
    intro p m i hm hm' hi hl
    refine Ev.to (Ev.done fun k => ?_) (show (m, p ++ []) = _ by simp [upFrom])
    simp only [laws_markIntS.l0]
    rw [if_neg (by rw [len_nil]; omega)]
  | cons x s ih =>
    intro p m i hm hm' hi hl
    have h1 := len_mid p s x
    have h2 : (((x :: s).length : Nat) : Int) = s.length + 1 := by simp
    have h3 : (p ++ m :: s).length = (p ++ x :: s).length := by simp
    have := ih (p ++ [m]) (m + 1) (i + 1) (by omega) (by omega) (by rw [len_snoc]; omega) (by rw [← snoc_mid, h3]; exact hl)
    rw [← snoc_mid] at this
    refine Ev.to (Ev.step' this fun k => ?_) (by rw [h2, ← snoc_mid]; simp only [List.length_cons, upFrom]; congr 1; omega)
    simp only [laws_markIntS.l0]
    rw [if_pos (by omega), if_pos (by omega), set_mid hi, w64 (by omega), w64 (by omega)]
theorem laws_markIntS_ev (l : List Int) (hl : l.length ≤ 109951162777) : Ev (fun k => laws_markIntS.f k l 1) (1 + l.length, upFrom 1 l.length) :=
  laws_markIntS_loop l [] 1 0 (by omega) (by omega) (by simp) (by simp; omega)

theorem laws_heldIntS_loop (n : Nat) : ∀ (p : List Int) (m i : Int), 0 ≤ m → m + n ≤ 1099511627776 → i = (p.length : Int) → p.length + n ≤ 1099511627776 →
    Ev (fun k => laws_heldIntS.l0 k (p ++ upFrom m n) m i) (m + n) := by
  induction n with
  | zero =>
    intro p m i hm hm' hi hl
    show Ev (fun k => laws_heldIntS.l0 k (p ++ []) m i) _
    refine Ev.to (Ev.done fun k => ?_) (show m = _ by simp)
    simp only [laws_heldIntS.l0]
    rw [if_neg (by rw [len_nil]; omega)]
  | succ n ih =>
    intro p m i hm hm' hi hl
    have h1 := len_mid p (upFrom (m + 1) n) m
    have := ih (p ++ [m]) (m + 1) (i + 1) (by omega) (by omega) (by rw [len_snoc]; omega) (by rw [List.length_append]; simp; omega)
    rw [← snoc_mid] at this
    show Ev (fun k => laws_heldIntS.l0 k (p ++ m :: upFrom (m + 1) n) m i) _
    refine Ev.to (Ev.step' this fun k => ?_) (by omega)
    simp only [laws_heldIntS.l0]
    rw [if_pos (by omega), if_pos (by omega), rd_mid hi, if_pos rfl, w64 (by omega), w64 (by omega)]
theorem laws_heldIntS_ev (n : Nat) (hn : n ≤ 109951162777) : Ev (fun k => laws_heldIntS.f k (upFrom 1 n) 1) (1 + n) :=
  laws_heldIntS_loop n [] 1 0 (by omega) (by omega) (by simp) (by simp; omega)

theorem spec_l1In_eq (a b c : Int) : spec_l1In.f a b c = some (inB a b c) := inB_ite a b c

theorem spec_l1Least_eq (a b : Int) : spec_l1Least.f a b = some (min a b) := least_min a b

theorem spec_l1Most_eq (a b : Int) : spec_l1Most.f a b = some (max a b) := most_max a b

theorem spec_spTop_loop (s : List Int) : ∀ (p : List Int) (m n i : Int), n = ((p ++ s).length : Int) → i = (p.length : Int) → (p ++ s).length ≤ 1099511627776 →
    Ev (fun k => spec_spTop.l0 k m (p ++ s) n i) (s.foldl max m) := by
  induction s with
  | nil =>
    intro p m n i hn hi hl
    refine Ev.to (Ev.done fun k => ?_) (show m = _ by simp)
    simp only [spec_spTop.l0]
    rw [if_neg (by rw [len_nil] at hn; omega)]
  | cons x s ih =>
    intro p m n i hn hi hl
    have h1 := len_mid p s x
    have := ih (p ++ [x]) (max m x) n (i + 1) (by rw [← snoc_mid]; exact hn) (by rw [len_snoc]; omega) (by rw [← snoc_mid]; exact hl)
    rw [← snoc_mid] at this
    refine Ev.to (Ev.step' this fun k => ?_) (by simp)
    simp only [spec_spTop.l0]
    rw [if_pos (by omega), if_pos (by omega), if_pos (by omega), rd_mid hi, spec_l1Most_eq, w64 (by omega)]
    rfl
theorem spec_spTop_ev (l : List Int) (hl : l.length ≤ 1099511627776) : Ev (fun k => spec_spTop.f k l) (l.foldl max (-1)) :=
  spec_spTop_loop l [] (-1) _ 0 rfl (by simp) (by simpa using hl)

set_option maxRecDepth 100000 in
theorem spec_spEnds_small : ∀ k : Nat, k < 14 → ∀ r : Nat, k + r < 14 → spec_spEnds.f 16 (k : Int) (r : Int) = some ((gc r k : Nat) : Int) := by
  intro k hk r hr
  have key : ∀ k : Nat, k < 14 → ∀ r : Nat, r < 14 → k + r < 14 → spec_spEnds.f 16 (k : Int) (r : Int) = some ((gc r k : Nat) : Int) := by decide +kernel
  exact key k hk r (by omega) hr
theorem spec_spEnds_ev (k r : Nat) (h : k + r < 14) : Ev (fun n => spec_spEnds.f n (k : Int) (r : Int)) ((gc r k : Nat) : Int) :=
  Ev.of (g := fun n => spec_spEnds.f n (k : Int) (r : Int)) (spec_spEnds.mono _ _) (spec_spEnds_small k (by omega) r h)

theorem impl_within_eq (a b c : Int) : impl_within.f a b c = some (inB a b c) := inB_ite a b c

set_option maxRecDepth 100000 in
theorem impl_goings_small : ∀ k : Nat, k < 14 → ∀ r : Nat, k + r < 14 → impl_goings.f 400 (k : Int) (r : Int) = some ((gc r k : Nat) : Int) := by
  intro k hk r hr
  have key : ∀ k : Nat, k < 14 → ∀ r : Nat, r < 14 → k + r < 14 → impl_goings.f 400 (k : Int) (r : Int) = some ((gc r k : Nat) : Int) := by decide +kernel
  exact key k hk r (by omega) hr
theorem impl_goings_ev (k r : Nat) (h : k + r < 14) : Ev (fun n => impl_goings.f n (k : Int) (r : Int)) ((gc r k : Nat) : Int) :=
  Ev.of (g := fun n => impl_goings.f n (k : Int) (r : Int)) (impl_goings.mono _ _) (impl_goings_small k (by omega) r h)

set_option maxRecDepth 100000 in
theorem gc_small : ∀ k : Nat, k < 14 → ∀ r : Nat, k + r < 14 → gc r k ≤ 27644437 := by
  intro k hk r hr
  have key : ∀ k : Nat, k < 14 → ∀ r : Nat, r < 14 → k + r < 14 → gc r k ≤ 27644437 := by decide +kernel
  exact key k hk r (by omega) hr

theorem impl_GrowthWith_loop (n : Nat) (hn : n ≤ 12) (r : Nat) : ∀ (k rank : Nat) (out : List Int), out.length + r = n → k ≤ out.length → rank ≤ 1099511627776 →
    Ev (fun f => impl_GrowthWith.l0 f (n : Int) (rank : Int) out (k : Int) (n : Int) (out.length : Int)) (out ++ unr r k rank, true) := by
  induction r with
  | zero =>
    intro k rank out h1 h2 h3
    refine Ev.to (Ev.done fun f => ?_) (show (out, true) = _ by simp [unr])
    simp only [impl_GrowthWith.l0]
    rw [if_neg (by omega)]
  | succ r ih =>
    intro k rank out h1 h2 h3
    have hg := gc_pos r k
    have hgb := gc_small k (by omega) r (by omega)
    have hle := @step_le r k rank
    have hmk : min k (rank / gc r k) ≤ k := Nat.min_le_left _ _
    have hdiv : rank / gc r k ≤ rank := Nat.div_le_self _ _
    have hq0 := Int.natCast_nonneg (rank / gc r k)
    have e1 := i_last (n := n) (i := out.length) (r := r) h1 (by omega)
    have e2 := i_div (rank := rank) (g := gc r k) h3
    have e3 := i_mn k (rank / gc r k)
    have e4 := i_mul (min k (rank / gc r k)) (gc r k)
    have e5 := i_sub hle h3
    have e6 := i_max (k := k) (x := min k (rank / gc r k)) (by omega)
    have e7 := i_succ (out := out) (x := ((min k (rank / gc r k) : Nat) : Int)) (by omega)
    have := ih (max k (min k (rank / gc r k) + 1)) (rank - min k (rank / gc r k) * gc r k) (out ++ [((min k (rank / gc r k) : Nat) : Int)]) (by simp; omega) (by rw [List.length_append, List.length_singleton]; exact Nat.max_le.2 ⟨by omega, by omega⟩) (Nat.le_trans (Nat.sub_le _ _) h3)
    refine Ev.succ ?_
    simp only [impl_GrowthWith.l0]
    simp only [if_pos (show (out.length : Int) < (n : Int) by omega), e1]
    refine Ev.bind (impl_goings_ev k r (by omega)) ?_
    simp only [if_neg (show ¬ ((gc r k : Nat) : Int) = 0 by omega)]
    refine Ev.bind (impl_goings_ev k r (by omega)) ?_
    simp only [if_pos (show out.length < 17592186044416 by omega), e2, e3, e4, e5, e6, e7]
    refine Ev.to this ?_
    simp [unr]
/-- Ranks that there are. -/
def isRk (n rank : Int) : Bool := inB n 1 12 && inB rank 0 ((gc n.toNat 0 : Nat) - 1)
theorem impl_GrowthWith_ev (n rank : Int) : Ev (fun f => impl_GrowthWith.f f n rank) (if isRk n rank = true then (unr n.toNat 0 rank.toNat, true) else ([], false)) := by
  unfold isRk impl_GrowthWith.f
  by_cases hn : 1 ≤ n ∧ n ≤ 12
  · obtain ⟨m, rfl⟩ : ∃ m : Nat, n = (m : Int) := ⟨n.toNat, by omega⟩
    have hgb := gc_small 0 (by omega) m (by omega)
    have hg := gc_pos m 0
    simp only [impl_within_eq, inB_yes hn, obind, if_true, Bool.true_and, Int.toNat_natCast]
    refine Ev.bind (impl_goings_ev 0 m (by omega)) ?_
    simp only [w64 (show -9223372036854775808 ≤ ((gc m 0 : Nat) : Int) - 1 ∧ ((gc m 0 : Nat) : Int) - 1 ≤ 9223372036854775807 by omega)]
    refine Ev.succ ?_
    simp only [impl_GrowthWith.j0]
    by_cases hr : 0 ≤ rank ∧ rank ≤ ((gc m 0 : Nat) : Int) - 1
    · obtain ⟨q, rfl⟩ : ∃ q : Nat, rank = (q : Int) := ⟨rank.toNat, by omega⟩
      simp only [inB_yes hr, Bool.not_true, Bool.false_eq_true, if_false, if_true, Int.toNat_natCast]
      exact impl_GrowthWith_loop m (by omega) m 0 q [] (by simp) (by simp) (by omega)
    · simp only [inB_no hr, Bool.not_false, if_true, Bool.false_eq_true, if_false]
      exact Ev.now _
  · simp only [impl_within_eq, inB_no hn, obind, Bool.false_and, Bool.false_eq_true, if_false]
    refine Ev.succ ?_
    simp only [impl_GrowthWith.j0, if_true]
    exact Ev.now _

theorem spec_GrowthWith_loop (n : Nat) (hn : n ≤ 12) (r : Nat) : ∀ (k rank : Nat) (out : List Int), out.length + r = n → k ≤ out.length → out.foldl max (-1) = (k : Int) - 1 → rank ≤ 1099511627776 →
    Ev (fun f => spec_GrowthWith.l0 f (n : Int) (rank : Int) out (out.length : Int)) (out ++ unr r k rank, true) := by
  induction r with
  | zero =>
    intro k rank out h1 h2 ht h3
    refine Ev.to (Ev.done fun f => ?_) (show (out, true) = _ by simp [unr])
    simp only [spec_GrowthWith.l0]
    rw [if_neg (by omega)]
  | succ r ih =>
    intro k rank out h1 h2 ht h3
    have hg := gc_pos r k
    have hgb := gc_small k (by omega) r (by omega)
    have hle := @step_le r k rank
    have hmk : min k (rank / gc r k) ≤ k := Nat.min_le_left _ _
    have hdiv : rank / gc r k ≤ rank := Nat.div_le_self _ _
    have hq0 := Int.natCast_nonneg (rank / gc r k)
    have e0 : wrap64 ((k : Int) - 1 + 1) = (k : Int) := by rw [w64 (by omega)]; omega
    have e1 := i_last (n := n) (i := out.length) (r := r) h1 (by omega)
    have e2 := i_div (rank := rank) (g := gc r k) h3
    have e3 : min ((rank / gc r k : Nat) : Int) (k : Int) = ((min k (rank / gc r k) : Nat) : Int) := by rw [i_min, Nat.min_comm]
    have e4 := i_mul (min k (rank / gc r k)) (gc r k)
    have e5 := i_sub hle h3
    have e6 : max ((k : Int) - 1) ((min k (rank / gc r k) : Nat) : Int) = ((max k (min k (rank / gc r k) + 1) : Nat) : Int) - 1 := by
      generalize min k (rank / gc r k) = x
      omega
    have e7 := i_succ (out := out) (x := ((min k (rank / gc r k) : Nat) : Int)) (by omega)
    have := ih (max k (min k (rank / gc r k) + 1)) (rank - min k (rank / gc r k) * gc r k) (out ++ [((min k (rank / gc r k) : Nat) : Int)]) (by simp; omega) (by rw [List.length_append, List.length_singleton]; exact Nat.max_le.2 ⟨by omega, by omega⟩) (by rw [List.foldl_append, ht]; exact e6) (Nat.le_trans (Nat.sub_le _ _) h3)
    refine Ev.succ ?_
    simp only [spec_GrowthWith.l0]
    simp only [if_pos (show (out.length : Int) < (n : Int) by omega)]
    refine Ev.bind (spec_spTop_ev out (by omega)) ?_
    simp only [ht, e0, e1]
    refine Ev.bind (spec_spEnds_ev k r (by omega)) ?_
    simp only [if_neg (show ¬ ((gc r k : Nat) : Int) = 0 by omega), e2, spec_l1Least_eq, obind, e3, e4, e5, e7, if_pos (show out.length < 17592186044416 by omega)]
    refine Ev.to this ?_
    simp [unr]
theorem spec_GrowthWith_ev (n rank : Int) : Ev (fun f => spec_GrowthWith.f f n rank) (if isRk n rank = true then (unr n.toNat 0 rank.toNat, true) else ([], false)) := by
  unfold isRk spec_GrowthWith.f
  by_cases hn : 1 ≤ n ∧ n ≤ 12
  · obtain ⟨m, rfl⟩ : ∃ m : Nat, n = ((m + 1 : Nat) : Int) := ⟨n.toNat - 1, by omega⟩
    have hgb := gc_small 0 (by omega) (m + 1) (by omega)
    have hg := gc_pos (m + 1) 0
    have hz : gc (m + 1) 0 = gc m 1 := gc_zero m
    have e1 : wrap64 (((m + 1 : Nat) : Int) - 1) = (m : Int) := by rw [w64 (by omega)]; omega
    simp only [spec_l1In_eq, inB_yes hn, obind, if_true, Bool.true_and, Int.toNat_natCast, e1]
    refine Ev.bind (spec_spEnds_ev 1 m (by omega)) ?_
    rw [← hz]
    simp only [w64 (show -9223372036854775808 ≤ ((gc (m + 1) 0 : Nat) : Int) - 1 ∧ ((gc (m + 1) 0 : Nat) : Int) - 1 ≤ 9223372036854775807 by omega)]
    refine Ev.succ ?_
    simp only [spec_GrowthWith.j0]
    by_cases hr : 0 ≤ rank ∧ rank ≤ ((gc (m + 1) 0 : Nat) : Int) - 1
    · obtain ⟨q, rfl⟩ : ∃ q : Nat, rank = (q : Int) := ⟨rank.toNat, by omega⟩
      simp only [inB_yes hr, Bool.not_true, Bool.false_eq_true, if_false, if_true, Int.toNat_natCast]
      rw [unr_zero]
      exact spec_GrowthWith_loop (m + 1) (by omega) m 1 q [0] (by simp; omega) (by simp) (by decide) (by omega)
    · simp only [inB_no hr, Bool.not_false, if_true, Bool.false_eq_true, if_false]
      exact Ev.now _
  · simp only [spec_l1In_eq, inB_no hn, obind, Bool.false_and, Bool.false_eq_true, if_false]
    refine Ev.succ ?_
    simp only [spec_GrowthWith.j0, if_true]
    exact Ev.now _

theorem FnExactGrowthWith : laws_FnExactGrowthWith.Pure := by
  intro a0 a1 _ _
  unfold laws_FnExactGrowthWith.f
  have hs := spec_GrowthWith_ev a0 a1
  have hi := impl_GrowthWith_ev a0 a1
  have hl : (if isRk a0 a1 = true then (unr a0.toNat 0 a1.toNat, true) else ([], false) : List Int × Bool).1.length ≤ 12 := by
    split
    · rename_i h
      unfold isRk at h
      rw [Bool.and_eq_true, inB_true] at h
      rw [unr_len]; omega
    · simp
  generalize (if isRk a0 a1 = true then (unr a0.toNat 0 a1.toNat, true) else ([], false) : List Int × Bool) = R at hs hi hl
  obtain ⟨o, b⟩ := R
  simp only at hl
  have he := laws_eqIntS_ev o o (by omega)
  have hm := laws_markIntS_ev o (by omega)
  have hh := laws_heldIntS_ev o.length (by omega)
  refine (Ev.bind hs (Ev.bind hi (Ev.bind he ?_))).rounds
  simp only [decide_true, if_true, bne_self_eq_false]
  refine Ev.succ ?_
  simp only [laws_FnExactGrowthWith.j0, Bool.false_eq_true, if_false]
  refine Ev.bind hm (Ev.bind hh ?_)
  simp only [if_neg (show ¬ (1 + (o.length : Int)) < 0 by omega), if_true]
  refine Ev.bind hi (Ev.bind he ?_)
  simp only [decide_true, if_true, bne_self_eq_false]
  refine Ev.succ ?_
  simp only [laws_FnExactGrowthWith.j1, Bool.false_eq_true, if_false]
  refine Ev.bind hh ?_
  simp only [if_neg (show ¬ (1 + (o.length : Int)) < 0 by omega), if_true]
  exact Ev.now _

end Go.Proofs.Ytaaoeaojimjikaa.Pure
