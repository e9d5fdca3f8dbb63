/- The program's PartedWith returns what the reference's returns, for every pair of whole numbers. -/
import Derived.Test.YtlondmhiccikpaaHFnExactPartedWithx3
import Derived.Test.YtlondmhiccikpaaCoreA
import Derived.Test.YtlondmhiccikpaaCoreP
import Derived.Test.YtlondmhiccikpaaCorePR
namespace Go.Proofs.Ytlondmhiccikpaa.Pure
open Go.RowKit Go.Proofs.Ytlondmhiccikpaa.HFnExactPartedWith Go.Proofs.YtlondmhiccikpaaW.PrintWords Go.Proofs.YtlondmhiccikpaaW.PrintLast Go.Proofs.YtlondmhiccikpaaW.PrintMore Go.Proofs.Ytlondmhiccikpaa.Core
set_option linter.unusedVariables false
set_option linter.unusedSimpArgs false

theorem laws_eqIntS_loop (s : List Int) : ∀ (p q t : List Int) (i : Int), t.length = s.length → q.length = p.length → i = (p.length : Int) → (p ++ s).length ≤ 1099511627776 →
    Ev (fun k => laws_eqIntS.l0 k (p ++ s) (q ++ t) i) (decide (s = t)) := by
  induction s with
  | nil =>
    intro p q t i ht hq hi hl
    have ht0 : t = [] := List.eq_nil_of_length_eq_zero ht
    subst ht0
    refine Ev.done fun k => ?_
    simp only [laws_eqIntS.l0]
    rw [if_neg (by rw [len_nil]; omega)]
    simp
  | cons x s ih =>
    intro p q t i ht hq hi hl
    cases t with
    | nil => simp at ht
    | cons y t =>
      have ht' : t.length = s.length := by simpa using ht
      have h1 := len_mid p s x
      have h2 := len_mid q t y
      by_cases hxy : x = y
      · have := ih (p ++ [x]) (q ++ [y]) t (i + 1) ht' (by simp [hq]) (by rw [len_snoc]; omega) (by rw [← snoc_mid]; exact hl)
        rw [← snoc_mid, ← snoc_mid] at this
        refine Ev.to (Ev.step' this fun k => ?_) (by simp [hxy])
        simp only [laws_eqIntS.l0]
        rw [if_pos (by omega), if_pos (by omega), if_pos (by omega), rd_mid hi, rd_mid (by omega), if_pos hxy, w64 (by omega)]
      · refine Ev.to (Ev.done fun k => ?_) (show false = _ by simp [hxy])
        simp only [laws_eqIntS.l0]
        rw [if_pos (by omega), if_pos (by omega), if_pos (by omega), rd_mid hi, rd_mid (by omega), if_neg hxy]
theorem laws_eqIntS_ev (l t : List Int) (hl : l.length ≤ 1099511627776) : Ev (fun k => laws_eqIntS.f k l t) (decide (l = t)) := by
  by_cases h : l.length = t.length
  · have := laws_eqIntS_loop l [] [] t 0 h.symm rfl (by simp) (by simpa using hl)
    simp only [List.nil_append] at this
    refine Ev.congr (fun k => ?_) this
    unfold laws_eqIntS.f
    rw [if_pos (by omega)]
  · refine Ev.to (Ev.congr (fun k => ?_) (Ev.now false)) (by rw [decide_eq_false]; exact fun e => h (by rw [e]))
    unfold laws_eqIntS.f
    rw [if_neg (by omega)]

theorem laws_markIntS_loop (s : List Int) : ∀ (p : List Int) (m i : Int), 0 ≤ m → m + s.length ≤ 1099511627776 → i = (p.length : Int) → (p ++ s).length ≤ 1099511627776 →
    Ev (fun k => laws_markIntS.l0 k (p ++ s) m i) (m + s.length, p ++ upFrom m s.length) := by
  induction s with
  | nil =>
    intro p m i hm hm' hi hl
    refine Ev.to (Ev.done fun k => ?_) (show (m, p ++ []) = _ by simp [upFrom])
    simp only [laws_markIntS.l0]
    rw [if_neg (by rw [len_nil]; omega)]
  | cons x s ih =>
    intro p m i hm hm' hi hl
    have h1 := len_mid p s x
    have h2 : (((x :: s).length : Nat) : Int) = s.length + 1 := by simp
    have h3 : (p ++ m :: s).length = (p ++ x :: s).length := by simp
    have := ih (p ++ [m]) (m + 1) (i + 1) (by omega) (by omega) (by rw [len_snoc]; omega) (by rw [← snoc_mid, h3]; exact hl)
    rw [← snoc_mid] at this
    refine Ev.to (Ev.step' this fun k => ?_) (by rw [h2, ← snoc_mid]; simp only [List.length_cons, upFrom]; congr 1; omega)
    simp only [laws_markIntS.l0]
    rw [if_pos (by omega), if_pos (by omega), set_mid hi, w64 (by omega), w64 (by omega)]
theorem laws_markIntS_ev (l : List Int) (hl : l.length ≤ 109951162777) : Ev (fun k => laws_markIntS.f k l 1) (1 + l.length, upFrom 1 l.length) :=
  laws_markIntS_loop l [] 1 0 (by omega) (by omega) (by simp) (by simp; omega)

theorem laws_heldIntS_loop (n : Nat) : ∀ (p : List Int) (m i : Int), 0 ≤ m → m + n ≤ 1099511627776 → i = (p.length : Int) → p.length + n ≤ 1099511627776 →
    Ev (fun k => laws_heldIntS.l0 k (p ++ upFrom m n) m i) (m + n) := by
  induction n with
  | zero =>
    intro p m i hm hm' hi hl
    show Ev (fun k => laws_heldIntS.l0 k (p ++ []) m i) _
    refine Ev.to (Ev.done fun k => ?_) (show m = _ by simp)
    simp only [laws_heldIntS.l0]
    rw [if_neg (by rw [len_nil]; omega)]
  | succ n ih =>
    intro p m i hm hm' hi hl
    have h1 := len_mid p (upFrom (m + 1) n) m
    have := ih (p ++ [m]) (m + 1) (i + 1) (by omega) (by omega) (by rw [len_snoc]; omega) (by rw [List.length_append]; simp; omega)
    rw [← snoc_mid] at this
    show Ev (fun k => laws_heldIntS.l0 k (p ++ m :: upFrom (m + 1) n) m i) _
    refine Ev.to (Ev.step' this fun k => ?_) (by omega)
    simp only [laws_heldIntS.l0]
    rw [if_pos (by omega), if_pos (by omega), rd_mid hi, if_pos rfl, w64 (by omega), w64 (by omega)]
theorem laws_heldIntS_ev (n : Nat) (hn : n ≤ 109951162777) : Ev (fun k => laws_heldIntS.f k (upFrom 1 n) 1) (1 + n) :=
  laws_heldIntS_loop n [] 1 0 (by omega) (by omega) (by simp) (by simp; omega)

theorem spec_l1In_eq (a b c : Int) : spec_l1In.f a b c = some (inB a b c) := inB_ite a b c

theorem spec_l1Least_eq (a b : Int) : spec_l1Least.f a b = some (min a b) := least_min a b

set_option maxRecDepth 100000 in
theorem spec_spCount_small : ∀ n : Nat, n < 21 → ∀ m : Nat, m < 21 → spec_spCount.f 600 (n : Int) (m : Int) = some ((pc n m : Nat) : Int) := by
  decide +kernel
theorem spec_spCount_ev (n m : Nat) (hn : n ≤ 20) (hm : m ≤ 20) : Ev (fun k => spec_spCount.f k (n : Int) (m : Int)) ((pc n m : Nat) : Int) :=
  Ev.of (g := fun k => spec_spCount.f k (n : Int) (m : Int)) (spec_spCount.mono _ _) (spec_spCount_small n (by omega) m (by omega))

theorem spec_spPartedWith_l0 (n : Nat) (hn : n ≤ 20) (h1 : 1 ≤ n) (x : Nat) : ∀ (rank : Nat) (T : List Int), x ≤ n → rank < pc n x → T.length ≤ 1000 →
    Ev (fun k => spec_spPartedWith.f k ((n - (findX n x rank).1 : Nat) : Int) ((findX n x rank).1 : Int) ((findX n x rank).2 : Int)) T →
    Ev (fun k => spec_spPartedWith.l0 k (n : Int) (rank : Int) (x : Int)) (((findX n x rank).1 : Int) :: T) := by
  induction x with
  | zero => intro rank T hx h; rw [pc_none n (by omega) h1] at h; omega
  | succ x ih =>
    intro rank T hx h hT hR
    have hs := pc_small (n := n) (x := x + 1) hn (by omega)
    rw [pc_step hn hx] at h hs
    have e1 : wrap64 ((n : Int) - ((x + 1 : Nat) : Int)) = ((n - (x + 1) : Nat) : Int) := by rw [w64 (by omega)]; omega
    have e2 : wrap64 (((x + 1 : Nat) : Int) - 1) = (x : Int) := by rw [w64 (by omega)]; omega
    unfold findX at hR ⊢
    refine Ev.succ ?_
    simp only [spec_spPartedWith.l0]
    simp only [e1, e2]
    refine Ev.bind (spec_spCount_ev (n - (x + 1)) (x + 1) (by omega) (by omega)) ?_
    by_cases c : rank < pc (n - (x + 1)) (x + 1)
    · rw [if_pos c] at hR ⊢
      simp only [if_neg (show ¬ (rank : Int) ≥ ((pc (n - (x + 1)) (x + 1) : Nat) : Int) by omega), obind]
      refine Ev.bind hR ?_
      simp only [List.length_singleton, if_pos (show 1 + T.length < 17592186044416 by omega)]
      exact Ev.some_ rfl
    · rw [if_neg c] at hR ⊢
      have e3 : wrap64 ((rank : Int) - ((pc (n - (x + 1)) (x + 1) : Nat) : Int)) = ((rank - pc (n - (x + 1)) (x + 1) : Nat) : Int) := by rw [w64 (by omega)]; omega
      simp only [if_pos (show (rank : Int) ≥ ((pc (n - (x + 1)) (x + 1) : Nat) : Int) by omega)]
      refine Ev.bind (spec_spCount_ev (n - (x + 1)) (x + 1) (by omega) (by omega)) ?_
      simp only [e3]
      exact ih _ T (by omega) (by omega) hT hR
theorem spec_spPartedWith_ev (f : Nat) : ∀ (n most rank : Nat), n ≤ f → f ≤ 1000 → n ≤ 20 → most ≤ 20 → rank < pc n most →
    Ev (fun k => spec_spPartedWith.f k (n : Int) (most : Int) (rank : Int)) (unPF f n most rank) := by
  induction f with
  | zero =>
    intro n most rank hf hF hn hm h
    obtain rfl : n = 0 := by omega
    refine Ev.succ ?_
    simp only [spec_spPartedWith.f]
    simp only [Int.natCast_zero, if_true]
    exact Ev.some_ (by simp [unPF])
  | succ f ih =>
    intro n most rank hf hF hn hm h
    refine Ev.succ ?_
    simp only [spec_spPartedWith.f]
    by_cases hn0 : n = 0
    · subst hn0
      simp only [Int.natCast_zero, if_true]
      exact Ev.some_ (by simp [unPF])
    · have e : min (n : Int) (most : Int) = ((min most n : Nat) : Int) := by rw [i_min, Nat.min_comm]
      rw [pc_min hn hm] at h
      obtain ⟨g1, g2, g3⟩ := findX_fits hn (by omega) (min most n) rank (Nat.min_le_right _ _) h
      have g4 : min most n ≤ n := Nat.min_le_right _ _
      simp only [if_neg (show ¬ (n : Int) = 0 by omega), spec_l1Least_eq, obind, e]
      rw [unPF, if_neg hn0]
      exact spec_spPartedWith_l0 n hn (by omega) (min most n) rank _ g4 h (Nat.le_trans (unPF_len _ _ _ _) (by omega)) (ih _ _ _ (by omega) (by omega) (by omega) (by omega) g3)
theorem spec_PartedWith_ev (n rank : Int) : Ev (fun k => spec_PartedWith.f k n rank) (if isPk n rank = true then (unP n.toNat n.toNat rank.toNat, true) else ([], false)) := by
  unfold isPk spec_PartedWith.f spec_spTotal.f
  by_cases hn : 0 ≤ n ∧ n ≤ 20
  · obtain ⟨m, rfl⟩ : ∃ m : Nat, n = (m : Int) := ⟨n.toNat, by omega⟩
    have hs := pc_small (n := m) (x := m) (by omega) (by omega)
    simp only [spec_l1In_eq, inB_yes hn, obind, if_true, Bool.true_and, Int.toNat_natCast]
    refine Ev.bind (spec_spCount_ev m m (by omega) (by omega)) ?_
    simp only [w64 (show -9223372036854775808 ≤ ((pc m m : Nat) : Int) - 1 ∧ ((pc m m : Nat) : Int) - 1 ≤ 9223372036854775807 by omega)]
    by_cases hr : 0 ≤ rank ∧ rank ≤ ((pc m m : Nat) : Int) - 1
    · obtain ⟨q, rfl⟩ : ∃ q : Nat, rank = (q : Int) := ⟨rank.toNat, by omega⟩
      simp only [inB_yes hr, if_true, Int.toNat_natCast]
      refine Ev.bind (spec_spPartedWith_ev m m m q (Nat.le_refl _) (by omega) (by omega) (by omega) (by omega)) ?_
      exact Ev.now _
    · simp only [inB_no hr, Bool.false_eq_true, if_false]
      exact Ev.now _
  · simp only [spec_l1In_eq, inB_no hn, obind, Bool.false_and, Bool.false_eq_true, if_false]
    exact Ev.now _

theorem impl_within_eq (a b c : Int) : impl_within.f a b c = some (inB a b c) := inB_ite a b c

set_option maxRecDepth 100000 in
theorem impl_countParted_small : ∀ n : Nat, n < 21 → ∀ m : Nat, m < 21 → impl_countParted.f 600 (n : Int) (m : Int) = some ((pc n m : Nat) : Int) := by
  decide +kernel
theorem impl_countParted_ev (n m : Nat) (hn : n ≤ 20) (hm : m ≤ 20) : Ev (fun k => impl_countParted.f k (n : Int) (m : Int)) ((pc n m : Nat) : Int) :=
  Ev.of (g := fun k => impl_countParted.f k (n : Int) (m : Int)) (impl_countParted.mono _ _) (impl_countParted_small n (by omega) m (by omega))

theorem impl_partedWith_l1 (n : Nat) (hn : n ≤ 20) (h1 : 1 ≤ n) (out : List Int) (ho : out.length ≤ 1000) (x : Nat) : ∀ (rank : Nat) (R : List Int), x ≤ n → rank < pc n x →
    Ev (fun k => impl_partedWith.l0 k ((n - (findX n x rank).1 : Nat) : Int) ((findX n x rank).2 : Int) (out ++ [((findX n x rank).1 : Int)]) ((findX n x rank).1 : Int)) R →
    Ev (fun k => impl_partedWith.l1 k (n : Int) (rank : Int) out (x : Int)) R := by
  induction x with
  | zero => intro rank R hx h; rw [pc_none n (by omega) h1] at h; omega
  | succ x ih =>
    intro rank R hx h hR
    have hs := pc_small (n := n) (x := x + 1) hn (by omega)
    rw [pc_step hn hx] at h hs
    have e1 : wrap64 ((n : Int) - ((x + 1 : Nat) : Int)) = ((n - (x + 1) : Nat) : Int) := by rw [w64 (by omega)]; omega
    have e2 : wrap64 (((x + 1 : Nat) : Int) - 1) = (x : Int) := by rw [w64 (by omega)]; omega
    unfold findX at hR
    refine Ev.succ ?_
    simp only [impl_partedWith.l1]
    simp only [e1, e2]
    refine Ev.bind (impl_countParted_ev (n - (x + 1)) (x + 1) (by omega) (by omega)) ?_
    by_cases c : rank < pc (n - (x + 1)) (x + 1)
    · rw [if_pos c] at hR
      simp only [if_pos (show (rank : Int) < ((pc (n - (x + 1)) (x + 1) : Nat) : Int) by omega), if_pos (show out.length < 17592186044416 by omega)]
      exact hR
    · rw [if_neg c] at hR
      have e3 : wrap64 ((rank : Int) - ((pc (n - (x + 1)) (x + 1) : Nat) : Int)) = ((rank - pc (n - (x + 1)) (x + 1) : Nat) : Int) := by rw [w64 (by omega)]; omega
      simp only [if_neg (show ¬ (rank : Int) < ((pc (n - (x + 1)) (x + 1) : Nat) : Int) by omega), e3]
      exact ih _ R (by omega) (by omega) hR
theorem impl_partedWith_l0 (f : Nat) : ∀ (n most rank : Nat) (out : List Int), n ≤ f → n ≤ 20 → most ≤ 20 → out.length + n ≤ 1000 → rank < pc n most →
    Ev (fun k => impl_partedWith.l0 k (n : Int) (rank : Int) out (most : Int)) (out ++ unPF f n most rank) := by
  induction f with
  | zero =>
    intro n most rank out hf hn hm ho h
    obtain rfl : n = 0 := by omega
    refine Ev.succ ?_
    simp only [impl_partedWith.l0]
    simp only [Int.natCast_zero, if_neg (show ¬ (0 : Int) > 0 by decide)]
    exact Ev.some_ (by simp [unPF])
  | succ f ih =>
    intro n most rank out hf hn hm ho h
    refine Ev.succ ?_
    simp only [impl_partedWith.l0]
    by_cases hn0 : n = 0
    · subst hn0
      simp only [Int.natCast_zero, if_neg (show ¬ (0 : Int) > 0 by decide)]
      exact Ev.some_ (by simp [unPF])
    · have e : mn (most : Int) (n : Int) = ((min most n : Nat) : Int) := i_mn _ _
      rw [pc_min hn hm] at h
      obtain ⟨g1, g2, g3⟩ := findX_fits hn (by omega) (min most n) rank (Nat.min_le_right _ _) h
      have g4 : min most n ≤ n := Nat.min_le_right _ _
      simp only [if_pos (show (n : Int) > 0 by omega), e]
      refine impl_partedWith_l1 n hn (by omega) out (by omega) (min most n) rank _ g4 h ?_
      refine Ev.to (ih _ _ _ (out ++ [((findX n (min most n) rank).1 : Int)]) (by omega) (by omega) (by omega) (by simp; omega) g3) ?_
      rw [unPF, if_neg hn0]
      simp
theorem impl_PartedWith_ev (n rank : Int) : Ev (fun k => impl_PartedWith.f k n rank) (if isPk n rank = true then (unP n.toNat n.toNat rank.toNat, true) else ([], false)) := by
  unfold isPk impl_PartedWith.f
  by_cases hn : 0 ≤ n ∧ n ≤ 20
  · obtain ⟨m, rfl⟩ : ∃ m : Nat, n = (m : Int) := ⟨n.toNat, by omega⟩
    have hs := pc_small (n := m) (x := m) (by omega) (by omega)
    simp only [impl_within_eq, inB_yes hn, obind, if_true, Bool.true_and, Int.toNat_natCast]
    refine Ev.bind (impl_countParted_ev m m (by omega) (by omega)) ?_
    simp only [w64 (show -9223372036854775808 ≤ ((pc m m : Nat) : Int) - 1 ∧ ((pc m m : Nat) : Int) - 1 ≤ 9223372036854775807 by omega)]
    by_cases hr : 0 ≤ rank ∧ rank ≤ ((pc m m : Nat) : Int) - 1
    · obtain ⟨q, rfl⟩ : ∃ q : Nat, rank = (q : Int) := ⟨rank.toNat, by omega⟩
      simp only [inB_yes hr, if_true, Int.toNat_natCast]
      refine Ev.bind (a := unP m m q) ?_ (Ev.now _)
      unfold impl_partedWith.f
      exact impl_partedWith_l0 m m m q [] (Nat.le_refl _) (by omega) (by omega) (by simp; omega) (by omega)
    · simp only [inB_no hr, Bool.false_eq_true, if_false]
      exact Ev.now _
  · simp only [impl_within_eq, inB_no hn, obind, Bool.false_and, Bool.false_eq_true, if_false]
    exact Ev.now _

theorem FnExactPartedWith : laws_FnExactPartedWith.Pure := by
  intro a0 a1 _ _
  unfold laws_FnExactPartedWith.f
  have hs := spec_PartedWith_ev a0 a1
  have hi := impl_PartedWith_ev a0 a1
  have hl : (if isPk a0 a1 = true then (unP a0.toNat a0.toNat a1.toNat, true) else ([], false) : List Int × Bool).1.length ≤ 1048576 := by
    split
    · rename_i h
      exact Nat.le_trans (unP_len _ _ _) (by have := isPk_true h; omega)
    · simp
  generalize (if isPk a0 a1 = true then (unP a0.toNat a0.toNat a1.toNat, true) else ([], false) : List Int × Bool) = R at hs hi hl
  obtain ⟨o, b⟩ := R
  simp only at hl
  have he := laws_eqIntS_ev o o (by omega)
  have hm := laws_markIntS_ev o (by omega)
  have hh := laws_heldIntS_ev o.length (by omega)
  refine (Ev.bind hs (Ev.bind hi (Ev.bind he ?_))).rounds
  simp only [decide_true, if_true, bne_self_eq_false]
  refine Ev.succ ?_
  simp only [laws_FnExactPartedWith.j0, Bool.false_eq_true, if_false]
  refine Ev.bind hm (Ev.bind hh ?_)
  simp only [if_neg (show ¬ (1 + (o.length : Int)) < 0 by omega), if_true]
  refine Ev.bind hi (Ev.bind he ?_)
  simp only [decide_true, if_true, bne_self_eq_false]
  refine Ev.succ ?_
  simp only [laws_FnExactPartedWith.j1, Bool.false_eq_true, if_false]
  refine Ev.bind hh ?_
  simp only [if_neg (show ¬ (1 + (o.length : Int)) < 0 by omega), if_true]
  exact Ev.now _

end Go.Proofs.Ytlondmhiccikpaa.Pure
