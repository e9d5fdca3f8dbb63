/- The program's PartedOf returns what the reference's returns, for every whole number: the walk of the law. -/
import Derived.Test.YthaplgbhhppniaaHandFnExactPartedOf
import Derived.Test.YthaplgbhhppniaaCoreA
import Derived.Test.YthaplgbhhppniaaCoreP
import Derived.Test.YthaplgbhhppniaaCorePR
import Derived.Test.YthaplgbhhppniaaCoreP2
import Derived.Test.YthaplgbhhppniaaCoreP3
namespace Go.Proofs.Ythaplgbhhppniaa.Pure
open Go.RowKit Go.Proofs.Ythaplgbhhppniaa.HFnExactPartedOf Go.Proofs.YthaplgbhhppniaaW.PrintWords Go.Proofs.YthaplgbhhppniaaW.PrintLast Go.Proofs.YthaplgbhhppniaaW.PrintMore Go.Proofs.Ythaplgbhhppniaa.Core
open Go.RowKit Go.Proofs.YthaplgbhhppniaaW.PrintWords Go.Proofs.YthaplgbhhppniaaW.PrintLast Go.Proofs.YthaplgbhhppniaaW.PrintMore
set_option linter.unusedVariables false
set_option linter.unusedSimpArgs false

theorem laws_eqIntS_loop (s : List Int) : ∀ (p q t : List Int) (i : Int), t.length = s.length → q.length = p.length → i = (p.length : Int) → (p ++ s).length ≤ 1099511627776 →
    Ev (fun k => laws_eqIntS.l0 k (p ++ s) (q ++ t) i) (decide (s = t)) := by
  induction s with
  | nil =>
    intro p q t i ht hq hi hl
    have ht0 : t = [] := List.eq_nil_of_length_eq_zero ht
    subst ht0
    refine Ev.done fun k => ?_
    simp only [laws_eqIntS.l0]
    rw [if_neg (by rw [len_nil]; omega)]
    simp
  | cons x s ih =>
    intro p q t i ht hq hi hl
    cases t with
    | nil => simp at ht
    | cons y t =>
      have ht' : t.length = s.length := by simpa using ht
      have h1 := len_mid p s x
      have h2 := len_mid q t y
      by_cases hxy : x = y
      · have := ih (p ++ [x]) (q ++ [y]) t (i + 1) ht' (by simp [hq]) (by rw [len_snoc]; omega) (by rw [← snoc_mid]; exact hl)
        rw [← snoc_mid, ← snoc_mid] at this
        refine Ev.to (Ev.step' this fun k => ?_) (by simp [hxy])
        simp only [laws_eqIntS.l0]
        rw [if_pos (by omega), if_pos (by omega), if_pos (by omega), rd_mid hi, rd_mid (by omega), if_pos hxy, w64 (by omega)]
      · refine Ev.to (Ev.done fun k => ?_) (show false = _ by simp [hxy])
        simp only [laws_eqIntS.l0]
        rw [if_pos (by omega), if_pos (by omega), if_pos (by omega), rd_mid hi, rd_mid (by omega), if_neg hxy]
theorem laws_eqIntS_ev (l t : List Int) (hl : l.length ≤ 1099511627776) : Ev (fun k => laws_eqIntS.f k l t) (decide (l = t)) := by
  by_cases h : l.length = t.length
  · have := laws_eqIntS_loop l [] [] t 0 h.symm rfl (by simp) (by simpa using hl)
    simp only [List.nil_append] at this
    refine Ev.congr (fun k => ?_) this
    unfold laws_eqIntS.f
    rw [if_pos (by omega)]
  · refine Ev.to (Ev.congr (fun k => ?_) (Ev.now false)) (by rw [decide_eq_false]; exact fun e => h (by rw [e]))
    unfold laws_eqIntS.f
    rw [if_neg (by omega)]

theorem laws_markIntS_loop (s : List Int) : ∀ (p : List Int) (m i : Int), 0 ≤ m → m + s.length ≤ 1099511627776 → i = (p.length : Int) → (p ++ s).length ≤ 1099511627776 →
    Ev (fun k => laws_markIntS.l0 k (p ++ s) m i) (m + s.length, p ++ upFrom m s.length) := by
  induction s with
  | nil =>
    intro p m i hm hm' hi hl
    refine Ev.to (Ev.done fun k => ?_) (show (m, p ++ []) = _ by simp [upFrom])
    simp only [laws_markIntS.l0]
    rw [if_neg (by rw [len_nil]; omega)]
  | cons x s ih =>
    intro p m i hm hm' hi hl
    have h1 := len_mid p s x
    have h2 : (((x :: s).length : Nat) : Int) = s.length + 1 := by simp
    have h3 : (p ++ m :: s).length = (p ++ x :: s).length := by simp
    have := ih (p ++ [m]) (m + 1) (i + 1) (by omega) (by omega) (by rw [len_snoc]; omega) (by rw [← snoc_mid, h3]; exact hl)
    rw [← snoc_mid] at this
    refine Ev.to (Ev.step' this fun k => ?_) (by rw [h2, ← snoc_mid]; simp only [List.length_cons, upFrom]; congr 1; omega)
    simp only [laws_markIntS.l0]
    rw [if_pos (by omega), if_pos (by omega), set_mid hi, w64 (by omega), w64 (by omega)]
theorem laws_markIntS_ev (l : List Int) (hl : l.length ≤ 109951162777) : Ev (fun k => laws_markIntS.f k l 1) (1 + l.length, upFrom 1 l.length) :=
  laws_markIntS_loop l [] 1 0 (by omega) (by omega) (by simp) (by simp; omega)

theorem laws_heldIntS_loop (n : Nat) : ∀ (p : List Int) (m i : Int), 0 ≤ m → m + n ≤ 1099511627776 → i = (p.length : Int) → p.length + n ≤ 1099511627776 →
    Ev (fun k => laws_heldIntS.l0 k (p ++ upFrom m n) m i) (m + n) := by
  induction n with
  | zero =>
    intro p m i hm hm' hi hl
    show Ev (fun k => laws_heldIntS.l0 k (p ++ []) m i) _
    refine Ev.to (Ev.done fun k => ?_) (show m = _ by simp)
    simp only [laws_heldIntS.l0]
    rw [if_neg (by rw [len_nil]; omega)]
  | succ n ih =>
    intro p m i hm hm' hi hl
    have h1 := len_mid p (upFrom (m + 1) n) m
    have := ih (p ++ [m]) (m + 1) (i + 1) (by omega) (by omega) (by rw [len_snoc]; omega) (by rw [List.length_append]; simp; omega)
    rw [← snoc_mid] at this
    show Ev (fun k => laws_heldIntS.l0 k (p ++ m :: upFrom (m + 1) n) m i) _
    refine Ev.to (Ev.step' this fun k => ?_) (by omega)
    simp only [laws_heldIntS.l0]
    rw [if_pos (by omega), if_pos (by omega), rd_mid hi, if_pos rfl, w64 (by omega), w64 (by omega)]
theorem laws_heldIntS_ev (n : Nat) (hn : n ≤ 109951162777) : Ev (fun k => laws_heldIntS.f k (upFrom 1 n) 1) (1 + n) :=
  laws_heldIntS_loop n [] 1 0 (by omega) (by omega) (by simp) (by simp; omega)

theorem laws_eqIntSS_loop (s : List (List Int)) : ∀ (p : List (List Int)) (i : Int), i = (p.length : Int) → (p ++ s).length ≤ 1073741824 → (∀ x ∈ s, x.length ≤ 1073741824) →
    Ev (fun k => laws_eqIntSS.l0 k (p ++ s) (p ++ s) i) true := by
  induction s with
  | nil =>
    intro p i hi hl hs
    refine Ev.done fun k => ?_
    simp only [laws_eqIntSS.l0]
    rw [if_neg (by rw [List.append_nil]; omega)]
  | cons x s ih =>
    intro p i hi hl hs
    have h1 : (((p ++ x :: s).length : Nat) : Int) = p.length + s.length + 1 := by simp; omega
    have er : rd_L1 (p ++ x :: s) i = x := by subst hi; simp [rd_L1]
    have e2 : p ++ x :: s = (p ++ [x]) ++ s := by simp
    have := ih (p ++ [x]) (i + 1) (by simp; omega) (by rw [← e2]; exact hl) (fun y hy => hs y (List.mem_cons_of_mem _ hy))
    rw [← e2] at this
    refine Ev.succ ?_
    simp only [laws_eqIntSS.l0]
    simp only [if_pos (show 0 ≤ i by omega), if_pos (show i < (((p ++ x :: s).length : Nat) : Int) by omega), er, show wrap64 (i + 1) = i + 1 from w64 (by omega)]
    refine Ev.bind (laws_eqIntS_ev x x (by have := hs x (List.mem_cons_self ..); omega)) ?_
    simp only [decide_true, if_true]
    exact this
theorem laws_eqIntSS_self (l : List (List Int)) (hl : l.length ≤ 1073741824) (hs : ∀ x ∈ l, x.length ≤ 1073741824) : Ev (fun k => laws_eqIntSS.f k l l) true := by
  unfold laws_eqIntSS.f
  simp only [if_true]
  exact laws_eqIntSS_loop l [] 0 (by simp) (by simpa using hl) hs

/-- How many numbers stand in the rows. -/
def sumLen : List (List Int) → Nat
  | [] => 0
  | x :: s => x.length + sumLen s
/-- The rows with the numbers m, m + 1, .. written over them. -/
def upRows (m : Nat) : List (List Int) → List (List Int)
  | [] => []
  | x :: s => upFrom (m : Int) x.length :: upRows (m + x.length) s
theorem upRows_len (L : List (List Int)) : ∀ m, (upRows m L).length = L.length := by
  induction L with
  | nil => intro m; rfl
  | cons x s ih => intro m; simp [upRows, ih]
theorem laws_markIntSS_loop (s : List (List Int)) : ∀ (p : List (List Int)) (m : Nat) (i : Int), i = (p.length : Int) → (p ++ s).length ≤ 1073741824 → m + sumLen s ≤ 1073741824 →
    Ev (fun k => laws_markIntSS.l0 k (p ++ s) (m : Int) i) (((m + sumLen s : Nat) : Int), p ++ upRows m s) := by
  induction s with
  | nil =>
    intro p m i hi hl hs
    refine Ev.to (Ev.done fun k => ?_) (show ((m : Int), p ++ []) = _ by simp [upRows, sumLen])
    simp only [laws_markIntSS.l0]
    rw [if_neg (by rw [List.append_nil]; omega)]
  | cons x s ih =>
    intro p m i hi hl hs
    have h1 : (((p ++ x :: s).length : Nat) : Int) = p.length + s.length + 1 := by simp; omega
    have er : rd_L1 (p ++ x :: s) i = x := by subst hi; simp [rd_L1]
    have e2 : ∀ y : List Int, p ++ y :: s = (p ++ [y]) ++ s := fun y => by simp
    have es : sumLen (x :: s) = x.length + sumLen s := rfl
    have hlen : ((p ++ [upFrom (m : Int) x.length]) ++ s).length ≤ 1073741824 := by simp at hl ⊢; omega
    have := ih (p ++ [upFrom (m : Int) x.length]) (m + x.length) (i + 1) (by simp; omega) hlen (by omega)
    rw [← e2] at this
    refine Ev.succ ?_
    simp only [laws_markIntSS.l0]
    simp only [if_pos (show 0 ≤ i by omega), if_pos (show i < (((p ++ x :: s).length : Nat) : Int) by omega), er, show wrap64 (i + 1) = i + 1 from w64 (by omega)]
    have hM : Ev (fun k => laws_markIntS.f k x (m : Int)) (((m + x.length : Nat) : Int), upFrom (m : Int) x.length) := by
      have := laws_markIntS_loop x [] (m : Int) 0 (by omega) (by omega) (by simp) (by simp; omega)
      refine Ev.to this ?_
      simp
    refine Ev.bind hM ?_
    simp only [set_mid hi]
    refine Ev.to this ?_
    simp only [es, upRows]
    congr 1
    · omega
    · simp
theorem laws_markIntSS_ev (l : List (List Int)) (hl : l.length ≤ 1073741824) (hs : 1 + sumLen l ≤ 1073741824) : Ev (fun k => laws_markIntSS.f k l 1) (((1 + sumLen l : Nat) : Int), upRows 1 l) :=
  laws_markIntSS_loop l [] 1 0 (by simp) (by simpa using hl) hs
theorem laws_heldIntSS_loop (s : List (List Int)) : ∀ (p : List (List Int)) (m : Nat) (i : Int), i = (p.length : Int) → p.length + s.length ≤ 1073741824 → m + sumLen s ≤ 1073741824 →
    Ev (fun k => laws_heldIntSS.l0 k (p ++ upRows m s) (m : Int) i) ((m + sumLen s : Nat) : Int) := by
  induction s with
  | nil =>
    intro p m i hi hl hs
    refine Ev.to (Ev.done fun k => ?_) (show (m : Int) = _ by simp [sumLen])
    have e : ¬ i < (((p ++ upRows m []).length : Nat) : Int) := by simp [upRows]; omega
    simp only [laws_heldIntSS.l0]
    simp only [if_neg e]
  | cons x s ih =>
    intro p m i hi hl hs
    have hl' : p.length + s.length + 1 ≤ 1073741824 := by simp at hl; omega
    have h1 : (((p ++ upRows m (x :: s)).length : Nat) : Int) = p.length + s.length + 1 := by simp [upRows_len]; omega
    have er : rd_L1 (p ++ upRows m (x :: s)) i = upFrom (m : Int) x.length := by subst hi; simp [rd_L1, upRows]
    have es : sumLen (x :: s) = x.length + sumLen s := rfl
    have := ih (p ++ [upFrom (m : Int) x.length]) (m + x.length) (i + 1) (by simp; omega) (by simp; omega) (by omega)
    have e2 : (p ++ [upFrom (m : Int) x.length]) ++ upRows (m + x.length) s = p ++ upRows m (x :: s) := by simp [upRows]
    rw [e2] at this
    refine Ev.succ ?_
    simp only [laws_heldIntSS.l0]
    simp only [if_pos (show 0 ≤ i by omega), if_pos (show i < (((p ++ upRows m (x :: s)).length : Nat) : Int) by omega), er, show wrap64 (i + 1) = i + 1 from w64 (by omega)]
    have hH : Ev (fun k => laws_heldIntS.f k (upFrom (m : Int) x.length) (m : Int)) ((m + x.length : Nat) : Int) := by
      have := laws_heldIntS_loop x.length [] (m : Int) 0 (by omega) (by omega) (by simp) (by simp; omega)
      rw [List.nil_append] at this
      refine Ev.to this ?_
      omega
    refine Ev.bind hH ?_
    simp only [if_neg (show ¬ ((m + x.length : Nat) : Int) < 0 by omega)]
    refine Ev.to this ?_
    rw [es]; omega
theorem laws_heldIntSS_ev (l : List (List Int)) (hl : l.length ≤ 1073741824) (hs : 1 + sumLen l ≤ 1073741824) : Ev (fun k => laws_heldIntSS.f k (upRows 1 l) 1) ((1 + sumLen l : Nat) : Int) := by
  have := laws_heldIntSS_loop l [] 1 0 (by simp) (by simpa using hl) hs
  exact this
/-- Rows of few numbers. -/
def rowsFew (L : List (List Int)) : Prop := L.length ≤ 1048576 ∧ ∀ x ∈ L, x.length ≤ 1000
theorem sumLen_le (L : List (List Int)) (h : ∀ x ∈ L, x.length ≤ 1000) : sumLen L ≤ L.length * 1000 := by
  induction L with
  | nil => simp [sumLen]
  | cons x s ih =>
    have h1 := h x (List.mem_cons_self ..)
    have h2 := ih fun y hy => h y (List.mem_cons_of_mem _ hy)
    simp only [sumLen, List.length_cons]; omega
theorem rowsFew_sum {L : List (List Int)} (h : rowsFew L) : 1 + sumLen L ≤ 1073741824 := by
  have h1 := sumLen_le L h.2
  have h2 := h.1
  omega
/-- What the law's straight walk asks of its calls: all at one number of rounds. -/
theorem exactRows {S I : Nat → Option (List (List Int) × Bool)} {L : List (List Int)} {b : Bool} (hs : Ev S (L, b)) (hi : Ev I (L, b)) (hf : rowsFew L) :
    ∃ k, S k = some (L, b) ∧ I k = some (L, b) ∧ laws_eqIntSS.f k L L = some true ∧ laws_markIntSS.f k L 1 = some (((1 + sumLen L : Nat) : Int), upRows 1 L) ∧ laws_heldIntSS.f k (upRows 1 L) 1 = some ((1 + sumLen L : Nat) : Int) := by
  have h1 := rowsFew_sum hf
  have h2 := hf.1
  obtain ⟨k1, hs⟩ := hs
  obtain ⟨k2, hi⟩ := hi
  obtain ⟨k3, he⟩ := laws_eqIntSS_self L (by omega) (fun x hx => Nat.le_trans (hf.2 x hx) (by omega))
  obtain ⟨k4, hm⟩ := laws_markIntSS_ev L (by omega) h1
  obtain ⟨k5, hh⟩ := laws_heldIntSS_ev L (by omega) h1
  refine ⟨k1 + k2 + k3 + k4 + k5, hs _ (by omega), hi _ (by omega), he _ (by omega), hm _ (by omega), hh _ (by omega)⟩

theorem spec_l1In_eq (a b c : Int) : spec_l1In.f a b c = some (inB a b c) := inB_ite a b c

set_option maxRecDepth 100000 in
theorem spec_spCount_small : ∀ n : Nat, n < 21 → ∀ m : Nat, m < 21 → spec_spCount.f 600 (n : Int) (m : Int) = some ((pc n m : Nat) : Int) := by
  decide +kernel
theorem spec_spCount_ev (n m : Nat) (hn : n ≤ 20) (hm : m ≤ 20) : Ev (fun k => spec_spCount.f k (n : Int) (m : Int)) ((pc n m : Nat) : Int) :=
  Ev.of (g := fun k => spec_spCount.f k (n : Int) (m : Int)) (spec_spCount.mono _ _) (spec_spCount_small n (by omega) m (by omega))

theorem spec_l1Least_eq (a b : Int) : spec_l1Least.f a b = some (min a b) := least_min a b

theorem spec_spPartedWith_l0 (n : Nat) (hn : n ≤ 20) (h1 : 1 ≤ n) (x : Nat) : ∀ (rank : Nat) (T : List Int), x ≤ n → rank < pc n x → T.length ≤ 1000 →
    Ev (fun k => spec_spPartedWith.f k ((n - (findX n x rank).1 : Nat) : Int) ((findX n x rank).1 : Int) ((findX n x rank).2 : Int)) T →
    Ev (fun k => spec_spPartedWith.l0 k (n : Int) (rank : Int) (x : Int)) (((findX n x rank).1 : Int) :: T) := by
  induction x with
  | zero => intro rank T hx h; rw [pc_none n (by omega) h1] at h; omega
  | succ x ih =>
    intro rank T hx h hT hR
    have hs := pc_small (n := n) (x := x + 1) hn (by omega)
    rw [pc_step hn hx] at h hs
    have e1 : wrap64 ((n : Int) - ((x + 1 : Nat) : Int)) = ((n - (x + 1) : Nat) : Int) := by rw [w64 (by omega)]; omega
    have e2 : wrap64 (((x + 1 : Nat) : Int) - 1) = (x : Int) := by rw [w64 (by omega)]; omega
    unfold findX at hR ⊢
    refine Ev.succ ?_
    simp only [spec_spPartedWith.l0]
    simp only [e1, e2]
    refine Ev.bind (spec_spCount_ev (n - (x + 1)) (x + 1) (by omega) (by omega)) ?_
    by_cases c : rank < pc (n - (x + 1)) (x + 1)
    · rw [if_pos c] at hR ⊢
      simp only [if_neg (show ¬ (rank : Int) ≥ ((pc (n - (x + 1)) (x + 1) : Nat) : Int) by omega), obind]
      refine Ev.bind hR ?_
      simp only [List.length_singleton, if_pos (show 1 + T.length < 17592186044416 by omega)]
      exact Ev.some_ rfl
    · rw [if_neg c] at hR ⊢
      have e3 : wrap64 ((rank : Int) - ((pc (n - (x + 1)) (x + 1) : Nat) : Int)) = ((rank - pc (n - (x + 1)) (x + 1) : Nat) : Int) := by rw [w64 (by omega)]; omega
      simp only [if_pos (show (rank : Int) ≥ ((pc (n - (x + 1)) (x + 1) : Nat) : Int) by omega)]
      refine Ev.bind (spec_spCount_ev (n - (x + 1)) (x + 1) (by omega) (by omega)) ?_
      simp only [e3]
      exact ih _ T (by omega) (by omega) hT hR
theorem spec_spPartedWith_ev (f : Nat) : ∀ (n most rank : Nat), n ≤ f → f ≤ 1000 → n ≤ 20 → most ≤ 20 → rank < pc n most →
    Ev (fun k => spec_spPartedWith.f k (n : Int) (most : Int) (rank : Int)) (unPF f n most rank) := by
  induction f with
  | zero =>
    intro n most rank hf hF hn hm h
    obtain rfl : n = 0 := by omega
    refine Ev.succ ?_
    simp only [spec_spPartedWith.f]
    simp only [Int.natCast_zero, if_true]
    exact Ev.some_ (by simp [unPF])
  | succ f ih =>
    intro n most rank hf hF hn hm h
    refine Ev.succ ?_
    simp only [spec_spPartedWith.f]
    by_cases hn0 : n = 0
    · subst hn0
      simp only [Int.natCast_zero, if_true]
      exact Ev.some_ (by simp [unPF])
    · have e : min (n : Int) (most : Int) = ((min most n : Nat) : Int) := by rw [i_min, Nat.min_comm]
      rw [pc_min hn hm] at h
      obtain ⟨g1, g2, g3⟩ := findX_fits hn (by omega) (min most n) rank (Nat.min_le_right _ _) h
      have g4 : min most n ≤ n := Nat.min_le_right _ _
      simp only [if_neg (show ¬ (n : Int) = 0 by omega), spec_l1Least_eq, obind, e]
      rw [unPF, if_neg hn0]
      exact spec_spPartedWith_l0 n hn (by omega) (min most n) rank _ g4 h (Nat.le_trans (unPF_len _ _ _ _) (by omega)) (ih _ _ _ (by omega) (by omega) (by omega) (by omega) g3)

theorem spec_PartedOf_loop (m : Nat) (hm : m ≤ 20) (c : Nat) (hc : c = pc m m) (d : Nat) : ∀ r : Nat, r + d = c →
    Ev (fun k => spec_PartedOf.l0 k (m : Int) ((List.range r).map fun r => unP m m r) (r : Int)) (allP m, true) := by
  have hg := pc_small (n := m) (x := m) (by omega) (by omega)
  have hC : Ev (fun k => spec_spCount.f k (m : Int) (m : Int)) (c : Int) := by rw [hc]; exact spec_spCount_ev m m (by omega) (by omega)
  induction d with
  | zero =>
    intro r hr
    have e : r = c := by omega
    subst e
    refine Ev.succ ?_
    simp only [spec_PartedOf.l0]
    refine Ev.bind hC ?_
    simp only [if_neg (show ¬ (r : Int) < (r : Int) by omega)]
    refine Ev.some_ ?_
    rw [hc]; rfl
  | succ d ih =>
    intro r hr
    have hw : Ev (fun k => spec_spPartedWith.f k (m : Int) (m : Int) (r : Int)) (unP m m r) :=
      spec_spPartedWith_ev m m m r (Nat.le_refl _) (by omega) hm hm (by omega)
    have := ih (r + 1) (by omega)
    rw [List.range_succ, List.map_append] at this
    refine Ev.succ ?_
    simp only [spec_PartedOf.l0]
    refine Ev.bind hC ?_
    simp only [if_pos (show (r : Int) < (c : Int) by omega)]
    refine Ev.bind hw ?_
    simp only [if_pos (show ((List.range r).map fun r => unP m m r).length < 5864062014805 by simp; omega), i_up (show r ≤ 1099511627776 by omega)]
    exact this
theorem spec_PartedOf_ev (n : Int) : Ev (fun k => spec_PartedOf.f k n) (if inB n 0 20 = true then (allP n.toNat, true) else ([], false)) := by
  unfold spec_PartedOf.f spec_spTotal.f
  simp only [spec_l1In_eq, obind]
  cases h : inB n 0 20 with
  | false => simp only [Bool.false_eq_true, if_false]; exact Ev.now _
  | true =>
    have h1 := inB_true.1 h
    obtain ⟨m, rfl⟩ : ∃ m : Nat, n = (m : Int) := ⟨n.toNat, by omega⟩
    simp only [if_true, Int.toNat_natCast]
    exact spec_PartedOf_loop m (by omega) _ rfl (pc m m) 0 (by omega)

theorem impl_within_eq (a b c : Int) : impl_within.f a b c = some (inB a b c) := inB_ite a b c

set_option maxRecDepth 100000 in
theorem impl_countParted_small : ∀ n : Nat, n < 21 → ∀ m : Nat, m < 21 → impl_countParted.f 600 (n : Int) (m : Int) = some ((pc n m : Nat) : Int) := by
  decide +kernel
theorem impl_countParted_ev (n m : Nat) (hn : n ≤ 20) (hm : m ≤ 20) : Ev (fun k => impl_countParted.f k (n : Int) (m : Int)) ((pc n m : Nat) : Int) :=
  Ev.of (g := fun k => impl_countParted.f k (n : Int) (m : Int)) (impl_countParted.mono _ _) (impl_countParted_small n (by omega) m (by omega))

theorem impl_partedWith_l1 (n : Nat) (hn : n ≤ 20) (h1 : 1 ≤ n) (out : List Int) (ho : out.length ≤ 1000) (x : Nat) : ∀ (rank : Nat) (R : List Int), x ≤ n → rank < pc n x →
    Ev (fun k => impl_partedWith.l0 k ((n - (findX n x rank).1 : Nat) : Int) ((findX n x rank).2 : Int) (out ++ [((findX n x rank).1 : Int)]) ((findX n x rank).1 : Int)) R →
    Ev (fun k => impl_partedWith.l1 k (n : Int) (rank : Int) out (x : Int)) R := by
  induction x with
  | zero => intro rank R hx h; rw [pc_none n (by omega) h1] at h; omega
  | succ x ih =>
    intro rank R hx h hR
    have hs := pc_small (n := n) (x := x + 1) hn (by omega)
    rw [pc_step hn hx] at h hs
    have e1 : wrap64 ((n : Int) - ((x + 1 : Nat) : Int)) = ((n - (x + 1) : Nat) : Int) := by rw [w64 (by omega)]; omega
    have e2 : wrap64 (((x + 1 : Nat) : Int) - 1) = (x : Int) := by rw [w64 (by omega)]; omega
    unfold findX at hR
    refine Ev.succ ?_
    simp only [impl_partedWith.l1]
    simp only [e1, e2]
    refine Ev.bind (impl_countParted_ev (n - (x + 1)) (x + 1) (by omega) (by omega)) ?_
    by_cases c : rank < pc (n - (x + 1)) (x + 1)
    · rw [if_pos c] at hR
      simp only [if_pos (show (rank : Int) < ((pc (n - (x + 1)) (x + 1) : Nat) : Int) by omega), if_pos (show out.length < 17592186044416 by omega)]
      exact hR
    · rw [if_neg c] at hR
      have e3 : wrap64 ((rank : Int) - ((pc (n - (x + 1)) (x + 1) : Nat) : Int)) = ((rank - pc (n - (x + 1)) (x + 1) : Nat) : Int) := by rw [w64 (by omega)]; omega
      simp only [if_neg (show ¬ (rank : Int) < ((pc (n - (x + 1)) (x + 1) : Nat) : Int) by omega), e3]
      exact ih _ R (by omega) (by omega) hR
theorem impl_partedWith_l0 (f : Nat) : ∀ (n most rank : Nat) (out : List Int), n ≤ f → n ≤ 20 → most ≤ 20 → out.length + n ≤ 1000 → rank < pc n most →
    Ev (fun k => impl_partedWith.l0 k (n : Int) (rank : Int) out (most : Int)) (out ++ unPF f n most rank) := by
  induction f with
  | zero =>
    intro n most rank out hf hn hm ho h
    obtain rfl : n = 0 := by omega
    refine Ev.succ ?_
    simp only [impl_partedWith.l0]
    simp only [Int.natCast_zero, if_neg (show ¬ (0 : Int) > 0 by decide)]
    exact Ev.some_ (by simp [unPF])
  | succ f ih =>
    intro n most rank out hf hn hm ho h
    refine Ev.succ ?_
    simp only [impl_partedWith.l0]
    by_cases hn0 : n = 0
    · subst hn0
      simp only [Int.natCast_zero, if_neg (show ¬ (0 : Int) > 0 by decide)]
      exact Ev.some_ (by simp [unPF])
    · have e : mn (most : Int) (n : Int) = ((min most n : Nat) : Int) := i_mn _ _
      rw [pc_min hn hm] at h
      obtain ⟨g1, g2, g3⟩ := findX_fits hn (by omega) (min most n) rank (Nat.min_le_right _ _) h
      have g4 : min most n ≤ n := Nat.min_le_right _ _
      simp only [if_pos (show (n : Int) > 0 by omega), e]
      refine impl_partedWith_l1 n hn (by omega) out (by omega) (min most n) rank _ g4 h ?_
      refine Ev.to (ih _ _ _ (out ++ [((findX n (min most n) rank).1 : Int)]) (by omega) (by omega) (by omega) (by simp; omega) g3) ?_
      rw [unPF, if_neg hn0]
      simp

theorem impl_PartedOf_loop (m : Nat) (hm : m ≤ 20) (c : Nat) (hc : c = pc m m) (d : Nat) : ∀ r : Nat, r + d = c →
    Ev (fun k => impl_PartedOf.l0 k (m : Int) ((List.range r).map fun r => unP m m r) (c : Int) (r : Int)) (allP m, true) := by
  have hg := pc_small (n := m) (x := m) (by omega) (by omega)
  induction d with
  | zero =>
    intro r hr
    have e : r = c := by omega
    subst e
    refine Ev.done fun k => ?_
    simp only [impl_PartedOf.l0]
    rw [if_neg (by omega), hc]; rfl
  | succ d ih =>
    intro r hr
    have hw : Ev (fun k => impl_partedWith.f k (m : Int) (r : Int)) (unP m m r) := by
      have := impl_partedWith_l0 m m m r [] (Nat.le_refl _) hm hm (by simp; omega) (by omega)
      rw [List.nil_append] at this
      exact this
    have := ih (r + 1) (by omega)
    rw [List.range_succ, List.map_append] at this
    refine Ev.succ ?_
    simp only [impl_PartedOf.l0]
    simp only [if_pos (show (r : Int) < (c : Int) by omega)]
    refine Ev.bind hw ?_
    simp only [if_pos (show ((List.range r).map fun r => unP m m r).length < 5864062014805 by simp; omega), i_up (show r ≤ 1099511627776 by omega)]
    exact this
theorem impl_PartedOf_ev (n : Int) : Ev (fun k => impl_PartedOf.f k n) (if inB n 0 20 = true then (allP n.toNat, true) else ([], false)) := by
  unfold impl_PartedOf.f
  simp only [impl_within_eq, obind]
  cases h : inB n 0 20 with
  | false => simp only [Bool.false_eq_true, if_false]; exact Ev.now _
  | true =>
    have h1 := inB_true.1 h
    obtain ⟨m, rfl⟩ : ∃ m : Nat, n = (m : Int) := ⟨n.toNat, by omega⟩
    simp only [if_true, Int.toNat_natCast]
    refine Ev.bind (impl_countParted_ev m m (by omega) (by omega)) ?_
    exact impl_PartedOf_loop m (by omega) _ rfl (pc m m) 0 (by omega)

theorem partedOf_few (n : Int) : rowsFew (if inB n 0 20 = true then (allP n.toNat, true) else ([], false) : List (List Int) × Bool).1 := by
  split
  · rename_i h
    have h1 := inB_true.1 h
    refine ⟨?_, ?_⟩
    · show (allP n.toNat).length ≤ _
      rw [allP_len]
      have := pc_small (n := n.toNat) (x := n.toNat) (by omega) (by omega)
      omega
    · intro x hx
      obtain ⟨r, _, rfl⟩ := List.mem_map.1 hx
      exact Nat.le_trans (unP_len _ _ _) (by omega)
  · exact ⟨by simp, by simp⟩
theorem FnExactPartedOf_walk (a0 : Int) (w : World) : Calls Try.prog 4 #[.int .i64 a0] w fun e w' => e = .returned (.bool true) ∧ Below w.heap.size w w' := by
  have hs := spec_PartedOf_ev a0
  have hi := impl_PartedOf_ev a0
  have hf := partedOf_few a0
  generalize (if inB a0 0 20 = true then (allP a0.toNat, true) else ([], false) : List (List Int) × Bool) = R at hs hi hf
  obtain ⟨L, b⟩ := R
  obtain ⟨k, h1, h2, h3, h4, h5⟩ := exactRows hs hi hf
  exact laws_FnExactPartedOf.straight k a0 L _ b _ w h1 h2 h3 h4 (upRows_len L 1) h5 (by omega)

end Go.Proofs.Ythaplgbhhppniaa.Pure
