/- The program's GrayBalanced returns what the reference's returns, for every whole number: the walk of the law. -/
import Derived.Test.YthaplgbhhppniaaHandFnExactGrayBalanced
import Derived.Test.YthaplgbhhppniaaCoreA
import Derived.Test.YthaplgbhhppniaaCoreB
import Derived.Test.YthaplgbhhppniaaCoreG
import Derived.Test.YthaplgbhhppniaaCoreGG
import Derived.Test.YthaplgbhhppniaaCorePL
namespace Go.Proofs.Ythaplgbhhppniaa.Pure
open Go.RowKit Go.Proofs.Ythaplgbhhppniaa.HFnExactGrayBalanced Go.Proofs.YthaplgbhhppniaaW.PrintWords Go.Proofs.YthaplgbhhppniaaW.PrintLast Go.Proofs.YthaplgbhhppniaaW.PrintMore Go.Proofs.Ythaplgbhhppniaa.Core
open Go.RowKit Go.Proofs.YthaplgbhhppniaaW.PrintWords Go.Proofs.YthaplgbhhppniaaW.PrintLast Go.Proofs.YthaplgbhhppniaaW.PrintMore
set_option linter.unusedVariables false
set_option linter.unusedSimpArgs false

theorem laws_eqIntS_loop (s : List Int) : ∀ (p q t : List Int) (i : Int), t.length = s.length → q.length = p.length → i = (p.length : Int) → (p ++ s).length ≤ 1099511627776 →
    Ev (fun k => laws_eqIntS.l0 k (p ++ s) (q ++ t) i) (decide (s = t)) := by
  induction s with
  | nil =>
    intro p q t i ht hq hi hl
    have ht0 : t = [] := List.eq_nil_of_length_eq_zero ht
    subst ht0
    refine Ev.done fun k => ?_
    simp only [laws_eqIntS.l0]
    rw [if_neg (by rw [len_nil]; omega)]
    simp
  | cons x s ih =>
    intro p q t i ht hq hi hl
    cases t with
    | nil => simp at ht
    | cons y t =>
      have ht' : t.length = s.length := by simpa using ht
      have h1 := len_mid p s x
      have h2 := len_mid q t y
      by_cases hxy : x = y
      · have := ih (p ++ [x]) (q ++ [y]) t (i + 1) ht' (by simp [hq]) (by rw [len_snoc]; omega) (by rw [← snoc_mid]; exact hl)
        rw [← snoc_mid, ← snoc_mid] at this
        refine Ev.to (Ev.step' this fun k => ?_) (by simp [hxy])
        simp only [laws_eqIntS.l0]
        rw [if_pos (by omega), if_pos (by omega), if_pos (by omega), rd_mid hi, rd_mid (by omega), if_pos hxy, w64 (by omega)]
      · refine Ev.to (Ev.done fun k => ?_) (show false = _ by simp [hxy])
        simp only [laws_eqIntS.l0]
        rw [if_pos (by omega), if_pos (by omega), if_pos (by omega), rd_mid hi, rd_mid (by omega), if_neg hxy]
theorem laws_eqIntS_ev (l t : List Int) (hl : l.length ≤ 1099511627776) : Ev (fun k => laws_eqIntS.f k l t) (decide (l = t)) := by
  by_cases h : l.length = t.length
  · have := laws_eqIntS_loop l [] [] t 0 h.symm rfl (by simp) (by simpa using hl)
    simp only [List.nil_append] at this
    refine Ev.congr (fun k => ?_) this
    unfold laws_eqIntS.f
    rw [if_pos (by omega)]
  · refine Ev.to (Ev.congr (fun k => ?_) (Ev.now false)) (by rw [decide_eq_false]; exact fun e => h (by rw [e]))
    unfold laws_eqIntS.f
    rw [if_neg (by omega)]

theorem laws_markIntS_loop (s : List Int) : ∀ (p : List Int) (m i : Int), 0 ≤ m → m + s.length ≤ 1099511627776 → i = (p.length : Int) → (p ++ s).length ≤ 1099511627776 →
    Ev (fun k => laws_markIntS.l0 k (p ++ s) m i) (m + s.length, p ++ upFrom m s.length) := by
  induction s with
  | nil =>
    intro p m i hm hm' hi hl
    refine Ev.to (Ev.done fun k => ?_) (show (m, p ++ []) = _ by simp [upFrom])
    simp only [laws_markIntS.l0]
    rw [if_neg (by rw [len_nil]; omega)]
  | cons x s ih =>
    intro p m i hm hm' hi hl
    have h1 := len_mid p s x
    have h2 : (((x :: s).length : Nat) : Int) = s.length + 1 := by simp
    have h3 : (p ++ m :: s).length = (p ++ x :: s).length := by simp
    have := ih (p ++ [m]) (m + 1) (i + 1) (by omega) (by omega) (by rw [len_snoc]; omega) (by rw [← snoc_mid, h3]; exact hl)
    rw [← snoc_mid] at this
    refine Ev.to (Ev.step' this fun k => ?_) (by rw [h2, ← snoc_mid]; simp only [List.length_cons, upFrom]; congr 1; omega)
    simp only [laws_markIntS.l0]
    rw [if_pos (by omega), if_pos (by omega), set_mid hi, w64 (by omega), w64 (by omega)]
theorem laws_markIntS_ev (l : List Int) (hl : l.length ≤ 109951162777) : Ev (fun k => laws_markIntS.f k l 1) (1 + l.length, upFrom 1 l.length) :=
  laws_markIntS_loop l [] 1 0 (by omega) (by omega) (by simp) (by simp; omega)

theorem laws_heldIntS_loop (n : Nat) : ∀ (p : List Int) (m i : Int), 0 ≤ m → m + n ≤ 1099511627776 → i = (p.length : Int) → p.length + n ≤ 1099511627776 →
    Ev (fun k => laws_heldIntS.l0 k (p ++ upFrom m n) m i) (m + n) := by
  induction n with
  | zero =>
    intro p m i hm hm' hi hl
    show Ev (fun k => laws_heldIntS.l0 k (p ++ []) m i) _
    refine Ev.to (Ev.done fun k => ?_) (show m = _ by simp)
    simp only [laws_heldIntS.l0]
    rw [if_neg (by rw [len_nil]; omega)]
  | succ n ih =>
    intro p m i hm hm' hi hl
    have h1 := len_mid p (upFrom (m + 1) n) m
    have := ih (p ++ [m]) (m + 1) (i + 1) (by omega) (by omega) (by rw [len_snoc]; omega) (by rw [List.length_append]; simp; omega)
    rw [← snoc_mid] at this
    show Ev (fun k => laws_heldIntS.l0 k (p ++ m :: upFrom (m + 1) n) m i) _
    refine Ev.to (Ev.step' this fun k => ?_) (by omega)
    simp only [laws_heldIntS.l0]
    rw [if_pos (by omega), if_pos (by omega), rd_mid hi, if_pos rfl, w64 (by omega), w64 (by omega)]
theorem laws_heldIntS_ev (n : Nat) (hn : n ≤ 109951162777) : Ev (fun k => laws_heldIntS.f k (upFrom 1 n) 1) (1 + n) :=
  laws_heldIntS_loop n [] 1 0 (by omega) (by omega) (by simp) (by simp; omega)

theorem laws_eqIntSS_loop (s : List (List Int)) : ∀ (p : List (List Int)) (i : Int), i = (p.length : Int) → (p ++ s).length ≤ 1073741824 → (∀ x ∈ s, x.length ≤ 1073741824) →
    Ev (fun k => laws_eqIntSS.l0 k (p ++ s) (p ++ s) i) true := by
  induction s with
  | nil =>
    intro p i hi hl hs
    refine Ev.done fun k => ?_
    simp only [laws_eqIntSS.l0]
    rw [if_neg (by rw [List.append_nil]; omega)]
  | cons x s ih =>
    intro p i hi hl hs
    have h1 : (((p ++ x :: s).length : Nat) : Int) = p.length + s.length + 1 := by simp; omega
    have er : rd_L1 (p ++ x :: s) i = x := by subst hi; simp [rd_L1]
    have e2 : p ++ x :: s = (p ++ [x]) ++ s := by simp
    have := ih (p ++ [x]) (i + 1) (by simp; omega) (by rw [← e2]; exact hl) (fun y hy => hs y (List.mem_cons_of_mem _ hy))
    rw [← e2] at this
    refine Ev.succ ?_
    simp only [laws_eqIntSS.l0]
    simp only [if_pos (show 0 ≤ i by omega), if_pos (show i < (((p ++ x :: s).length : Nat) : Int) by omega), er, show wrap64 (i + 1) = i + 1 from w64 (by omega)]
    refine Ev.bind (laws_eqIntS_ev x x (by have := hs x (List.mem_cons_self ..); omega)) ?_
    simp only [decide_true, if_true]
    exact this
theorem laws_eqIntSS_self (l : List (List Int)) (hl : l.length ≤ 1073741824) (hs : ∀ x ∈ l, x.length ≤ 1073741824) : Ev (fun k => laws_eqIntSS.f k l l) true := by
  unfold laws_eqIntSS.f
  simp only [if_true]
  exact laws_eqIntSS_loop l [] 0 (by simp) (by simpa using hl) hs

/-- How many numbers stand in the rows. -/
def sumLen : List (List Int) → Nat
  | [] => 0
  | x :: s => x.length + sumLen s
/-- The rows with the numbers m, m + 1, .. written over them. -/
def upRows (m : Nat) : List (List Int) → List (List Int)
  | [] => []
  | x :: s => upFrom (m : Int) x.length :: upRows (m + x.length) s
theorem upRows_len (L : List (List Int)) : ∀ m, (upRows m L).length = L.length := by
  induction L with
  | nil => intro m; rfl
  | cons x s ih => intro m; simp [upRows, ih]
theorem laws_markIntSS_loop (s : List (List Int)) : ∀ (p : List (List Int)) (m : Nat) (i : Int), i = (p.length : Int) → (p ++ s).length ≤ 1073741824 → m + sumLen s ≤ 1073741824 →
    Ev (fun k => laws_markIntSS.l0 k (p ++ s) (m : Int) i) (((m + sumLen s : Nat) : Int), p ++ upRows m s) := by
  induction s with
  | nil =>
    intro p m i hi hl hs
    refine Ev.to (Ev.done fun k => ?_) (show ((m : Int), p ++ []) = _ by simp [upRows, sumLen])
    simp only [laws_markIntSS.l0]
    rw [if_neg (by rw [List.append_nil]; omega)]
  | cons x s ih =>
    intro p m i hi hl hs
    have h1 : (((p ++ x :: s).length : Nat) : Int) = p.length + s.length + 1 := by simp; omega
    have er : rd_L1 (p ++ x :: s) i = x := by subst hi; simp [rd_L1]
    have e2 : ∀ y : List Int, p ++ y :: s = (p ++ [y]) ++ s := fun y => by simp
    have es : sumLen (x :: s) = x.length + sumLen s := rfl
    have hlen : ((p ++ [upFrom (m : Int) x.length]) ++ s).length ≤ 1073741824 := by simp at hl ⊢; omega
    have := ih (p ++ [upFrom (m : Int) x.length]) (m + x.length) (i + 1) (by simp; omega) hlen (by omega)
    rw [← e2] at this
    refine Ev.succ ?_
    simp only [laws_markIntSS.l0]
    simp only [if_pos (show 0 ≤ i by omega), if_pos (show i < (((p ++ x :: s).length : Nat) : Int) by omega), er, show wrap64 (i + 1) = i + 1 from w64 (by omega)]
    have hM : Ev (fun k => laws_markIntS.f k x (m : Int)) (((m + x.length : Nat) : Int), upFrom (m : Int) x.length) := by
      have := laws_markIntS_loop x [] (m : Int) 0 (by omega) (by omega) (by simp) (by simp; omega)
      refine Ev.to this ?_
      simp
    refine Ev.bind hM ?_
    simp only [set_mid hi]
    refine Ev.to this ?_
    simp only [es, upRows]
    congr 1
    · omega
    · simp
theorem laws_markIntSS_ev (l : List (List Int)) (hl : l.length ≤ 1073741824) (hs : 1 + sumLen l ≤ 1073741824) : Ev (fun k => laws_markIntSS.f k l 1) (((1 + sumLen l : Nat) : Int), upRows 1 l) :=
  laws_markIntSS_loop l [] 1 0 (by simp) (by simpa using hl) hs
theorem laws_heldIntSS_loop (s : List (List Int)) : ∀ (p : List (List Int)) (m : Nat) (i : Int), i = (p.length : Int) → p.length + s.length ≤ 1073741824 → m + sumLen s ≤ 1073741824 →
    Ev (fun k => laws_heldIntSS.l0 k (p ++ upRows m s) (m : Int) i) ((m + sumLen s : Nat) : Int) := by
  induction s with
  | nil =>
    intro p m i hi hl hs
    refine Ev.to (Ev.done fun k => ?_) (show (m : Int) = _ by simp [sumLen])
    have e : ¬ i < (((p ++ upRows m []).length : Nat) : Int) := by simp [upRows]; omega
    simp only [laws_heldIntSS.l0]
    simp only [if_neg e]
  | cons x s ih =>
    intro p m i hi hl hs
    have hl' : p.length + s.length + 1 ≤ 1073741824 := by simp at hl; omega
    have h1 : (((p ++ upRows m (x :: s)).length : Nat) : Int) = p.length + s.length + 1 := by simp [upRows_len]; omega
    have er : rd_L1 (p ++ upRows m (x :: s)) i = upFrom (m : Int) x.length := by subst hi; simp [rd_L1, upRows]
    have es : sumLen (x :: s) = x.length + sumLen s := rfl
    have := ih (p ++ [upFrom (m : Int) x.length]) (m + x.length) (i + 1) (by simp; omega) (by simp; omega) (by omega)
    have e2 : (p ++ [upFrom (m : Int) x.length]) ++ upRows (m + x.length) s = p ++ upRows m (x :: s) := by simp [upRows]
    rw [e2] at this
    refine Ev.succ ?_
    simp only [laws_heldIntSS.l0]
    simp only [if_pos (show 0 ≤ i by omega), if_pos (show i < (((p ++ upRows m (x :: s)).length : Nat) : Int) by omega), er, show wrap64 (i + 1) = i + 1 from w64 (by omega)]
    have hH : Ev (fun k => laws_heldIntS.f k (upFrom (m : Int) x.length) (m : Int)) ((m + x.length : Nat) : Int) := by
      have := laws_heldIntS_loop x.length [] (m : Int) 0 (by omega) (by omega) (by simp) (by simp; omega)
      rw [List.nil_append] at this
      refine Ev.to this ?_
      omega
    refine Ev.bind hH ?_
    simp only [if_neg (show ¬ ((m + x.length : Nat) : Int) < 0 by omega)]
    refine Ev.to this ?_
    rw [es]; omega
theorem laws_heldIntSS_ev (l : List (List Int)) (hl : l.length ≤ 1073741824) (hs : 1 + sumLen l ≤ 1073741824) : Ev (fun k => laws_heldIntSS.f k (upRows 1 l) 1) ((1 + sumLen l : Nat) : Int) := by
  have := laws_heldIntSS_loop l [] 1 0 (by simp) (by simpa using hl) hs
  exact this
/-- Rows of few numbers. -/
def rowsFew (L : List (List Int)) : Prop := L.length ≤ 1048576 ∧ ∀ x ∈ L, x.length ≤ 1000
theorem sumLen_le (L : List (List Int)) (h : ∀ x ∈ L, x.length ≤ 1000) : sumLen L ≤ L.length * 1000 := by
  induction L with
  | nil => simp [sumLen]
  | cons x s ih =>
    have h1 := h x (List.mem_cons_self ..)
    have h2 := ih fun y hy => h y (List.mem_cons_of_mem _ hy)
    simp only [sumLen, List.length_cons]; omega
theorem rowsFew_sum {L : List (List Int)} (h : rowsFew L) : 1 + sumLen L ≤ 1073741824 := by
  have h1 := sumLen_le L h.2
  have h2 := h.1
  omega
/-- What the law's straight walk asks of its calls: all at one number of rounds. -/
theorem exactRows {S I : Nat → Option (List (List Int) × Bool)} {L : List (List Int)} {b : Bool} (hs : Ev S (L, b)) (hi : Ev I (L, b)) (hf : rowsFew L) :
    ∃ k, S k = some (L, b) ∧ I k = some (L, b) ∧ laws_eqIntSS.f k L L = some true ∧ laws_markIntSS.f k L 1 = some (((1 + sumLen L : Nat) : Int), upRows 1 L) ∧ laws_heldIntSS.f k (upRows 1 L) 1 = some ((1 + sumLen L : Nat) : Int) := by
  have h1 := rowsFew_sum hf
  have h2 := hf.1
  obtain ⟨k1, hs⟩ := hs
  obtain ⟨k2, hi⟩ := hi
  obtain ⟨k3, he⟩ := laws_eqIntSS_self L (by omega) (fun x hx => Nat.le_trans (hf.2 x hx) (by omega))
  obtain ⟨k4, hm⟩ := laws_markIntSS_ev L (by omega) h1
  obtain ⟨k5, hh⟩ := laws_heldIntSS_ev L (by omega) h1
  refine ⟨k1 + k2 + k3 + k4 + k5, hs _ (by omega), hi _ (by omega), he _ (by omega), hm _ (by omega), hh _ (by omega)⟩

theorem spec_l1In_eq (a b c : Int) : spec_l1In.f a b c = some (inB a b c) := inB_ite a b c

theorem impl_within_eq (a b c : Int) : impl_within.f a b c = some (inB a b c) := inB_ite a b c

theorem impl_copied_eq (l : List Int) (hl : l.length ≤ 1000000) : impl_copied.f l = some l := by
  unfold impl_copied.f
  rw [obind, if_pos (by simp; omega), List.nil_append]

theorem spec_spWith_eq (l : List Int) (x : Int) (hl : l.length ≤ 1000) : spec_spWith.f l x = some (l ++ [x]) := by
  unfold spec_spWith.f
  have h : spec_l1Own.f l = some l := by
    unfold spec_l1Own.f
    rw [obind, if_pos (by simp; omega), List.nil_append]
  rw [h, obind, if_pos (by omega)]
theorem impl_put_eq (l : List Int) (x : Int) (hl : l.length ≤ 1000) : impl_put.f l x = some (l ++ [x]) := by
  unfold impl_put.f
  rw [impl_copied_eq l (by omega), obind, if_pos (by omega)]
theorem okP_at {n : Nat} {a : List Int} (h : okP n a = true) : (1 ≤ a.length ∧ a.length ≤ 100) ∧ lastN a + 3 ≤ 2 * n ∧ rd a ((a.length : Int) - 1) = (lastN a : Int) := by
  unfold okP at h
  rw [Bool.and_eq_true, Bool.and_eq_true, decide_eq_true_iff, decide_eq_true_iff, List.all_eq_true] at h
  obtain ⟨h1, h2, h3⟩ := h
  refine ⟨h1, h3, ?_⟩
  have e : ((a.length : Int) - 1) = ((a.length - 1 : Nat) : Int) := by omega
  rw [e, rd_nat a (a.length - 1) (by omega)]
  have hm := inB_true.1 (h2 _ (List.getElem_mem (show a.length - 1 < a.length by omega)))
  unfold lastN
  rw [List.getD_eq_getElem?_getD, List.getElem?_eq_getElem (show a.length - 1 < a.length by omega), Option.getD_some]
  omega
theorem plOf_len (n i : Nat) (hn : n ≤ 20) (a : List Int) : (plOf n i a).length ≤ 100 := by
  unfold plOf
  split
  · simp [upL_len]; omega
  · simp [dnL_len]; omega
theorem spec_pl_up (n : Nat) (hn : 2 ≤ n ∧ n ≤ 20) (a : List Int) (ha : a.length ≤ 100) (rows : List (List Int)) (nn i : Int) (R : List (List Int)) (d : Nat) : ∀ (x : Nat) (out : List (List Int)), x + d = 2 * n - 2 → out.length + d ≤ 200000 →
    Ev (fun k => spec_spPlaces.l0 k (n : Int) (out ++ upL a x d) rows nn (wrap64 (i + 1))) R → Ev (fun k => spec_spPlaces.l1 k (n : Int) out a (x : Int) rows nn i) R := by
  have e1 : wrap64 (wrap64 (2 * (n : Int)) - 3) = ((2 * n - 3 : Nat) : Int) := by rw [w64 (n := 2 * (n : Int)) (by omega), w64 (by omega)]; omega
  induction d with
  | zero =>
    intro x out hx ho h
    refine Ev.succ ?_
    simp only [spec_spPlaces.l1, e1, if_neg (show ¬ (x : Int) ≤ ((2 * n - 3 : Nat) : Int) by omega)]
    simpa [upL] using h
  | succ d ih =>
    intro x out hx ho h
    refine Ev.succ ?_
    simp only [spec_spPlaces.l1, e1, if_pos (show (x : Int) ≤ ((2 * n - 3 : Nat) : Int) by omega), spec_spWith_eq a _ (by omega), obind, if_pos (show out.length < 5864062014805 by omega), i_up (show x ≤ 1099511627776 by omega)]
    refine ih (x + 1) (out ++ [a ++ [(x : Int)]]) (by omega) (by simp; omega) ?_
    simpa [upL] using h
theorem spec_pl_dn (n : Nat) (hn : 2 ≤ n ∧ n ≤ 20) (a : List Int) (ha : a.length ≤ 100) (rows : List (List Int)) (nn i : Int) (z : Nat) (hz : z ≤ 100) (R : List (List Int)) (d : Nat) : ∀ (x : Nat) (out : List (List Int)), x = z + d → x ≤ 1000 → out.length + d + 1 ≤ 200000 →
    Ev (fun k => spec_spPlaces.l0 k (n : Int) (out ++ (dnL a x d ++ [a ++ [((2 * n - 2 : Nat) : Int)]])) rows nn (wrap64 (i + 1))) R → Ev (fun k => spec_spPlaces.l2 k (n : Int) out a (z : Int) (x : Int) rows nn i) R := by
  have e1 : wrap64 (wrap64 (2 * (n : Int)) - 2) = ((2 * n - 2 : Nat) : Int) := by rw [w64 (n := 2 * (n : Int)) (by omega), w64 (by omega)]; omega
  have e2 : wrap64 ((z : Int) + 1) = (z : Int) + 1 := w64 (by omega)
  induction d with
  | zero =>
    intro x out hx hx2 ho h
    refine Ev.succ ?_
    simp only [spec_spPlaces.l2, e1, e2, if_neg (show ¬ (x : Int) ≥ (z : Int) + 1 by omega), spec_spWith_eq a _ (by omega), obind, if_pos (show out.length < 5864062014805 by omega)]
    simpa [dnL] using h
  | succ d ih =>
    intro x out hx hx2 ho h
    refine Ev.succ ?_
    obtain ⟨y, rfl⟩ : ∃ y, x = y + 1 := ⟨x - 1, by omega⟩
    simp only [spec_spPlaces.l2, e1, e2, if_pos (show ((y + 1 : Nat) : Int) ≥ (z : Int) + 1 by omega), spec_spWith_eq a _ (by omega), obind, if_pos (show out.length < 5864062014805 by omega), i_down (show y ≤ 1099511627776 by omega)]
    refine ih y (out ++ [a ++ [((y + 1 : Nat) : Int)]]) (by omega) (by omega) (by simp; omega) ?_
    simpa [dnL] using h
theorem spec_pl_row (n : Nat) (hn : 2 ≤ n ∧ n ≤ 20) (R : List (List Int)) (s : List (List Int)) : ∀ (p out : List (List Int)) (nn : Int), nn = ((p ++ s).length : Int) → (∀ a ∈ s, okP n a = true) → (p ++ s).length ≤ 1000 → out.length + 100 * s.length ≤ 190000 →
    (Ev (fun k => spec_spPlaces.l0 (k + 1) (n : Int) (out ++ plS n p.length s) (p ++ s) nn ((p ++ s).length : Int)) R) → Ev (fun k => spec_spPlaces.l0 k (n : Int) out (p ++ s) nn (p.length : Int)) R := by
  induction s with
  | nil =>
    intro p out nn hnn hs hl ho h
    refine Ev.succ ?_
    simpa [plS] using h
  | cons a s ih =>
    intro p out nn hnn hs hl ho h
    obtain ⟨hal, hz, hrd⟩ := okP_at (hs a (List.mem_cons_self ..))
    have hgl := plOf_len n p.length (by omega) a
    have h1 : (((p ++ a :: s).length : Nat) : Int) = p.length + s.length + 1 := by simp; omega
    have er : rd_L1 (p ++ a :: s) (p.length : Int) = a := by simp [rd_L1]
    have e2 : p ++ a :: s = (p ++ [a]) ++ s := by simp
    have hl2 : (p ++ a :: s).length = p.length + s.length + 1 := by simp; omega
    have hls : (a :: s).length = s.length + 1 := rfl
    have c1 : (p.length : Int) < nn := by clear hrd; omega
    have c2 : 0 ≤ (p.length : Int) := Int.natCast_nonneg _
    have c3 : (p.length : Int) < (((p ++ a :: s).length : Nat) : Int) := by clear hrd; omega
    have c4 : 0 ≤ (a.length : Int) - 1 := by clear hrd; omega
    have c5 : (a.length : Int) - 1 < (a.length : Int) := by clear hrd; omega
    have el : (p ++ [a]).length = p.length + 1 := by simp
    have next := ih (p ++ [a]) (out ++ plOf n p.length a) nn (by rw [← e2]; exact hnn) (fun b hb => hs b (List.mem_cons_of_mem _ hb)) (by rw [← e2]; exact hl) (by simp; omega) (by rw [← e2, el, List.append_assoc]; exact h)
    rw [← e2, el] at next
    have et : Int.tmod ((p.length : Nat) : Int) 2 = ((p.length % 2 : Nat) : Int) := rfl
    have ew : wrap64 ((p.length : Int) + 1) = ((p.length + 1 : Nat) : Int) := i_up (by omega)
    have el1 : wrap64 ((a.length : Int) - 1) = (a.length : Int) - 1 := w64 (by omega)
    refine Ev.succ ?_
    simp only [spec_spPlaces.l0]
    simp only [if_pos c1, if_pos c2, if_pos c3, er, el1, hrd, if_pos c4, if_pos c5, et]
    unfold plOf at next
    by_cases hp : p.length % 2 = 0
    · rw [if_pos hp] at next
      have e1 : wrap64 (wrap64 (2 * (n : Int)) - 2) = ((2 * n - 2 : Nat) : Int) := by rw [w64 (n := 2 * (n : Int)) (by omega), w64 (by omega)]; omega
      simp only [hp, if_pos (show ((0 : Nat) : Int) = 0 by rfl), e1, spec_spWith_eq a _ (by omega), obind, if_pos (show out.length < 5864062014805 by omega), i_up (show lastN a ≤ 1099511627776 by omega)]
      refine spec_pl_up n hn  a (by omega) _ _ _ _ (2 * n - 3 - lastN a) (lastN a + 1) (out ++ [a ++ [((2 * n - 2 : Nat) : Int)]]) (by omega) (by simp; omega) ?_
      rw [ew]
      simpa using next
    · rw [if_neg hp] at next
      have e1 : wrap64 (wrap64 (2 * (n : Int)) - 3) = ((2 * n - 3 : Nat) : Int) := by rw [w64 (n := 2 * (n : Int)) (by omega), w64 (by omega)]; omega
      simp only [if_neg (show ¬ ((p.length % 2 : Nat) : Int) = 0 from fun h => hp (Int.natCast_eq_zero.1 h)), e1]
      refine spec_pl_dn n hn  a (by omega) _ _ _ (lastN a) (by omega) _ (2 * n - 3 - lastN a) (2 * n - 3) out (by omega) (by omega) (by omega) ?_
      rw [ew]
      exact next
theorem spec_spPlaces_ev (t : Nat) (h : t < 7) : Ev (fun k => spec_spPlaces.f k ((t + 1 : Nat) : Int)) (plG t) := by
  induction t with
  | zero => refine Ev.done fun k => ?_; simp only [spec_spPlaces.f]; rfl
  | succ t ih =>
    have h1 := ih (by omega)
    obtain ⟨_, g2, g3⟩ := plG_rows t (by omega)
    refine Ev.succ ?_
    simp only [spec_spPlaces.f, if_neg (show ¬ ((t + 1 + 1 : Nat) : Int) = 0 by omega), if_neg (show ¬ ((t + 1 + 1 : Nat) : Int) = 1 by omega), i_down (show t + 1 ≤ 1099511627776 by omega)]
    refine Ev.bind h1 ?_
    refine spec_pl_row (t + 2) (by omega) _ (plG t) [] [] _ rfl (fun a ha => List.all_eq_true.1 g3 a ha) (by simp; omega) (by simp; omega) ?_
    have e : [] ++ plS (t + 2) ([] : List (List Int)).length (plG t) = plG (t + 1) := rfl
    rw [e]
    simp only [spec_spPlaces.l0, List.nil_append, if_neg (show ¬ (((plG t).length : Nat) : Int) < ((plG t).length : Int) by omega)]
    exact Ev.now _
theorem spec_spOnes_loop (s : List Int) : ∀ (w p : List Int) (n i : Int), n = ((p ++ s).length : Int) → i = (p.length : Int) → (p ++ s).length ≤ 1000 → (∀ x ∈ s, 0 ≤ x ∧ x < (w.length : Int)) →
    Ev (fun k => spec_spOnes.l0 k w (p ++ s) n i) (onesF w s) := by
  induction s with
  | nil =>
    intro w p n i hn hi hl hs
    refine Ev.done fun k => ?_
    simp only [spec_spOnes.l0]
    rw [if_neg (by rw [len_nil] at hn; omega)]; rfl
  | cons x s ih =>
    intro w p n i hn hi hl hs
    have h1 := len_mid p s x
    have hx := hs x (List.mem_cons_self ..)
    have := ih (w.set x.toNat 1) (p ++ [x]) n (i + 1) (by rw [← snoc_mid]; exact hn) (by rw [len_snoc]; omega) (by rw [← snoc_mid]; exact hl) (fun y hy => by rw [List.length_set]; exact hs y (List.mem_cons_of_mem _ hy))
    rw [← snoc_mid] at this
    refine Ev.step' this fun k => ?_
    simp only [spec_spOnes.l0]
    rw [if_pos (by omega), if_pos (by omega), if_pos (by omega), rd_mid hi, if_pos hx.1, if_pos hx.2, w64 (by omega)]
theorem okO_at {n : Nat} {a : List Int} (h : okO n a = true) : a.length ≤ 100 ∧ ∀ x ∈ a, 0 ≤ x ∧ x < ((2 * n : Nat) : Int) := by
  unfold okO at h
  rw [Bool.and_eq_true, decide_eq_true_iff, List.all_eq_true] at h
  refine ⟨h.1, fun x hx => ?_⟩
  have := of_decide_eq_true (h.2 x hx)
  omega
theorem spec_spOnes_ev (n : Nat) (hn : n ≤ 20) (a : List Int) (h : okO n a = true) : Ev (fun k => spec_spOnes.f k (n : Int) a) (onesL n a) := by
  obtain ⟨h1, h2⟩ := okO_at h
  have e1 : wrap64 (2 * (n : Int)) = ((2 * n : Nat) : Int) := by rw [w64 (by omega)]; omega
  unfold spec_spOnes.f
  simp only [e1, if_pos (show 0 ≤ ((2 * n : Nat) : Int) by omega), Int.toNat_natCast, if_pos (show 2 * n ≤ 35184372088832 by omega)]
  exact spec_spOnes_loop a (List.replicate (2 * n) 0) [] _ 0 (by simp) (by simp) (by simp; omega) (fun x hx => by rw [List.length_replicate]; exact h2 x hx)
theorem spec_GrayBalanced_loop (n : Nat) (hn : n ≤ 20) (s : List (List Int)) : ∀ (p out : List (List Int)) (nn : Int), nn = ((p ++ s).length : Int) → (∀ a ∈ s, okO n a = true) → (p ++ s).length ≤ 1000 → out.length = p.length →
    Ev (fun k => spec_GrayBalanced.l0 k (n : Int) out (p ++ s) nn (p.length : Int)) (out ++ s.map (onesL n), true) := by
  induction s with
  | nil =>
    intro p out nn hnn hs hl ho
    refine Ev.to (Ev.done fun k => ?_) (show (out, true) = _ by simp)
    simp only [spec_GrayBalanced.l0]
    rw [if_neg (by rw [List.append_nil] at hnn; omega)]
  | cons a s ih =>
    intro p out nn hnn hs hl ho
    have h1 : (((p ++ a :: s).length : Nat) : Int) = p.length + s.length + 1 := by simp; omega
    have er : rd_L1 (p ++ a :: s) (p.length : Int) = a := by simp [rd_L1]
    have e2 : p ++ a :: s = (p ++ [a]) ++ s := by simp
    have hl2 : (p ++ a :: s).length = p.length + s.length + 1 := by simp; omega
    have el : (p ++ [a]).length = p.length + 1 := by simp
    have next := ih (p ++ [a]) (out ++ [onesL n a]) nn (by rw [← e2]; exact hnn) (fun b hb => hs b (List.mem_cons_of_mem _ hb)) (by rw [← e2]; exact hl) (by simp [ho])
    rw [← e2, el] at next
    refine Ev.succ ?_
    simp only [spec_GrayBalanced.l0]
    simp only [if_pos (show (p.length : Int) < nn by omega), if_pos (show 0 ≤ (p.length : Int) by omega), if_pos (show (p.length : Int) < (((p ++ a :: s).length : Nat) : Int) by omega), er]
    refine Ev.bind (spec_spOnes_ev n hn a (hs a (List.mem_cons_self ..))) ?_
    simp only [if_pos (show out.length < 5864062014805 by omega), i_up (show p.length ≤ 1099511627776 by omega)]
    refine Ev.to next (by simp)
theorem spec_GrayBalanced_ev (n : Int) : Ev (fun k => spec_GrayBalanced.f k n) (if inB n 0 7 = true then (balG n.toNat, true) else ([], false)) := by
  unfold spec_GrayBalanced.f
  simp only [spec_l1In_eq, obind]
  cases h : inB n 0 7 with
  | false => simp only [Bool.false_eq_true, if_false]; exact Ev.now _
  | true =>
    have h1 := inB_true.1 h
    obtain ⟨m, rfl⟩ : ∃ m : Nat, n = (m : Int) := ⟨n.toNat, by omega⟩
    simp only [if_true, Int.toNat_natCast]
    cases m with
    | zero =>
      have hp : Ev (fun k => spec_spPlaces.f k ((0 : Nat) : Int)) [[]] := Ev.done fun k => by simp only [spec_spPlaces.f]; rfl
      refine Ev.bind hp ?_
      exact spec_GrayBalanced_loop 0 (by omega) [[]] [] [] _ rfl (fun a ha => by rw [List.mem_singleton.1 ha]; rfl) (by simp) rfl
    | succ t =>
      obtain ⟨g1, g2, _⟩ := plG_rows t (by omega)
      refine Ev.bind (spec_spPlaces_ev t (by omega)) ?_
      exact spec_GrayBalanced_loop (t + 1) (by omega) (plG t) [] [] _ rfl (fun a ha => List.all_eq_true.1 g1 a ha) (by simp; omega) rfl
theorem impl_pl_up (n : Nat) (hn : 2 ≤ n ∧ n ≤ 20) (N : Int) (a : List Int) (ha : a.length ≤ 100) (rows : List (List Int)) (nn i : Int) (R : List (List Int) × Bool) (d : Nat) : ∀ (x : Nat) (out : List (List Int)), x + d = 2 * n - 2 → out.length + d ≤ 200000 →
    Ev (fun k => impl_GrayBalanced.l1 k N (n : Int) (out ++ upL a x d) rows nn (wrap64 (i + 1))) R → Ev (fun k => impl_GrayBalanced.l2 k N (n : Int) out a (x : Int) rows nn i) R := by
  have e1 : wrap64 (wrap64 (2 * (n : Int)) - 3) = ((2 * n - 3 : Nat) : Int) := by rw [w64 (n := 2 * (n : Int)) (by omega), w64 (by omega)]; omega
  induction d with
  | zero =>
    intro x out hx ho h
    refine Ev.succ ?_
    simp only [impl_GrayBalanced.l2, e1, if_neg (show ¬ (x : Int) ≤ ((2 * n - 3 : Nat) : Int) by omega)]
    simpa [upL] using h
  | succ d ih =>
    intro x out hx ho h
    refine Ev.succ ?_
    simp only [impl_GrayBalanced.l2, e1, if_pos (show (x : Int) ≤ ((2 * n - 3 : Nat) : Int) by omega), impl_put_eq a _ (by omega), obind, if_pos (show out.length < 5864062014805 by omega), i_up (show x ≤ 1099511627776 by omega)]
    refine ih (x + 1) (out ++ [a ++ [(x : Int)]]) (by omega) (by simp; omega) ?_
    simpa [upL] using h
theorem impl_pl_dn (n : Nat) (hn : 2 ≤ n ∧ n ≤ 20) (N : Int) (a : List Int) (ha : a.length ≤ 100) (rows : List (List Int)) (nn i : Int) (z : Nat) (hz : z ≤ 100) (R : List (List Int) × Bool) (d : Nat) : ∀ (x : Nat) (out : List (List Int)), x = z + d → x ≤ 1000 → out.length + d + 1 ≤ 200000 →
    Ev (fun k => impl_GrayBalanced.l1 k N (n : Int) (out ++ (dnL a x d ++ [a ++ [((2 * n - 2 : Nat) : Int)]])) rows nn (wrap64 (i + 1))) R → Ev (fun k => impl_GrayBalanced.l3 k N (n : Int) out a (z : Int) (x : Int) rows nn i) R := by
  have e1 : wrap64 (wrap64 (2 * (n : Int)) - 2) = ((2 * n - 2 : Nat) : Int) := by rw [w64 (n := 2 * (n : Int)) (by omega), w64 (by omega)]; omega
  have e2 : wrap64 ((z : Int) + 1) = (z : Int) + 1 := w64 (by omega)
  induction d with
  | zero =>
    intro x out hx hx2 ho h
    refine Ev.succ ?_
    simp only [impl_GrayBalanced.l3, e1, e2, if_neg (show ¬ (x : Int) ≥ (z : Int) + 1 by omega), impl_put_eq a _ (by omega), obind, if_pos (show out.length < 5864062014805 by omega)]
    simpa [dnL] using h
  | succ d ih =>
    intro x out hx hx2 ho h
    refine Ev.succ ?_
    obtain ⟨y, rfl⟩ : ∃ y, x = y + 1 := ⟨x - 1, by omega⟩
    simp only [impl_GrayBalanced.l3, e1, e2, if_pos (show ((y + 1 : Nat) : Int) ≥ (z : Int) + 1 by omega), impl_put_eq a _ (by omega), obind, if_pos (show out.length < 5864062014805 by omega), i_down (show y ≤ 1099511627776 by omega)]
    refine ih y (out ++ [a ++ [((y + 1 : Nat) : Int)]]) (by omega) (by omega) (by simp; omega) ?_
    simpa [dnL] using h
theorem impl_pl_row (n : Nat) (hn : 2 ≤ n ∧ n ≤ 20) (N : Int) (R : List (List Int) × Bool) (s : List (List Int)) : ∀ (p out : List (List Int)) (nn : Int), nn = ((p ++ s).length : Int) → (∀ a ∈ s, okP n a = true) → (p ++ s).length ≤ 1000 → out.length + 100 * s.length ≤ 190000 →
    (Ev (fun k => impl_GrayBalanced.l1 (k + 1) N (n : Int) (out ++ plS n p.length s) (p ++ s) nn ((p ++ s).length : Int)) R) → Ev (fun k => impl_GrayBalanced.l1 k N (n : Int) out (p ++ s) nn (p.length : Int)) R := by
  induction s with
  | nil =>
    intro p out nn hnn hs hl ho h
    refine Ev.succ ?_
    simpa [plS] using h
  | cons a s ih =>
    intro p out nn hnn hs hl ho h
    obtain ⟨hal, hz, hrd⟩ := okP_at (hs a (List.mem_cons_self ..))
    have hgl := plOf_len n p.length (by omega) a
    have h1 : (((p ++ a :: s).length : Nat) : Int) = p.length + s.length + 1 := by simp; omega
    have er : rd_L1 (p ++ a :: s) (p.length : Int) = a := by simp [rd_L1]
    have e2 : p ++ a :: s = (p ++ [a]) ++ s := by simp
    have hl2 : (p ++ a :: s).length = p.length + s.length + 1 := by simp; omega
    have hls : (a :: s).length = s.length + 1 := rfl
    have c1 : (p.length : Int) < nn := by clear hrd; omega
    have c2 : 0 ≤ (p.length : Int) := Int.natCast_nonneg _
    have c3 : (p.length : Int) < (((p ++ a :: s).length : Nat) : Int) := by clear hrd; omega
    have c4 : 0 ≤ (a.length : Int) - 1 := by clear hrd; omega
    have c5 : (a.length : Int) - 1 < (a.length : Int) := by clear hrd; omega
    have el : (p ++ [a]).length = p.length + 1 := by simp
    have next := ih (p ++ [a]) (out ++ plOf n p.length a) nn (by rw [← e2]; exact hnn) (fun b hb => hs b (List.mem_cons_of_mem _ hb)) (by rw [← e2]; exact hl) (by simp; omega) (by rw [← e2, el, List.append_assoc]; exact h)
    rw [← e2, el] at next
    have et : Int.tmod ((p.length : Nat) : Int) 2 = ((p.length % 2 : Nat) : Int) := rfl
    have ew : wrap64 ((p.length : Int) + 1) = ((p.length + 1 : Nat) : Int) := i_up (by omega)
    have el1 : wrap64 ((a.length : Int) - 1) = (a.length : Int) - 1 := w64 (by omega)
    refine Ev.succ ?_
    simp only [impl_GrayBalanced.l1]
    simp only [if_pos c1, if_pos c2, if_pos c3, er, el1, hrd, if_pos c4, if_pos c5, et]
    unfold plOf at next
    by_cases hp : p.length % 2 = 0
    · rw [if_pos hp] at next
      have e1 : wrap64 (wrap64 (2 * (n : Int)) - 2) = ((2 * n - 2 : Nat) : Int) := by rw [w64 (n := 2 * (n : Int)) (by omega), w64 (by omega)]; omega
      simp only [hp, if_pos (show ((0 : Nat) : Int) = 0 by rfl), e1, impl_put_eq a _ (by omega), obind, if_pos (show out.length < 5864062014805 by omega), i_up (show lastN a ≤ 1099511627776 by omega)]
      refine impl_pl_up n hn N a (by omega) _ _ _ _ (2 * n - 3 - lastN a) (lastN a + 1) (out ++ [a ++ [((2 * n - 2 : Nat) : Int)]]) (by omega) (by simp; omega) ?_
      rw [ew]
      simpa using next
    · rw [if_neg hp] at next
      have e1 : wrap64 (wrap64 (2 * (n : Int)) - 3) = ((2 * n - 3 : Nat) : Int) := by rw [w64 (n := 2 * (n : Int)) (by omega), w64 (by omega)]; omega
      simp only [if_neg (show ¬ ((p.length % 2 : Nat) : Int) = 0 from fun h => hp (Int.natCast_eq_zero.1 h)), e1]
      refine impl_pl_dn n hn N a (by omega) _ _ _ (lastN a) (by omega) _ (2 * n - 3 - lastN a) (2 * n - 3) out (by omega) (by omega) (by omega) ?_
      rw [ew]
      exact next
theorem impl_bitsOf_loop (s : List Int) : ∀ (w p : List Int) (n i : Int), n = ((p ++ s).length : Int) → i = (p.length : Int) → (p ++ s).length ≤ 1000 → (∀ x ∈ s, 0 ≤ x ∧ x < (w.length : Int)) →
    Ev (fun k => impl_bitsOf.l0 k w (p ++ s) n i) (onesF w s) := by
  induction s with
  | nil =>
    intro w p n i hn hi hl hs
    refine Ev.done fun k => ?_
    simp only [impl_bitsOf.l0]
    rw [if_neg (by rw [len_nil] at hn; omega)]; rfl
  | cons x s ih =>
    intro w p n i hn hi hl hs
    have h1 := len_mid p s x
    have hx := hs x (List.mem_cons_self ..)
    have := ih (w.set x.toNat 1) (p ++ [x]) n (i + 1) (by rw [← snoc_mid]; exact hn) (by rw [len_snoc]; omega) (by rw [← snoc_mid]; exact hl) (fun y hy => by rw [List.length_set]; exact hs y (List.mem_cons_of_mem _ hy))
    rw [← snoc_mid] at this
    refine Ev.step' this fun k => ?_
    simp only [impl_bitsOf.l0]
    rw [if_pos (by omega), if_pos (by omega), if_pos (by omega), rd_mid hi, if_pos hx.1, if_pos hx.2, w64 (by omega)]
theorem impl_bitsOf_ev (n : Nat) (hn : n ≤ 20) (a : List Int) (h : okO n a = true) : Ev (fun k => impl_bitsOf.f k ((2 * n : Nat) : Int) a) (onesL n a) := by
  obtain ⟨h1, h2⟩ := okO_at h
  unfold impl_bitsOf.f
  simp only [if_pos (show 0 ≤ ((2 * n : Nat) : Int) by omega), Int.toNat_natCast, if_pos (show 2 * n ≤ 35184372088832 by omega)]
  exact impl_bitsOf_loop a (List.replicate (2 * n) 0) [] _ 0 (by simp) (by simp) (by simp; omega) (fun x hx => by rw [List.length_replicate]; exact h2 x hx)
theorem impl_GrayBalanced_l4 (n : Nat) (hn : n ≤ 20) (s : List (List Int)) : ∀ (p out : List (List Int)) (nn : Int), nn = ((p ++ s).length : Int) → (∀ a ∈ s, okO n a = true) → (p ++ s).length ≤ 1000 → out.length = p.length →
    Ev (fun k => impl_GrayBalanced.l4 k (n : Int) out (p ++ s) nn (p.length : Int)) (out ++ s.map (onesL n), true) := by
  have e0 : wrap64 (2 * (n : Int)) = ((2 * n : Nat) : Int) := by rw [w64 (by omega)]; omega
  induction s with
  | nil =>
    intro p out nn hnn hs hl ho
    refine Ev.to (Ev.done fun k => ?_) (show (out, true) = _ by simp)
    simp only [impl_GrayBalanced.l4]
    rw [if_neg (by rw [List.append_nil] at hnn; omega)]
  | cons a s ih =>
    intro p out nn hnn hs hl ho
    have h1 : (((p ++ a :: s).length : Nat) : Int) = p.length + s.length + 1 := by simp; omega
    have er : rd_L1 (p ++ a :: s) (p.length : Int) = a := by simp [rd_L1]
    have e2 : p ++ a :: s = (p ++ [a]) ++ s := by simp
    have hl2 : (p ++ a :: s).length = p.length + s.length + 1 := by simp; omega
    have el : (p ++ [a]).length = p.length + 1 := by simp
    have next := ih (p ++ [a]) (out ++ [onesL n a]) nn (by rw [← e2]; exact hnn) (fun b hb => hs b (List.mem_cons_of_mem _ hb)) (by rw [← e2]; exact hl) (by simp [ho])
    rw [← e2, el] at next
    refine Ev.succ ?_
    simp only [impl_GrayBalanced.l4]
    simp only [if_pos (show (p.length : Int) < nn by omega), if_pos (show 0 ≤ (p.length : Int) by omega), if_pos (show (p.length : Int) < (((p ++ a :: s).length : Nat) : Int) by omega), er, e0]
    refine Ev.bind (impl_bitsOf_ev n hn a (hs a (List.mem_cons_self ..))) ?_
    simp only [if_pos (show out.length < 5864062014805 by omega), i_up (show p.length ≤ 1099511627776 by omega)]
    refine Ev.to next (by simp)
theorem impl_GrayBalanced_l0 (N : Nat) (hN : N < 7) (d : Nat) : ∀ t : Nat, t + d = N → Ev (fun k => impl_GrayBalanced.l0 k ((N + 1 : Nat) : Int) (plG t) ((t + 2 : Nat) : Int)) (balG (N + 1), true) := by
  induction d with
  | zero =>
    intro t ht
    have : t = N := by omega
    subst this
    obtain ⟨g1, g2, _⟩ := plG_rows t (by omega)
    refine Ev.succ ?_
    simp only [impl_GrayBalanced.l0, if_neg (show ¬ ((t + 2 : Nat) : Int) ≤ ((t + 1 : Nat) : Int) by omega)]
    exact impl_GrayBalanced_l4 (t + 1) (by omega) (plG t) [] [] _ rfl (fun a ha => List.all_eq_true.1 g1 a ha) (by simp; omega) rfl
  | succ d ih =>
    intro t ht
    obtain ⟨_, g2, g3⟩ := plG_rows t (by omega)
    refine Ev.succ ?_
    simp only [impl_GrayBalanced.l0, if_pos (show ((t + 2 : Nat) : Int) ≤ ((N + 1 : Nat) : Int) by omega)]
    refine impl_pl_row (t + 2) (by omega) _ _ (plG t) [] [] _ rfl (fun a ha => List.all_eq_true.1 g3 a ha) (by simp; omega) (by simp; omega) ?_
    have e : [] ++ plS (t + 2) ([] : List (List Int)).length (plG t) = plG (t + 1) := rfl
    rw [e]
    simp only [impl_GrayBalanced.l1, List.nil_append, if_neg (show ¬ (((plG t).length : Nat) : Int) < ((plG t).length : Int) by omega), i_up (show t + 2 ≤ 1099511627776 by omega)]
    exact ih (t + 1) (by omega)
theorem impl_GrayBalanced_ev (n : Int) : Ev (fun k => impl_GrayBalanced.f k n) (if inB n 0 7 = true then (balG n.toNat, true) else ([], false)) := by
  unfold impl_GrayBalanced.f
  simp only [impl_within_eq, obind]
  cases h : inB n 0 7 with
  | false => simp only [Bool.false_eq_true, if_false]; exact Ev.now _
  | true =>
    have h1 := inB_true.1 h
    obtain ⟨m, rfl⟩ : ∃ m : Nat, n = (m : Int) := ⟨n.toNat, by omega⟩
    simp only [if_true, Int.toNat_natCast]
    cases m with
    | zero => simp only [if_pos (show ((0 : Nat) : Int) = 0 by rfl)]; exact Ev.now _
    | succ t =>
      simp only [if_neg (show ¬ ((t + 1 : Nat) : Int) = 0 by omega)]
      exact impl_GrayBalanced_l0 t (by omega) t 0 (by omega)

set_option maxRecDepth 1000000 in
theorem balG_few_all : ((List.range 8).all fun n => decide ((balG n).length ≤ 1000) && (balG n).all fun a => decide (a.length ≤ 1000)) = true := by decide +kernel
theorem grayBalanced_few (n : Int) : rowsFew (if inB n 0 7 = true then (balG n.toNat, true) else ([], false) : List (List Int) × Bool).1 := by
  split
  · rename_i h
    have h1 := inB_true.1 h
    have h2 := List.all_eq_true.1 balG_few_all n.toNat (List.mem_range.2 (by omega))
    rw [Bool.and_eq_true, decide_eq_true_iff] at h2
    exact ⟨Nat.le_trans h2.1 (by omega), fun x hx => of_decide_eq_true (List.all_eq_true.1 h2.2 x hx)⟩
  · exact ⟨by simp, by simp⟩
theorem FnExactGrayBalanced_walk (a0 : Int) (w : World) : Calls Try.prog 6 #[.int .i64 a0] w fun e w' => e = .returned (.bool true) ∧ Below w.heap.size w w' := by
  have hs := spec_GrayBalanced_ev a0
  have hi := impl_GrayBalanced_ev a0
  have hf := grayBalanced_few a0
  generalize (if inB a0 0 7 = true then (balG a0.toNat, true) else ([], false) : List (List Int) × Bool) = R at hs hi hf
  obtain ⟨L, b⟩ := R
  obtain ⟨k, h1, h2, h3, h4, h5⟩ := exactRows hs hi hf
  exact laws_FnExactGrayBalanced.straight k a0 L _ b _ w h1 h2 h3 h4 (upRows_len L 1) h5 (by omega)

end Go.Proofs.Ythaplgbhhppniaa.Pure
