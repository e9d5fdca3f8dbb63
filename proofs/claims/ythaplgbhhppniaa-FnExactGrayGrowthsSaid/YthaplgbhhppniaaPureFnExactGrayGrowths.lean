/- The program's GrayGrowths returns what the reference's returns, for every whole number: the walk of the law. -/
import Derived.Test.YthaplgbhhppniaaHandFnExactGrayGrowths
import Derived.Test.YthaplgbhhppniaaCoreA
import Derived.Test.YthaplgbhhppniaaCoreG
import Derived.Test.YthaplgbhhppniaaCoreGG
namespace Go.Proofs.Ythaplgbhhppniaa.Pure
open Go.RowKit Go.Proofs.Ythaplgbhhppniaa.HFnExactGrayGrowths Go.Proofs.YthaplgbhhppniaaW.PrintWords Go.Proofs.YthaplgbhhppniaaW.PrintLast Go.Proofs.YthaplgbhhppniaaW.PrintMore Go.Proofs.Ythaplgbhhppniaa.Core
open Go.RowKit Go.Proofs.YthaplgbhhppniaaW.PrintWords Go.Proofs.YthaplgbhhppniaaW.PrintLast Go.Proofs.YthaplgbhhppniaaW.PrintMore
set_option linter.unusedVariables false
set_option linter.unusedSimpArgs false

theorem laws_eqIntS_loop (s : List Int) : ∀ (p q t : List Int) (i : Int), t.length = s.length → q.length = p.length → i = (p.length : Int) → (p ++ s).length ≤ 1099511627776 →
    Ev (fun k => laws_eqIntS.l0 k (p ++ s) (q ++ t) i) (decide (s = t)) := by
  induction s with
  | nil =>
    intro p q t i ht hq hi hl
    have ht0 : t = [] := List.eq_nil_of_length_eq_zero ht
    subst ht0
    refine Ev.done fun k => ?_
    simp only [laws_eqIntS.l0]
    rw [if_neg (by rw [len_nil]; omega)]
    simp
  | cons x s ih =>
    intro p q t i ht hq hi hl
    cases t with
    | nil => simp at ht
    | cons y t =>
      have ht' : t.length = s.length := by simpa using ht
      have h1 := len_mid p s x
      have h2 := len_mid q t y
      by_cases hxy : x = y
      · have := ih (p ++ [x]) (q ++ [y]) t (i + 1) ht' (by simp [hq]) (by rw [len_snoc]; omega) (by rw [← snoc_mid]; exact hl)
        rw [← snoc_mid, ← snoc_mid] at this
        refine Ev.to (Ev.step' this fun k => ?_) (by simp [hxy])
        simp only [laws_eqIntS.l0]
        rw [if_pos (by omega), if_pos (by omega), if_pos (by omega), rd_mid hi, rd_mid (by omega), if_pos hxy, w64 (by omega)]
      · refine Ev.to (Ev.done fun k => ?_) (show false = _ by simp [hxy])
        simp only [laws_eqIntS.l0]
        rw [if_pos (by omega), if_pos (by omega), if_pos (by omega), rd_mid hi, rd_mid (by omega), if_neg hxy]
theorem laws_eqIntS_ev (l t : List Int) (hl : l.length ≤ 1099511627776) : Ev (fun k => laws_eqIntS.f k l t) (decide (l = t)) := by
  by_cases h : l.length = t.length
  · have := laws_eqIntS_loop l [] [] t 0 h.symm rfl (by simp) (by simpa using hl)
    simp only [List.nil_append] at this
    refine Ev.congr (fun k => ?_) this
    unfold laws_eqIntS.f
    rw [if_pos (by omega)]
  · refine Ev.to (Ev.congr (fun k => ?_) (Ev.now false)) (by rw [decide_eq_false]; exact fun e => h (by rw [e]))
    unfold laws_eqIntS.f
    rw [if_neg (by omega)]

theorem laws_markIntS_loop (s : List Int) : ∀ (p : List Int) (m i : Int), 0 ≤ m → m + s.length ≤ 1099511627776 → i = (p.length : Int) → (p ++ s).length ≤ 1099511627776 →
    Ev (fun k => laws_markIntS.l0 k (p ++ s) m i) (m + s.length, p ++ upFrom m s.length) := by
  induction s with
  | nil =>
    intro p m i hm hm' hi hl
    refine Ev.to (Ev.done fun k => ?_) (show (m, p ++ []) = _ by simp [upFrom])
    simp only [laws_markIntS.l0]
    rw [if_neg (by rw [len_nil]; omega)]
  | cons x s ih =>
    intro p m i hm hm' hi hl
    have h1 := len_mid p s x
    have h2 : (((x :: s).length : Nat) : Int) = s.length + 1 := by simp
    have h3 : (p ++ m :: s).length = (p ++ x :: s).length := by simp
    have := ih (p ++ [m]) (m + 1) (i + 1) (by omega) (by omega) (by rw [len_snoc]; omega) (by rw [← snoc_mid, h3]; exact hl)
    rw [← snoc_mid] at this
    refine Ev.to (Ev.step' this fun k => ?_) (by rw [h2, ← snoc_mid]; simp only [List.length_cons, upFrom]; congr 1; omega)
    simp only [laws_markIntS.l0]
    rw [if_pos (by omega), if_pos (by omega), set_mid hi, w64 (by omega), w64 (by omega)]
theorem laws_markIntS_ev (l : List Int) (hl : l.length ≤ 109951162777) : Ev (fun k => laws_markIntS.f k l 1) (1 + l.length, upFrom 1 l.length) :=
  laws_markIntS_loop l [] 1 0 (by omega) (by omega) (by simp) (by simp; omega)

theorem laws_heldIntS_loop (n : Nat) : ∀ (p : List Int) (m i : Int), 0 ≤ m → m + n ≤ 1099511627776 → i = (p.length : Int) → p.length + n ≤ 1099511627776 →
    Ev (fun k => laws_heldIntS.l0 k (p ++ upFrom m n) m i) (m + n) := by
  induction n with
  | zero =>
    intro p m i hm hm' hi hl
    show Ev (fun k => laws_heldIntS.l0 k (p ++ []) m i) _
    refine Ev.to (Ev.done fun k => ?_) (show m = _ by simp)
    simp only [laws_heldIntS.l0]
    rw [if_neg (by rw [len_nil]; omega)]
  | succ n ih =>
    intro p m i hm hm' hi hl
    have h1 := len_mid p (upFrom (m + 1) n) m
    have := ih (p ++ [m]) (m + 1) (i + 1) (by omega) (by omega) (by rw [len_snoc]; omega) (by rw [List.length_append]; simp; omega)
    rw [← snoc_mid] at this
    show Ev (fun k => laws_heldIntS.l0 k (p ++ m :: upFrom (m + 1) n) m i) _
    refine Ev.to (Ev.step' this fun k => ?_) (by omega)
    simp only [laws_heldIntS.l0]
    rw [if_pos (by omega), if_pos (by omega), rd_mid hi, if_pos rfl, w64 (by omega), w64 (by omega)]
theorem laws_heldIntS_ev (n : Nat) (hn : n ≤ 109951162777) : Ev (fun k => laws_heldIntS.f k (upFrom 1 n) 1) (1 + n) :=
  laws_heldIntS_loop n [] 1 0 (by omega) (by omega) (by simp) (by simp; omega)

theorem laws_eqIntSS_loop (s : List (List Int)) : ∀ (p : List (List Int)) (i : Int), i = (p.length : Int) → (p ++ s).length ≤ 1073741824 → (∀ x ∈ s, x.length ≤ 1073741824) →
    Ev (fun k => laws_eqIntSS.l0 k (p ++ s) (p ++ s) i) true := by
  induction s with
  | nil =>
    intro p i hi hl hs
    refine Ev.done fun k => ?_
    simp only [laws_eqIntSS.l0]
    rw [if_neg (by rw [List.append_nil]; omega)]
  | cons x s ih =>
    intro p i hi hl hs
    have h1 : (((p ++ x :: s).length : Nat) : Int) = p.length + s.length + 1 := by simp; omega
    have er : rd_L1 (p ++ x :: s) i = x := by subst hi; simp [rd_L1]
    have e2 : p ++ x :: s = (p ++ [x]) ++ s := by simp
    have := ih (p ++ [x]) (i + 1) (by simp; omega) (by rw [← e2]; exact hl) (fun y hy => hs y (List.mem_cons_of_mem _ hy))
    rw [← e2] at this
    refine Ev.succ ?_
    simp only [laws_eqIntSS.l0]
    simp only [if_pos (show 0 ≤ i by omega), if_pos (show i < (((p ++ x :: s).length : Nat) : Int) by omega), er, show wrap64 (i + 1) = i + 1 from w64 (by omega)]
    refine Ev.bind (laws_eqIntS_ev x x (by have := hs x (List.mem_cons_self ..); omega)) ?_
    simp only [decide_true, if_true]
    exact this
theorem laws_eqIntSS_self (l : List (List Int)) (hl : l.length ≤ 1073741824) (hs : ∀ x ∈ l, x.length ≤ 1073741824) : Ev (fun k => laws_eqIntSS.f k l l) true := by
  unfold laws_eqIntSS.f
  simp only [if_true]
  exact laws_eqIntSS_loop l [] 0 (by simp) (by simpa using hl) hs

/-- How many numbers stand in the rows. -/
def sumLen : List (List Int) → Nat
  | [] => 0
  | x :: s => x.length + sumLen s
/-- The rows with the numbers m, m + 1, .. written over them. -/
def upRows (m : Nat) : List (List Int) → List (List Int)
  | [] => []
  | x :: s => upFrom (m : Int) x.length :: upRows (m + x.length) s
theorem upRows_len (L : List (List Int)) : ∀ m, (upRows m L).length = L.length := by
  induction L with
  | nil => intro m; rfl
  | cons x s ih => intro m; simp [upRows, ih]
theorem laws_markIntSS_loop (s : List (List Int)) : ∀ (p : List (List Int)) (m : Nat) (i : Int), i = (p.length : Int) → (p ++ s).length ≤ 1073741824 → m + sumLen s ≤ 1073741824 →
    Ev (fun k => laws_markIntSS.l0 k (p ++ s) (m : Int) i) (((m + sumLen s : Nat) : Int), p ++ upRows m s) := by
  induction s with
  | nil =>
    intro p m i hi hl hs
    refine Ev.to (Ev.done fun k => ?_) (show ((m : Int), p ++ []) = _ by simp [upRows, sumLen])
    simp only [laws_markIntSS.l0]
    rw [if_neg (by rw [List.append_nil]; omega)]
  | cons x s ih =>
    intro p m i hi hl hs
    have h1 : (((p ++ x :: s).length : Nat) : Int) = p.length + s.length + 1 := by simp; omega
    have er : rd_L1 (p ++ x :: s) i = x := by subst hi; simp [rd_L1]
    have e2 : ∀ y : List Int, p ++ y :: s = (p ++ [y]) ++ s := fun y => by simp
    have es : sumLen (x :: s) = x.length + sumLen s := rfl
    have hlen : ((p ++ [upFrom (m : Int) x.length]) ++ s).length ≤ 1073741824 := by simp at hl ⊢; omega
    have := ih (p ++ [upFrom (m : Int) x.length]) (m + x.length) (i + 1) (by simp; omega) hlen (by omega)
    rw [← e2] at this
    refine Ev.succ ?_
    simp only [laws_markIntSS.l0]
    simp only [if_pos (show 0 ≤ i by omega), if_pos (show i < (((p ++ x :: s).length : Nat) : Int) by omega), er, show wrap64 (i + 1) = i + 1 from w64 (by omega)]
    have hM : Ev (fun k => laws_markIntS.f k x (m : Int)) (((m + x.length : Nat) : Int), upFrom (m : Int) x.length) := by
      have := laws_markIntS_loop x [] (m : Int) 0 (by omega) (by omega) (by simp) (by simp; omega)
      refine Ev.to this ?_
      simp
    refine Ev.bind hM ?_
    simp only [set_mid hi]
    refine Ev.to this ?_
    simp only [es, upRows]
    congr 1
    · omega
    · simp
theorem laws_markIntSS_ev (l : List (List Int)) (hl : l.length ≤ 1073741824) (hs : 1 + sumLen l ≤ 1073741824) : Ev (fun k => laws_markIntSS.f k l 1) (((1 + sumLen l : Nat) : Int), upRows 1 l) :=
  laws_markIntSS_loop l [] 1 0 (by simp) (by simpa using hl) hs
theorem laws_heldIntSS_loop (s : List (List Int)) : ∀ (p : List (List Int)) (m : Nat) (i : Int), i = (p.length : Int) → p.length + s.length ≤ 1073741824 → m + sumLen s ≤ 1073741824 →
    Ev (fun k => laws_heldIntSS.l0 k (p ++ upRows m s) (m : Int) i) ((m + sumLen s : Nat) : Int) := by
  induction s with
  | nil =>
    intro p m i hi hl hs
    refine Ev.to (Ev.done fun k => ?_) (show (m : Int) = _ by simp [sumLen])
    have e : ¬ i < (((p ++ upRows m []).length : Nat) : Int) := by simp [upRows]; omega
    simp only [laws_heldIntSS.l0]
    simp only [if_neg e]
  | cons x s ih =>
    intro p m i hi hl hs
    have hl' : p.length + s.length + 1 ≤ 1073741824 := by simp at hl; omega
    have h1 : (((p ++ upRows m (x :: s)).length : Nat) : Int) = p.length + s.length + 1 := by simp [upRows_len]; omega
    have er : rd_L1 (p ++ upRows m (x :: s)) i = upFrom (m : Int) x.length := by subst hi; simp [rd_L1, upRows]
    have es : sumLen (x :: s) = x.length + sumLen s := rfl
    have := ih (p ++ [upFrom (m : Int) x.length]) (m + x.length) (i + 1) (by simp; omega) (by simp; omega) (by omega)
    have e2 : (p ++ [upFrom (m : Int) x.length]) ++ upRows (m + x.length) s = p ++ upRows m (x :: s) := by simp [upRows]
    rw [e2] at this
    refine Ev.succ ?_
    simp only [laws_heldIntSS.l0]
    simp only [if_pos (show 0 ≤ i by omega), if_pos (show i < (((p ++ upRows m (x :: s)).length : Nat) : Int) by omega), er, show wrap64 (i + 1) = i + 1 from w64 (by omega)]
    have hH : Ev (fun k => laws_heldIntS.f k (upFrom (m : Int) x.length) (m : Int)) ((m + x.length : Nat) : Int) := by
      have := laws_heldIntS_loop x.length [] (m : Int) 0 (by omega) (by omega) (by simp) (by simp; omega)
      rw [List.nil_append] at this
      refine Ev.to this ?_
      omega
    refine Ev.bind hH ?_
    simp only [if_neg (show ¬ ((m + x.length : Nat) : Int) < 0 by omega)]
    refine Ev.to this ?_
    rw [es]; omega
theorem laws_heldIntSS_ev (l : List (List Int)) (hl : l.length ≤ 1073741824) (hs : 1 + sumLen l ≤ 1073741824) : Ev (fun k => laws_heldIntSS.f k (upRows 1 l) 1) ((1 + sumLen l : Nat) : Int) := by
  have := laws_heldIntSS_loop l [] 1 0 (by simp) (by simpa using hl) hs
  exact this
/-- Rows of few numbers. -/
def rowsFew (L : List (List Int)) : Prop := L.length ≤ 1048576 ∧ ∀ x ∈ L, x.length ≤ 1000
theorem sumLen_le (L : List (List Int)) (h : ∀ x ∈ L, x.length ≤ 1000) : sumLen L ≤ L.length * 1000 := by
  induction L with
  | nil => simp [sumLen]
  | cons x s ih =>
    have h1 := h x (List.mem_cons_self ..)
    have h2 := ih fun y hy => h y (List.mem_cons_of_mem _ hy)
    simp only [sumLen, List.length_cons]; omega
theorem rowsFew_sum {L : List (List Int)} (h : rowsFew L) : 1 + sumLen L ≤ 1073741824 := by
  have h1 := sumLen_le L h.2
  have h2 := h.1
  omega
/-- What the law's straight walk asks of its calls: all at one number of rounds. -/
theorem exactRows {S I : Nat → Option (List (List Int) × Bool)} {L : List (List Int)} {b : Bool} (hs : Ev S (L, b)) (hi : Ev I (L, b)) (hf : rowsFew L) :
    ∃ k, S k = some (L, b) ∧ I k = some (L, b) ∧ laws_eqIntSS.f k L L = some true ∧ laws_markIntSS.f k L 1 = some (((1 + sumLen L : Nat) : Int), upRows 1 L) ∧ laws_heldIntSS.f k (upRows 1 L) 1 = some ((1 + sumLen L : Nat) : Int) := by
  have h1 := rowsFew_sum hf
  have h2 := hf.1
  obtain ⟨k1, hs⟩ := hs
  obtain ⟨k2, hi⟩ := hi
  obtain ⟨k3, he⟩ := laws_eqIntSS_self L (by omega) (fun x hx => Nat.le_trans (hf.2 x hx) (by omega))
  obtain ⟨k4, hm⟩ := laws_markIntSS_ev L (by omega) h1
  obtain ⟨k5, hh⟩ := laws_heldIntSS_ev L (by omega) h1
  refine ⟨k1 + k2 + k3 + k4 + k5, hs _ (by omega), hi _ (by omega), he _ (by omega), hm _ (by omega), hh _ (by omega)⟩

theorem spec_l1Most_eq (a b : Int) : spec_l1Most.f a b = some (max a b) := most_max a b

theorem spec_spTop_loop (s : List Int) : ∀ (p : List Int) (m n i : Int), n = ((p ++ s).length : Int) → i = (p.length : Int) → (p ++ s).length ≤ 1099511627776 →
    Ev (fun k => spec_spTop.l0 k m (p ++ s) n i) (s.foldl max m) := by
  induction s with
  | nil =>
    intro p m n i hn hi hl
    refine Ev.to (Ev.done fun k => ?_) (show m = _ by simp)
    simp only [spec_spTop.l0]
    rw [if_neg (by rw [len_nil] at hn; omega)]
  | cons x s ih =>
    intro p m n i hn hi hl
    have h1 := len_mid p s x
    have := ih (p ++ [x]) (max m x) n (i + 1) (by rw [← snoc_mid]; exact hn) (by rw [len_snoc]; omega) (by rw [← snoc_mid]; exact hl)
    rw [← snoc_mid] at this
    refine Ev.to (Ev.step' this fun k => ?_) (by simp)
    simp only [spec_spTop.l0]
    rw [if_pos (by omega), if_pos (by omega), if_pos (by omega), rd_mid hi, spec_l1Most_eq, w64 (by omega)]
    rfl
theorem spec_spTop_ev (l : List Int) (hl : l.length ≤ 1099511627776) : Ev (fun k => spec_spTop.f k l) (l.foldl max (-1)) :=
  spec_spTop_loop l [] (-1) _ 0 rfl (by simp) (by simpa using hl)

theorem spec_l1In_eq (a b c : Int) : spec_l1In.f a b c = some (inB a b c) := inB_ite a b c

theorem impl_within_eq (a b c : Int) : impl_within.f a b c = some (inB a b c) := inB_ite a b c

theorem impl_copied_eq (l : List Int) (hl : l.length ≤ 1000000) : impl_copied.f l = some l := by
  unfold impl_copied.f
  rw [obind, if_pos (by simp; omega), List.nil_append]

theorem spec_spWith_eq (l : List Int) (x : Int) (hl : l.length ≤ 1000) : spec_spWith.f l x = some (l ++ [x]) := by
  unfold spec_spWith.f
  have h : spec_l1Own.f l = some l := by
    unfold spec_l1Own.f
    rw [obind, if_pos (by simp; omega), List.nil_append]
  rw [h, obind, if_pos (by omega)]
theorem impl_put_eq (l : List Int) (x : Int) (hl : l.length ≤ 1000) : impl_put.f l x = some (l ++ [x]) := by
  unfold impl_put.f
  rw [impl_copied_eq l (by omega), obind, if_pos (by omega)]
theorem topL_in {a : List Int} (h : okRow a = true) : 0 ≤ topL a ∧ topL a ≤ 100 := by
  unfold okRow at h
  rw [Bool.and_eq_true, decide_eq_true_iff, List.all_eq_true] at h
  obtain ⟨⟨h1, h2⟩, h3⟩ := h
  have key : ∀ (s : List Int) (m : Int), -1 ≤ m → m ≤ 100 → (∀ x ∈ s, inB x 0 100 = true) → m ≤ s.foldl max m ∧ s.foldl max m ≤ 100 := by
    intro s
    induction s with
    | nil => intro m _ _ _; simp only [List.foldl_nil]; omega
    | cons x s ih =>
      intro m hm hm2 hs
      have hx := inB_true.1 (hs x (List.mem_cons_self ..))
      have := ih (max m x) (by omega) (by omega) (fun y hy => hs y (List.mem_cons_of_mem _ hy))
      simp only [List.foldl_cons]; omega
  obtain ⟨x, s, rfl⟩ : ∃ x s, a = x :: s := by
    cases a with
    | nil => simp at h1
    | cons x s => exact ⟨x, s, rfl⟩
  have hx := inB_true.1 (h3 x (List.mem_cons_self ..))
  have := key s (max (-1) x) (by omega) (by omega) (fun y hy => h3 y (List.mem_cons_of_mem _ hy))
  unfold topL
  simp only [List.foldl_cons]; omega
theorem okRow_len {a : List Int} (h : okRow a = true) : 1 ≤ a.length ∧ a.length ≤ 100 := by
  unfold okRow at h
  rw [Bool.and_eq_true, decide_eq_true_iff] at h
  exact h.1
theorem slices_Max_loop (s : List Int) : ∀ (p : List Int) (m i : Int), i = (p.length : Int) → (p ++ s).length ≤ 1000 → Ev (fun k => slices_Max_int_int.l0 k (p ++ s) m i) (s.foldl max m) := by
  induction s with
  | nil =>
    intro p m i hi hl
    refine Ev.done fun k => ?_
    simp only [slices_Max_int_int.l0]
    rw [if_neg (by rw [len_nil]; omega)]; rfl
  | cons x s ih =>
    intro p m i hi hl
    have h1 := len_mid p s x
    have := ih (p ++ [x]) (max m x) (i + 1) (by rw [len_snoc]; omega) (by rw [← snoc_mid]; exact hl)
    rw [← snoc_mid] at this
    refine Ev.step' this fun k => ?_
    simp only [slices_Max_int_int.l0]
    rw [if_pos (by omega), if_pos (by omega), rd_mid hi, mx_max, w64 (by omega)]
theorem slices_Max_ev (a : List Int) (h : okRow a = true) : Ev (fun k => slices_Max_int_int.f k a) (topL a) := by
  have hl := okRow_len h
  unfold okRow at h
  rw [Bool.and_eq_true, List.all_eq_true] at h
  obtain ⟨x, s, rfl⟩ : ∃ x s, a = x :: s := by
    cases a with
    | nil => simp at hl
    | cons x s => exact ⟨x, s, rfl⟩
  have hx := inB_true.1 (h.2 x (List.mem_cons_self ..))
  have hl2 : (((x :: s).length : Nat) : Int) = s.length + 1 := by simp
  unfold slices_Max_int_int.f
  simp only [if_neg (show ¬ (((x :: s).length : Nat) : Int) < 1 by omega), if_pos (show 0 < (((x :: s).length : Nat) : Int) by omega)]
  have := slices_Max_loop s [x] x 1 rfl (by simp at hl ⊢; omega)
  refine Ev.to this ?_
  unfold topL
  rw [List.foldl_cons, show max (-1) x = x by omega]
theorem spec_grays_l1 (a : List Int) (ha : a.length ≤ 100) (rows : List (List Int)) (n i : Int) (R : List (List Int)) (x : Nat) : ∀ out : List (List Int), out.length + x ≤ 200000 → x ≤ 1000 →
    Ev (fun k => spec_spGrays.l0 k (out ++ downL a x) rows n (wrap64 (i + 1))) R → Ev (fun k => spec_spGrays.l1 k out a (x : Int) rows n i) R := by
  induction x with
  | zero =>
    intro out ho hx h
    refine Ev.succ ?_
    simp only [spec_spGrays.l1, if_neg (show ¬ ((0 : Nat) : Int) ≥ 1 by omega)]
    simpa [downL] using h
  | succ x ih =>
    intro out ho hx h
    refine Ev.succ ?_
    simp only [spec_spGrays.l1, if_pos (show ((x + 1 : Nat) : Int) ≥ 1 by omega), spec_spWith_eq a _ (by omega), obind, if_pos (show out.length < 5864062014805 by omega), i_down (show x ≤ 1099511627776 by omega)]
    refine ih (out ++ [a ++ [((x + 1 : Nat) : Int)]]) (by simp; omega) (by omega) ?_
    simpa [downL] using h
theorem spec_grays_l2 (a : List Int) (ha : a.length ≤ 100) (rows : List (List Int)) (n i m : Int) (hm : 0 ≤ m ∧ m ≤ 1000) (R : List (List Int)) (d : Nat) : ∀ (x : Nat) (out : List (List Int)), (x : Int) + d = m + 2 → out.length + d + 1 ≤ 200000 →
    Ev (fun k => spec_spGrays.l0 k (out ++ (upL a x d ++ [a ++ [0]])) rows n (wrap64 (i + 1))) R → Ev (fun k => spec_spGrays.l2 k out a m (x : Int) rows n i) R := by
  have em : wrap64 (m + 1) = m + 1 := w64 (by omega)
  induction d with
  | zero =>
    intro x out hx ho h
    refine Ev.succ ?_
    simp only [spec_spGrays.l2, em, if_neg (show ¬ (x : Int) ≤ m + 1 by omega), spec_spWith_eq a _ (by omega), obind, if_pos (show out.length < 5864062014805 by omega)]
    simpa [upL] using h
  | succ d ih =>
    intro x out hx ho h
    refine Ev.succ ?_
    simp only [spec_spGrays.l2, em, if_pos (show (x : Int) ≤ m + 1 by omega), spec_spWith_eq a _ (by omega), obind, if_pos (show out.length < 5864062014805 by omega), i_up (show x ≤ 1099511627776 by omega)]
    refine ih (x + 1) (out ++ [a ++ [(x : Int)]]) (by omega) (by simp; omega) ?_
    simpa [upL] using h
theorem grayOf_len (i : Nat) {a : List Int} (h : okRow a = true) : (grayOf i a).length ≤ 200 := by
  have := topL_in h
  unfold grayOf
  split
  · simp [downL_len]; omega
  · simp [upL_len]; omega
theorem spec_grays_l0 (s : List (List Int)) : ∀ (p out : List (List Int)) (n : Int), n = ((p ++ s).length : Int) → (∀ a ∈ s, okRow a = true) → (p ++ s).length ≤ 1000 → out.length + 200 * s.length ≤ 190000 →
    Ev (fun k => spec_spGrays.l0 k out (p ++ s) n (p.length : Int)) (out ++ grayS p.length s) := by
  induction s with
  | nil =>
    intro p out n hn hs hl ho
    refine Ev.to (Ev.done fun k => ?_) (show out = _ by simp [grayS])
    simp only [spec_spGrays.l0]
    rw [if_neg (by rw [List.append_nil] at hn; omega)]
  | cons a s ih =>
    intro p out n hn hs hl ho
    have ha := hs a (List.mem_cons_self ..)
    have ht := topL_in ha
    have hal := okRow_len ha
    have hgl := grayOf_len p.length ha
    have h1 : (((p ++ a :: s).length : Nat) : Int) = p.length + s.length + 1 := by simp; omega
    have er : rd_L1 (p ++ a :: s) (p.length : Int) = a := by simp [rd_L1]
    have e2 : p ++ a :: s = (p ++ [a]) ++ s := by simp
    have hl2 : (p ++ a :: s).length = p.length + s.length + 1 := by simp; omega
    have hls : (a :: s).length = s.length + 1 := rfl
    have hsp := spec_spTop_ev a (by omega)
    have next := ih (p ++ [a]) (out ++ grayOf p.length a) n (by rw [← e2]; exact hn) (fun b hb => hs b (List.mem_cons_of_mem _ hb)) (by rw [← e2]; exact hl) (by simp; omega)
    rw [← e2, List.append_assoc] at next
    have el : (p ++ [a]).length = p.length + 1 := by simp
    rw [el] at next
    have et : Int.tmod ((p.length : Nat) : Int) 2 = ((p.length % 2 : Nat) : Int) := rfl
    refine Ev.succ ?_
    simp only [spec_spGrays.l0]
    simp only [if_pos (show (p.length : Int) < n by omega), if_pos (show 0 ≤ (p.length : Int) by omega), if_pos (show (p.length : Int) < (((p ++ a :: s).length : Nat) : Int) by omega), er]
    refine Ev.bind hsp ?_
    have e4 : a.foldl max (-1) = topL a := rfl
    rw [e4, et]
    obtain ⟨m, hm⟩ : ∃ m : Nat, topL a = (m : Int) := ⟨(topL a).toNat, by omega⟩
    have ew : wrap64 ((p.length : Int) + 1) = ((p.length + 1 : Nat) : Int) := i_up (by omega)
    show Ev _ (out ++ (grayOf p.length a ++ grayS (p.length + 1) s))
    unfold grayOf at next ⊢
    by_cases hp : p.length % 2 = 0
    · rw [if_pos hp] at next ⊢
      simp only [hp, if_pos (show ((0 : Nat) : Int) = 0 by rfl), spec_spWith_eq a 0 (by omega), obind, if_pos (show out.length < 5864062014805 by omega)]
      have e5 : wrap64 (topL a + 1) = (((topL a + 1).toNat : Nat) : Int) := by rw [w64 (by omega)]; omega
      rw [e5]
      refine spec_grays_l1 a (by omega) _ _ _ _ _ (out ++ [a ++ [0]]) (by simp; omega) (by omega) ?_
      rw [ew]
      simpa using next
    · rw [if_neg hp] at next ⊢
      simp only [if_neg (show ¬ ((p.length % 2 : Nat) : Int) = 0 from fun h => hp (Int.natCast_eq_zero.1 h))]
      refine spec_grays_l2 a (by omega) _ _ _ (topL a) (by omega) _ ((topL a + 1).toNat) 1 out (by omega) (by omega) ?_
      rw [ew]
      simpa using next
theorem spec_spGrays_ev (n : Nat) (h : n < 7) : Ev (fun k => spec_spGrays.f k ((n + 1 : Nat) : Int)) (gray n) := by
  induction n with
  | zero => refine Ev.done fun k => ?_; simp only [spec_spGrays.f]; rfl
  | succ n ih =>
    have h1 := ih (by omega)
    obtain ⟨g1, _, g3⟩ := gray_rows n (by omega)
    refine Ev.succ ?_
    simp only [spec_spGrays.f, if_neg (show ¬ ((n + 1 + 1 : Nat) : Int) = 1 by omega), i_down (show n + 1 ≤ 1099511627776 by omega)]
    refine Ev.bind h1 ?_
    have := spec_grays_l0 (gray n) [] [] _ rfl (fun a ha => List.all_eq_true.1 g1 a ha) (by simp; omega) (by simp; omega)
    exact this
theorem spec_GrayGrowths_ev (n : Int) : Ev (fun k => spec_GrayGrowths.f k n) (if inB n 1 7 = true then (gray (n.toNat - 1), true) else ([], false)) := by
  unfold spec_GrayGrowths.f
  simp only [spec_l1In_eq, obind]
  cases h : inB n 1 7 with
  | false => simp only [Bool.false_eq_true, if_false]; exact Ev.now _
  | true =>
    have h1 := inB_true.1 h
    obtain ⟨m, rfl⟩ : ∃ m : Nat, n = ((m + 1 : Nat) : Int) := ⟨(n - 1).toNat, by omega⟩
    simp only [if_true, Int.toNat_natCast, Nat.add_sub_cancel]
    refine Ev.bind (spec_spGrays_ev m (by omega)) ?_
    exact Ev.now _
theorem impl_grays_l2 (a : List Int) (ha : a.length ≤ 100) (N t : Int) (rows : List (List Int)) (n i : Int) (R : List (List Int) × Bool) (x : Nat) : ∀ out : List (List Int), out.length + x ≤ 200000 → x ≤ 1000 →
    Ev (fun k => impl_GrayGrowths.l1 k (out ++ downL a x) N t rows n (wrap64 (i + 1))) R → Ev (fun k => impl_GrayGrowths.l2 k out a (x : Int) N t rows n i) R := by
  induction x with
  | zero =>
    intro out ho hx h
    refine Ev.succ ?_
    simp only [impl_GrayGrowths.l2, if_neg (show ¬ ((0 : Nat) : Int) ≥ 1 by omega)]
    simpa [downL] using h
  | succ x ih =>
    intro out ho hx h
    refine Ev.succ ?_
    simp only [impl_GrayGrowths.l2, if_pos (show ((x + 1 : Nat) : Int) ≥ 1 by omega), impl_put_eq a _ (by omega), obind, if_pos (show out.length < 5864062014805 by omega), i_down (show x ≤ 1099511627776 by omega)]
    refine ih (out ++ [a ++ [((x + 1 : Nat) : Int)]]) (by simp; omega) (by omega) ?_
    simpa [downL] using h
theorem impl_grays_l3 (a : List Int) (ha : a.length ≤ 100) (N t : Int) (rows : List (List Int)) (n i m : Int) (hm : 0 ≤ m ∧ m ≤ 1000) (R : List (List Int) × Bool) (d : Nat) : ∀ (x : Nat) (out : List (List Int)), (x : Int) + d = m + 2 → out.length + d + 1 ≤ 200000 →
    Ev (fun k => impl_GrayGrowths.l1 k (out ++ (upL a x d ++ [a ++ [0]])) N t rows n (wrap64 (i + 1))) R → Ev (fun k => impl_GrayGrowths.l3 k out a m (x : Int) N t rows n i) R := by
  have em : wrap64 (m + 1) = m + 1 := w64 (by omega)
  induction d with
  | zero =>
    intro x out hx ho h
    refine Ev.succ ?_
    simp only [impl_GrayGrowths.l3, em, if_neg (show ¬ (x : Int) ≤ m + 1 by omega), impl_put_eq a _ (by omega), obind, if_pos (show out.length < 5864062014805 by omega)]
    simpa [upL] using h
  | succ d ih =>
    intro x out hx ho h
    refine Ev.succ ?_
    simp only [impl_GrayGrowths.l3, em, if_pos (show (x : Int) ≤ m + 1 by omega), impl_put_eq a _ (by omega), obind, if_pos (show out.length < 5864062014805 by omega), i_up (show x ≤ 1099511627776 by omega)]
    refine ih (x + 1) (out ++ [a ++ [(x : Int)]]) (by omega) (by simp; omega) ?_
    simpa [upL] using h
theorem impl_grays_l1 (N t : Int) (R : List (List Int) × Bool) (s : List (List Int)) : ∀ (p out : List (List Int)) (n : Int), n = ((p ++ s).length : Int) → (∀ a ∈ s, okRow a = true) → (p ++ s).length ≤ 1000 → out.length + 200 * s.length ≤ 190000 →
    Ev (fun k => impl_GrayGrowths.l0 k (out ++ grayS p.length s) N (wrap64 (t + 1))) R → Ev (fun k => impl_GrayGrowths.l1 k out N t (p ++ s) n (p.length : Int)) R := by
  induction s with
  | nil =>
    intro p out n hn hs hl ho h
    refine Ev.succ ?_
    simp only [impl_GrayGrowths.l1, if_neg (show ¬ (p.length : Int) < n by rw [List.append_nil] at hn; omega)]
    simpa [grayS] using h
  | cons a s ih =>
    intro p out n hn hs hl ho h
    have ha := hs a (List.mem_cons_self ..)
    have ht := topL_in ha
    have hal := okRow_len ha
    have hgl := grayOf_len p.length ha
    have h1 : (((p ++ a :: s).length : Nat) : Int) = p.length + s.length + 1 := by simp; omega
    have er : rd_L1 (p ++ a :: s) (p.length : Int) = a := by simp [rd_L1]
    have e2 : p ++ a :: s = (p ++ [a]) ++ s := by simp
    have hl2 : (p ++ a :: s).length = p.length + s.length + 1 := by simp; omega
    have hls : (a :: s).length = s.length + 1 := rfl
    have hsp := slices_Max_ev a ha
    have el : (p ++ [a]).length = p.length + 1 := by simp
    have next := ih (p ++ [a]) (out ++ grayOf p.length a) n (by rw [← e2]; exact hn) (fun b hb => hs b (List.mem_cons_of_mem _ hb)) (by rw [← e2]; exact hl) (by simp; omega) (by rw [el, List.append_assoc]; exact h)
    rw [← e2, el] at next
    have et : Int.tmod ((p.length : Nat) : Int) 2 = ((p.length % 2 : Nat) : Int) := rfl
    refine Ev.succ ?_
    simp only [impl_GrayGrowths.l1]
    simp only [if_pos (show (p.length : Int) < n by omega), if_pos (show 0 ≤ (p.length : Int) by omega), if_pos (show (p.length : Int) < (((p ++ a :: s).length : Nat) : Int) by omega), er]
    refine Ev.bind hsp ?_
    rw [et]
    have ew : wrap64 ((p.length : Int) + 1) = ((p.length + 1 : Nat) : Int) := i_up (by omega)
    unfold grayOf at next
    by_cases hp : p.length % 2 = 0
    · rw [if_pos hp] at next
      simp only [hp, if_pos (show ((0 : Nat) : Int) = 0 by rfl), impl_put_eq a 0 (by omega), obind, if_pos (show out.length < 5864062014805 by omega)]
      have e5 : wrap64 (topL a + 1) = (((topL a + 1).toNat : Nat) : Int) := by rw [w64 (by omega)]; omega
      rw [e5]
      refine impl_grays_l2 a (by omega) _ _ _ _ _ _ _ (out ++ [a ++ [0]]) (by simp; omega) (by omega) ?_
      rw [ew]
      simpa using next
    · rw [if_neg hp] at next
      simp only [if_neg (show ¬ ((p.length % 2 : Nat) : Int) = 0 from fun h => hp (Int.natCast_eq_zero.1 h))]
      refine impl_grays_l3 a (by omega) _ _ _ _ _ (topL a) (by omega) _ ((topL a + 1).toNat) 1 out (by omega) (by omega) ?_
      rw [ew]
      exact next
theorem impl_grays_l0 (N : Nat) (hN : N < 7) (d : Nat) : ∀ t : Nat, t + d = N → Ev (fun k => impl_GrayGrowths.l0 k (gray t) (N : Int) (t : Int)) (gray N, true) := by
  induction d with
  | zero =>
    intro t ht
    have : t = N := by omega
    subst this
    refine Ev.done fun k => ?_
    simp only [impl_GrayGrowths.l0]
    rw [if_neg (by omega)]
  | succ d ih =>
    intro t ht
    obtain ⟨g1, _, g3⟩ := gray_rows t (by omega)
    refine Ev.succ ?_
    simp only [impl_GrayGrowths.l0, if_pos (show (t : Int) < (N : Int) by omega)]
    refine impl_grays_l1 (N : Int) (t : Int) _ (gray t) [] [] _ rfl (fun a ha => List.all_eq_true.1 g1 a ha) (by simp; omega) (by simp; omega) ?_
    rw [i_up (show t ≤ 1099511627776 by omega)]
    exact ih (t + 1) (by omega)
theorem impl_GrayGrowths_ev (n : Int) : Ev (fun k => impl_GrayGrowths.f k n) (if inB n 1 7 = true then (gray (n.toNat - 1), true) else ([], false)) := by
  unfold impl_GrayGrowths.f
  simp only [impl_within_eq, obind]
  cases h : inB n 1 7 with
  | false => simp only [Bool.false_eq_true, if_false]; exact Ev.now _
  | true =>
    have h1 := inB_true.1 h
    obtain ⟨m, rfl⟩ : ∃ m : Nat, n = ((m + 1 : Nat) : Int) := ⟨(n - 1).toNat, by omega⟩
    simp only [if_true, Int.toNat_natCast, Nat.add_sub_cancel, i_down (show m ≤ 1099511627776 by omega)]
    exact impl_grays_l0 m (by omega) m 0 (by omega)

theorem grayGrowths_few (n : Int) : rowsFew (if inB n 1 7 = true then (gray (n.toNat - 1), true) else ([], false) : List (List Int) × Bool).1 := by
  split
  · rename_i h
    have h1 := inB_true.1 h
    have h2 := gray_rows (n.toNat - 1) (by omega)
    refine ⟨Nat.le_trans h2.2.2 (by omega), ?_⟩
    intro x hx
    have := okRow_len (List.all_eq_true.1 h2.1 x hx)
    omega
  · exact ⟨by simp, by simp⟩
theorem FnExactGrayGrowths_walk (a0 : Int) (w : World) : Calls Try.prog 5 #[.int .i64 a0] w fun e w' => e = .returned (.bool true) ∧ Below w.heap.size w w' := by
  have hs := spec_GrayGrowths_ev a0
  have hi := impl_GrayGrowths_ev a0
  have hf := grayGrowths_few a0
  generalize (if inB a0 1 7 = true then (gray (a0.toNat - 1), true) else ([], false) : List (List Int) × Bool) = R at hs hi hf
  obtain ⟨L, b⟩ := R
  obtain ⟨k, h1, h2, h3, h4, h5⟩ := exactRows hs hi hf
  exact laws_FnExactGrayGrowths.straight k a0 L _ b _ w h1 h2 h3 h4 (upRows_len L 1) h5 (by omega)

end Go.Proofs.Ythaplgbhhppniaa.Pure
