/- The program's BlocksOf returns what the reference's returns, for every list of whole numbers: the walk of the law. -/
import Derived.Test.YtlondmhiccikpaaHandFnExactBlocksOf
import Derived.Test.YtlondmhiccikpaaCoreA
import Derived.Test.YtlondmhiccikpaaCoreG
import Derived.Test.YtlondmhiccikpaaCoreBk
namespace Go.Proofs.Ytlondmhiccikpaa.Pure
open Go.RowKit Go.Proofs.Ytlondmhiccikpaa.HFnExactBlocksOf Go.Proofs.YtlondmhiccikpaaW.PrintWords Go.Proofs.YtlondmhiccikpaaW.PrintLast Go.Proofs.YtlondmhiccikpaaW.PrintMore Go.Proofs.Ytlondmhiccikpaa.Core
open Go.RowKit Go.Proofs.YtlondmhiccikpaaW.PrintWords Go.Proofs.YtlondmhiccikpaaW.PrintLast Go.Proofs.YtlondmhiccikpaaW.PrintMore
set_option linter.unusedVariables false
set_option linter.unusedSimpArgs false

theorem laws_eqIntS_loop (s : List Int) : ∀ (p q t : List Int) (i : Int), t.length = s.length → q.length = p.length → i = (p.length : Int) → (p ++ s).length ≤ 1099511627776 →
    Ev (fun k => laws_eqIntS.l0 k (p ++ s) (q ++ t) i) (decide (s = t)) := by
  induction s with
  | nil =>
    intro p q t i ht hq hi hl
    have ht0 : t = [] := List.eq_nil_of_length_eq_zero ht
    subst ht0
    refine Ev.done fun k => ?_
    simp only [laws_eqIntS.l0]
    rw [if_neg (by rw [len_nil]; omega)]
    simp
  | cons x s ih =>
    intro p q t i ht hq hi hl
    cases t with
    | nil => simp at ht
    | cons y t =>
      have ht' : t.length = s.length := by simpa using ht
      have h1 := len_mid p s x
      have h2 := len_mid q t y
      by_cases hxy : x = y
      · have := ih (p ++ [x]) (q ++ [y]) t (i + 1) ht' (by simp [hq]) (by rw [len_snoc]; omega) (by rw [← snoc_mid]; exact hl)
        rw [← snoc_mid, ← snoc_mid] at this
        refine Ev.to (Ev.step' this fun k => ?_) (by simp [hxy])
        simp only [laws_eqIntS.l0]
        rw [if_pos (by omega), if_pos (by omega), if_pos (by omega), rd_mid hi, rd_mid (by omega), if_pos hxy, w64 (by omega)]
      · refine Ev.to (Ev.done fun k => ?_) (show false = _ by simp [hxy])
        simp only [laws_eqIntS.l0]
        rw [if_pos (by omega), if_pos (by omega), if_pos (by omega), rd_mid hi, rd_mid (by omega), if_neg hxy]
theorem laws_eqIntS_ev (l t : List Int) (hl : l.length ≤ 1099511627776) : Ev (fun k => laws_eqIntS.f k l t) (decide (l = t)) := by
  by_cases h : l.length = t.length
  · have := laws_eqIntS_loop l [] [] t 0 h.symm rfl (by simp) (by simpa using hl)
    simp only [List.nil_append] at this
    refine Ev.congr (fun k => ?_) this
    unfold laws_eqIntS.f
    rw [if_pos (by omega)]
  · refine Ev.to (Ev.congr (fun k => ?_) (Ev.now false)) (by rw [decide_eq_false]; exact fun e => h (by rw [e]))
    unfold laws_eqIntS.f
    rw [if_neg (by omega)]

theorem laws_markIntS_loop (s : List Int) : ∀ (p : List Int) (m i : Int), 0 ≤ m → m + s.length ≤ 1099511627776 → i = (p.length : Int) → (p ++ s).length ≤ 1099511627776 →
    Ev (fun k => laws_markIntS.l0 k (p ++ s) m i) (m + s.length, p ++ upFrom m s.length) := by
  induction s with
  | nil =>
    intro p m i hm hm' hi hl
    refine Ev.to (Ev.done fun k => ?_) (show (m, p ++ []) = _ by simp [upFrom])
    simp only [laws_markIntS.l0]
    rw [if_neg (by rw [len_nil]; omega)]
  | cons x s ih =>
    intro p m i hm hm' hi hl
    have h1 := len_mid p s x
    have h2 : (((x :: s).length : Nat) : Int) = s.length + 1 := by simp
    have h3 : (p ++ m :: s).length = (p ++ x :: s).length := by simp
    have := ih (p ++ [m]) (m + 1) (i + 1) (by omega) (by omega) (by rw [len_snoc]; omega) (by rw [← snoc_mid, h3]; exact hl)
    rw [← snoc_mid] at this
    refine Ev.to (Ev.step' this fun k => ?_) (by rw [h2, ← snoc_mid]; simp only [List.length_cons, upFrom]; congr 1; omega)
    simp only [laws_markIntS.l0]
    rw [if_pos (by omega), if_pos (by omega), set_mid hi, w64 (by omega), w64 (by omega)]
theorem laws_markIntS_ev (l : List Int) (hl : l.length ≤ 109951162777) : Ev (fun k => laws_markIntS.f k l 1) (1 + l.length, upFrom 1 l.length) :=
  laws_markIntS_loop l [] 1 0 (by omega) (by omega) (by simp) (by simp; omega)

theorem laws_heldIntS_loop (n : Nat) : ∀ (p : List Int) (m i : Int), 0 ≤ m → m + n ≤ 1099511627776 → i = (p.length : Int) → p.length + n ≤ 1099511627776 →
    Ev (fun k => laws_heldIntS.l0 k (p ++ upFrom m n) m i) (m + n) := by
  induction n with
  | zero =>
    intro p m i hm hm' hi hl
    show Ev (fun k => laws_heldIntS.l0 k (p ++ []) m i) _
    refine Ev.to (Ev.done fun k => ?_) (show m = _ by simp)
    simp only [laws_heldIntS.l0]
    rw [if_neg (by rw [len_nil]; omega)]
  | succ n ih =>
    intro p m i hm hm' hi hl
    have h1 := len_mid p (upFrom (m + 1) n) m
    have := ih (p ++ [m]) (m + 1) (i + 1) (by omega) (by omega) (by rw [len_snoc]; omega) (by rw [List.length_append]; simp; omega)
    rw [← snoc_mid] at this
    show Ev (fun k => laws_heldIntS.l0 k (p ++ m :: upFrom (m + 1) n) m i) _
    refine Ev.to (Ev.step' this fun k => ?_) (by omega)
    simp only [laws_heldIntS.l0]
    rw [if_pos (by omega), if_pos (by omega), rd_mid hi, if_pos rfl, w64 (by omega), w64 (by omega)]
theorem laws_heldIntS_ev (n : Nat) (hn : n ≤ 109951162777) : Ev (fun k => laws_heldIntS.f k (upFrom 1 n) 1) (1 + n) :=
  laws_heldIntS_loop n [] 1 0 (by omega) (by omega) (by simp) (by simp; omega)

theorem laws_eqIntSS_loop (s : List (List Int)) : ∀ (p : List (List Int)) (i : Int), i = (p.length : Int) → (p ++ s).length ≤ 1073741824 → (∀ x ∈ s, x.length ≤ 1073741824) →
    Ev (fun k => laws_eqIntSS.l0 k (p ++ s) (p ++ s) i) true := by
  induction s with
  | nil =>
    intro p i hi hl hs
    refine Ev.done fun k => ?_
    simp only [laws_eqIntSS.l0]
    rw [if_neg (by rw [List.append_nil]; omega)]
  | cons x s ih =>
    intro p i hi hl hs
    have h1 : (((p ++ x :: s).length : Nat) : Int) = p.length + s.length + 1 := by simp; omega
    have er : rd_L1 (p ++ x :: s) i = x := by subst hi; simp [rd_L1]
    have e2 : p ++ x :: s = (p ++ [x]) ++ s := by simp
    have := ih (p ++ [x]) (i + 1) (by simp; omega) (by rw [← e2]; exact hl) (fun y hy => hs y (List.mem_cons_of_mem _ hy))
    rw [← e2] at this
    refine Ev.succ ?_
    simp only [laws_eqIntSS.l0]
    simp only [if_pos (show 0 ≤ i by omega), if_pos (show i < (((p ++ x :: s).length : Nat) : Int) by omega), er, show wrap64 (i + 1) = i + 1 from w64 (by omega)]
    refine Ev.bind (laws_eqIntS_ev x x (by have := hs x (List.mem_cons_self ..); omega)) ?_
    simp only [decide_true, if_true]
    exact this
theorem laws_eqIntSS_self (l : List (List Int)) (hl : l.length ≤ 1073741824) (hs : ∀ x ∈ l, x.length ≤ 1073741824) : Ev (fun k => laws_eqIntSS.f k l l) true := by
  unfold laws_eqIntSS.f
  simp only [if_true]
  exact laws_eqIntSS_loop l [] 0 (by simp) (by simpa using hl) hs

/-- How many numbers stand in the rows. -/
def sumLen : List (List Int) → Nat
  | [] => 0
  | x :: s => x.length + sumLen s
/-- The rows with the numbers m, m + 1, .. written over them. -/
def upRows (m : Nat) : List (List Int) → List (List Int)
  | [] => []
  | x :: s => upFrom (m : Int) x.length :: upRows (m + x.length) s
theorem upRows_len (L : List (List Int)) : ∀ m, (upRows m L).length = L.length := by
  induction L with
  | nil => intro m; rfl
  | cons x s ih => intro m; simp [upRows, ih]
theorem laws_markIntSS_loop (s : List (List Int)) : ∀ (p : List (List Int)) (m : Nat) (i : Int), i = (p.length : Int) → (p ++ s).length ≤ 1073741824 → m + sumLen s ≤ 1073741824 →
    Ev (fun k => laws_markIntSS.l0 k (p ++ s) (m : Int) i) (((m + sumLen s : Nat) : Int), p ++ upRows m s) := by
  induction s with
  | nil =>
    intro p m i hi hl hs
    refine Ev.to (Ev.done fun k => ?_) (show ((m : Int), p ++ []) = _ by simp [upRows, sumLen])
    simp only [laws_markIntSS.l0]
    rw [if_neg (by rw [List.append_nil]; omega)]
  | cons x s ih =>
    intro p m i hi hl hs
    have h1 : (((p ++ x :: s).length : Nat) : Int) = p.length + s.length + 1 := by simp; omega
    have er : rd_L1 (p ++ x :: s) i = x := by subst hi; simp [rd_L1]
    have e2 : ∀ y : List Int, p ++ y :: s = (p ++ [y]) ++ s := fun y => by simp
    have es : sumLen (x :: s) = x.length + sumLen s := rfl
    have hlen : ((p ++ [upFrom (m : Int) x.length]) ++ s).length ≤ 1073741824 := by simp at hl ⊢; omega
    have := ih (p ++ [upFrom (m : Int) x.length]) (m + x.length) (i + 1) (by simp; omega) hlen (by omega)
    rw [← e2] at this
    refine Ev.succ ?_
    simp only [laws_markIntSS.l0]
    simp only [if_pos (show 0 ≤ i by omega), if_pos (show i < (((p ++ x :: s).length : Nat) : Int) by omega), er, show wrap64 (i + 1) = i + 1 from w64 (by omega)]
    have hM : Ev (fun k => laws_markIntS.f k x (m : Int)) (((m + x.length : Nat) : Int), upFrom (m : Int) x.length) := by
      have := laws_markIntS_loop x [] (m : Int) 0 (by omega) (by omega) (by simp) (by simp; omega)
      refine Ev.to this ?_
      simp
    refine Ev.bind hM ?_
    simp only [set_mid hi]
    refine Ev.to this ?_
    simp only [es, upRows]
    congr 1
    · omega
    · simp
theorem laws_markIntSS_ev (l : List (List Int)) (hl : l.length ≤ 1073741824) (hs : 1 + sumLen l ≤ 1073741824) : Ev (fun k => laws_markIntSS.f k l 1) (((1 + sumLen l : Nat) : Int), upRows 1 l) :=
  laws_markIntSS_loop l [] 1 0 (by simp) (by simpa using hl) hs
theorem laws_heldIntSS_loop (s : List (List Int)) : ∀ (p : List (List Int)) (m : Nat) (i : Int), i = (p.length : Int) → p.length + s.length ≤ 1073741824 → m + sumLen s ≤ 1073741824 →
    Ev (fun k => laws_heldIntSS.l0 k (p ++ upRows m s) (m : Int) i) ((m + sumLen s : Nat) : Int) := by
  induction s with
  | nil =>
    intro p m i hi hl hs
    refine Ev.to (Ev.done fun k => ?_) (show (m : Int) = _ by simp [sumLen])
    have e : ¬ i < (((p ++ upRows m []).length : Nat) : Int) := by simp [upRows]; omega
    simp only [laws_heldIntSS.l0]
    simp only [if_neg e]
  | cons x s ih =>
    intro p m i hi hl hs
    have hl' : p.length + s.length + 1 ≤ 1073741824 := by simp at hl; omega
    have h1 : (((p ++ upRows m (x :: s)).length : Nat) : Int) = p.length + s.length + 1 := by simp [upRows_len]; omega
    have er : rd_L1 (p ++ upRows m (x :: s)) i = upFrom (m : Int) x.length := by subst hi; simp [rd_L1, upRows]
    have es : sumLen (x :: s) = x.length + sumLen s := rfl
    have := ih (p ++ [upFrom (m : Int) x.length]) (m + x.length) (i + 1) (by simp; omega) (by simp; omega) (by omega)
    have e2 : (p ++ [upFrom (m : Int) x.length]) ++ upRows (m + x.length) s = p ++ upRows m (x :: s) := by simp [upRows]
    rw [e2] at this
    refine Ev.succ ?_
    simp only [laws_heldIntSS.l0]
    simp only [if_pos (show 0 ≤ i by omega), if_pos (show i < (((p ++ upRows m (x :: s)).length : Nat) : Int) by omega), er, show wrap64 (i + 1) = i + 1 from w64 (by omega)]
    have hH : Ev (fun k => laws_heldIntS.f k (upFrom (m : Int) x.length) (m : Int)) ((m + x.length : Nat) : Int) := by
      have := laws_heldIntS_loop x.length [] (m : Int) 0 (by omega) (by omega) (by simp) (by simp; omega)
      rw [List.nil_append] at this
      refine Ev.to this ?_
      omega
    refine Ev.bind hH ?_
    simp only [if_neg (show ¬ ((m + x.length : Nat) : Int) < 0 by omega)]
    refine Ev.to this ?_
    rw [es]; omega
theorem laws_heldIntSS_ev (l : List (List Int)) (hl : l.length ≤ 1073741824) (hs : 1 + sumLen l ≤ 1073741824) : Ev (fun k => laws_heldIntSS.f k (upRows 1 l) 1) ((1 + sumLen l : Nat) : Int) := by
  have := laws_heldIntSS_loop l [] 1 0 (by simp) (by simpa using hl) hs
  exact this
/-- Rows of few numbers. -/
def rowsFew (L : List (List Int)) : Prop := L.length ≤ 1048576 ∧ ∀ x ∈ L, x.length ≤ 1000
theorem sumLen_le (L : List (List Int)) (h : ∀ x ∈ L, x.length ≤ 1000) : sumLen L ≤ L.length * 1000 := by
  induction L with
  | nil => simp [sumLen]
  | cons x s ih =>
    have h1 := h x (List.mem_cons_self ..)
    have h2 := ih fun y hy => h y (List.mem_cons_of_mem _ hy)
    simp only [sumLen, List.length_cons]; omega
theorem rowsFew_sum {L : List (List Int)} (h : rowsFew L) : 1 + sumLen L ≤ 1073741824 := by
  have h1 := sumLen_le L h.2
  have h2 := h.1
  omega
/-- What the law's straight walk asks of its calls: all at one number of rounds. -/
theorem exactRows {S I : Nat → Option (List (List Int) × Bool)} {L : List (List Int)} {b : Bool} (hs : Ev S (L, b)) (hi : Ev I (L, b)) (hf : rowsFew L) :
    ∃ k, S k = some (L, b) ∧ I k = some (L, b) ∧ laws_eqIntSS.f k L L = some true ∧ laws_markIntSS.f k L 1 = some (((1 + sumLen L : Nat) : Int), upRows 1 L) ∧ laws_heldIntSS.f k (upRows 1 L) 1 = some ((1 + sumLen L : Nat) : Int) := by
  have h1 := rowsFew_sum hf
  have h2 := hf.1
  obtain ⟨k1, hs⟩ := hs
  obtain ⟨k2, hi⟩ := hi
  obtain ⟨k3, he⟩ := laws_eqIntSS_self L (by omega) (fun x hx => Nat.le_trans (hf.2 x hx) (by omega))
  obtain ⟨k4, hm⟩ := laws_markIntSS_ev L (by omega) h1
  obtain ⟨k5, hh⟩ := laws_heldIntSS_ev L (by omega) h1
  refine ⟨k1 + k2 + k3 + k4 + k5, hs _ (by omega), hi _ (by omega), he _ (by omega), hm _ (by omega), hh _ (by omega)⟩

theorem laws_toIntS_loop (s : List Int) : ∀ (p q : List Int) (i : Int), q.length = s.length → i = (p.length : Int) → (p ++ s).length ≤ 1099511627776 →
    Ev (fun k => laws_toIntS.l0 k (p ++ s) (p ++ q) i) (p ++ s) := by
  induction s with
  | nil =>
    intro p q i hq hi hl
    have hq0 : q = [] := List.eq_nil_of_length_eq_zero hq
    subst hq0
    refine Ev.done fun k => ?_
    simp only [laws_toIntS.l0]
    rw [if_neg (by rw [len_nil]; omega)]
  | cons x s ih =>
    intro p q i hq hi hl
    cases q with
    | nil => simp at hq
    | cons y q =>
      have hq' : q.length = s.length := by simpa using hq
      have h1 := len_mid p s x
      have h2 := len_mid p q y
      have := ih (p ++ [x]) q (i + 1) hq' (by rw [len_snoc]; omega) (by rw [← snoc_mid]; exact hl)
      rw [← snoc_mid, ← snoc_mid] at this
      refine Ev.step' this fun k => ?_
      simp only [laws_toIntS.l0]
      rw [if_pos (by omega), if_pos (by omega), if_pos (by omega), rd_mid hi, set_mid hi, w64 (by omega)]
theorem laws_toIntS_ev (l : List Int) (hl : l.length ≤ 1099511627776) : Ev (fun k => laws_toIntS.f k l) l := by
  have := laws_toIntS_loop l [] (List.replicate l.length 0) 0 (by simp) (by simp) (by simpa using hl)
  simp only [List.nil_append] at this
  refine Ev.congr (fun k => ?_) this
  unfold laws_toIntS.f
  rw [if_pos (by omega), if_pos (by omega)]
  simp only [Int.toNat_natCast]

theorem mem_flat_len {L : List (List Int)} {x : List Int} (h : x ∈ L) : x.length ≤ L.flatten.length := by
  induction L with
  | nil => cases h
  | cons y s ih =>
    rw [List.flatten_cons, List.length_append]
    rcases List.mem_cons.1 h with rfl | h
    · omega
    · have := ih h; omega
/-- What the straight walk of a law over a list asks of its calls: all at one number of rounds. -/
theorem exactList {S I : Nat → Option (List (List Int) × Bool)} {l : List Int} {L : List (List Int)} {b : Bool} (hl : l.length ≤ 1048576) (hs : Ev S (L, b)) (hi : Ev I (L, b)) (hf : rowsFew L) :
    ∃ (k : Nat) (m mx : Int) (M : List (List Int)) (X : List Int), laws_toIntS.f k l = some l ∧ S k = some (L, b) ∧ I k = some (L, b) ∧ laws_eqIntSS.f k L L = some true ∧ laws_eqIntS.f k l l = some true ∧ laws_markIntS.f k l 1 = some (mx, X) ∧ ¬ mx < 0 ∧
      laws_markIntSS.f k L 1 = some (m, M) ∧ M.length = L.length ∧ laws_heldIntSS.f k M 1 = some m ∧ ¬ m < 0 := by
  have h1 := rowsFew_sum hf
  have h2 := hf.1
  have h0 : (0 : Int) ≤ (l.length : Int) := Int.natCast_nonneg _
  have hx := laws_eqIntS_ev l l (by omega)
  rw [decide_eq_true rfl] at hx
  obtain ⟨k1, hs⟩ := hs
  obtain ⟨k2, hi⟩ := hi
  obtain ⟨k3, he⟩ := laws_eqIntSS_self L (by omega) (fun x hx => Nat.le_trans (hf.2 x hx) (by omega))
  obtain ⟨k4, hm⟩ := laws_markIntSS_ev L (by omega) h1
  obtain ⟨k5, hh⟩ := laws_heldIntSS_ev L (by omega) h1
  obtain ⟨k6, ht⟩ := laws_toIntS_ev l (by omega)
  obtain ⟨k7, hx⟩ := hx
  obtain ⟨k8, hk⟩ := laws_markIntS_ev l (by omega)
  refine ⟨k1 + k2 + k3 + k4 + k5 + k6 + k7 + k8, _, _, _, _, ht _ (by omega), hs _ (by omega), hi _ (by omega), he _ (by omega), hx _ (by omega), hk _ (by omega), by omega, hm _ (by omega), upRows_len L 1, hh _ (by omega), by omega⟩

theorem spec_l1Most_eq (a b : Int) : spec_l1Most.f a b = some (max a b) := most_max a b

theorem spec_spTop_loop (s : List Int) : ∀ (p : List Int) (m n i : Int), n = ((p ++ s).length : Int) → i = (p.length : Int) → (p ++ s).length ≤ 1099511627776 →
    Ev (fun k => spec_spTop.l0 k m (p ++ s) n i) (s.foldl max m) := by
  induction s with
  | nil =>
    intro p m n i hn hi hl
    refine Ev.to (Ev.done fun k => ?_) (show m = _ by simp)
    simp only [spec_spTop.l0]
    rw [if_neg (by rw [len_nil] at hn; omega)]
  | cons x s ih =>
    intro p m n i hn hi hl
    have h1 := len_mid p s x
    have := ih (p ++ [x]) (max m x) n (i + 1) (by rw [← snoc_mid]; exact hn) (by rw [len_snoc]; omega) (by rw [← snoc_mid]; exact hl)
    rw [← snoc_mid] at this
    refine Ev.to (Ev.step' this fun k => ?_) (by simp)
    simp only [spec_spTop.l0]
    rw [if_pos (by omega), if_pos (by omega), if_pos (by omega), rd_mid hi, spec_l1Most_eq, w64 (by omega)]
    rfl
theorem spec_spTop_ev (l : List Int) (hl : l.length ≤ 1099511627776) : Ev (fun k => spec_spTop.f k l) (l.foldl max (-1)) :=
  spec_spTop_loop l [] (-1) _ 0 rfl (by simp) (by simpa using hl)

theorem spec_l1Own_eq (l : List Int) (hl : l.length ≤ 1000000) : spec_l1Own.f l = some l := by
  unfold spec_l1Own.f
  rw [obind, if_pos (by simp; omega), List.nil_append]

theorem impl_blocks_loop (s : List Int) : ∀ (p : List Int) (B : List (List Int)) (n i : Int), growW ((B.length : Int) - 1) s = true → n = ((p ++ s).length : Int) → i = (p.length : Int) → (p ++ s).length ≤ 1000 → B.length + s.length ≤ 1000 → (∀ y ∈ B, y.length + s.length ≤ 1000) →
    Ev (fun k => impl_blocks.l0 k B (p ++ s) n i) (blkF p.length B s) := by
  induction s with
  | nil =>
    intro p B n i hg hn hi hl hb hr
    refine Ev.done fun k => ?_
    simp only [impl_blocks.l0]
    rw [if_neg (by rw [List.append_nil] at hn; omega)]; rfl
  | cons x s ih =>
    intro p B n i hg hn hi hl hb hr
    obtain ⟨h1, h2⟩ := growW_next hg
    have hp : (((p ++ x :: s).length : Nat) : Int) = p.length + s.length + 1 := by simp; omega
    have hl' : p.length + s.length + 1 ≤ 1000 := by omega
    rw [List.length_cons] at hb
    have hr' : ∀ y ∈ B, y.length + (s.length + 1) ≤ 1000 := fun y hy => by have := hr y hy; rwa [List.length_cons] at this
    have e2 : p ++ x :: s = (p ++ [x]) ++ s := by simp
    have hlen := blkOne_len (i := p.length) h1
    have := ih (p ++ [x]) (blkOne B x p.length) n (i + 1) (by rw [hlen]; exact h2) (by rw [← e2]; exact hn) (by simp; omega) (by rw [← e2]; exact hl) (by rw [hlen]; omega)
      (fun y hy => by
        have := blkOne_row (n := 1000 - s.length) (by omega) (fun u hu => by have := hr' u hu; omega) y hy
        omega)
    rw [← e2] at this
    have ep : (p ++ [x]).length = p.length + 1 := by simp
    rw [ep] at this
    refine Ev.succ ?_
    simp only [impl_blocks.l0]
    simp only [if_pos (show i < n by omega), if_pos (show 0 ≤ i by omega), if_pos (show i < (((p ++ x :: s).length : Nat) : Int) by omega), rd_mid hi, show wrap64 (i + 1) = i + 1 from w64 (by omega), if_pos h1.1]
    by_cases c : x = (B.length : Int)
    · have cN : x.toNat = B.length := by omega
      have er : rd_L1 (B ++ [[]]) x = [] := by unfold rd_L1; rw [cN]; simp
      have es : (B ++ [[]]).set x.toNat ([] ++ [i]) = blkOne B x p.length := by unfold blkOne; rw [if_pos cN, cN, hi]; simp
      simp only [if_pos c, if_pos (show B.length < 5864062014805 by omega), obind, er, if_pos (show x < (((B ++ [[]] : List (List Int)).length : Nat) : Int) by simp; omega), List.length_nil, if_pos (show 0 < 17592186044416 by omega), es]
      exact this
    · have cN : ¬ x.toNat = B.length := by omega
      have hlt : x.toNat < B.length := by omega
      have er : rd_L1 B x = B.getD x.toNat [] := rfl
      have hrow := hr' (B.getD x.toNat []) (by rw [getD_at hlt]; exact List.getElem_mem _)
      have es : B.set x.toNat (B.getD x.toNat [] ++ [i]) = blkOne B x p.length := by unfold blkOne; rw [if_neg cN, hi]
      simp only [if_neg c, if_pos (show x < (B.length : Int) by omega), er, if_pos (show (B.getD x.toNat []).length < 17592186044416 by omega), es]
      exact this
theorem impl_blocks_ev (l : List Int) (h : isG l = true) : Ev (fun k => impl_blocks.f k l) (blk l) := by
  obtain ⟨h1, h2, h3⟩ := isG_true h
  exact impl_blocks_loop l [] [] _ 0 h1 (by simp) (by simp) (by simp; omega) (by simp; omega) (fun y hy => by cases hy)
theorem spec_spBlocks_loop (s : List Int) : ∀ (p : List Int) (B : List (List Int)) (r : Nat) (n i : Int), growW ((B.length : Int) - 1) s = true → B.length + r = topK B.length s → n = ((p ++ s).length : Int) → i = (p.length : Int) → (p ++ s).length ≤ 1000 → B.length + s.length ≤ 1000 → (∀ y ∈ B, y.length + s.length ≤ 1000) →
    Ev (fun k => spec_spBlocks.l0 k (B ++ List.replicate r []) (p ++ s) n i) (blkF p.length B s) := by
  induction s with
  | nil =>
    intro p B r n i hg ht hn hi hl hb hr
    have hr0 : r = 0 := by simp only [topK] at ht; omega
    subst hr0
    refine Ev.to (Ev.done fun k => ?_) (show B ++ List.replicate 0 [] = _ by simp [blkF])
    simp only [spec_spBlocks.l0]
    rw [if_neg (by rw [List.append_nil] at hn; omega)]
  | cons x s ih =>
    intro p B r n i hg ht hn hi hl hb hr
    obtain ⟨h1, h2⟩ := growW_next hg
    have hp : (((p ++ x :: s).length : Nat) : Int) = p.length + s.length + 1 := by simp; omega
    have hl' : p.length + s.length + 1 ≤ 1000 := by omega
    rw [List.length_cons] at hb
    have hr' : ∀ y ∈ B, y.length + (s.length + 1) ≤ 1000 := fun y hy => by have := hr y hy; rwa [List.length_cons] at this
    have e2 : p ++ x :: s = (p ++ [x]) ++ s := by simp
    have hlen := blkOne_len (i := p.length) h1
    simp only [topK] at ht
    have htop := topK_ge s (max B.length (x.toNat + 1))
    have := ih (p ++ [x]) (blkOne B x p.length) (B.length + r - max B.length (x.toNat + 1)) n (i + 1) (by rw [hlen]; exact h2) (by rw [hlen]; omega) (by rw [← e2]; exact hn) (by simp; omega) (by rw [← e2]; exact hl) (by rw [hlen]; omega)
      (fun y hy => by
        have := blkOne_row (n := 1000 - s.length) (by omega) (fun u hu => by have := hr' u hu; omega) y hy
        omega)
    rw [← e2] at this
    have ep : (p ++ [x]).length = p.length + 1 := by simp
    rw [ep, ← blkOne_room h1 (by omega)] at this
    have hrow : ((B ++ List.replicate r []).getD x.toNat ([] : List Int)).length ≤ 1000 := by
      by_cases c : x.toNat < (B ++ List.replicate r ([] : List Int)).length
      · rw [getD_at c]
        rcases List.mem_append.1 (List.getElem_mem c) with hm | hm
        · have := hr' _ hm; omega
        · rw [(List.mem_replicate.1 hm).2]; simp
      · rw [getD_out (by omega)]; simp
    have er : rd_L1 (B ++ List.replicate r []) x = (B ++ List.replicate r []).getD x.toNat [] := rfl
    refine Ev.succ ?_
    simp only [spec_spBlocks.l0]
    simp only [if_pos (show i < n by omega), if_pos (show 0 ≤ i by omega), if_pos (show i < (((p ++ x :: s).length : Nat) : Int) by omega), rd_mid hi, show wrap64 (i + 1) = i + 1 from w64 (by omega), if_pos h1.1,
      if_pos (show x < (((B ++ List.replicate r ([] : List Int)).length : Nat) : Int) by simp; omega), er, spec_l1Own_eq _ (Nat.le_trans hrow (by omega)), obind, if_pos (show ((B ++ List.replicate r []).getD x.toNat ([] : List Int)).length < 17592186044416 by omega)]
    rw [hi] at this ⊢
    exact this
theorem spec_spBlocks_ev (l : List Int) (h : isG l = true) : Ev (fun k => spec_spBlocks.f k l) (blk l) := by
  obtain ⟨h1, h2, h3⟩ := isG_true h
  have ht := topK_fold l 0 h1
  have hle := topK_le l 0 h1
  unfold spec_spBlocks.f
  refine Ev.bind (spec_spTop_ev l (by omega)) ?_
  have e : wrap64 (l.foldl max (-1) + 1) = (topK 0 l : Int) := by
    have : l.foldl max (-1) = (topK 0 l : Int) - 1 := ht
    rw [this, w64 (by omega)]; omega
  simp only [e, Int.toNat_natCast, if_pos (show (0 : Int) ≤ (topK 0 l : Int) by omega), if_pos (show topK 0 l ≤ 11728124029610 by omega)]
  have := spec_spBlocks_loop l [] [] (topK 0 l) (l.length : Int) 0 h1 (by simp) (by simp) (by simp) (by simp; omega) (by simp; omega) (fun y hy => by cases hy)
  rw [List.nil_append, List.nil_append] at this
  exact this
theorem blk_len {l : List Int} (h : isG l = true) : (blk l).length ≤ 12 ∧ ∀ x ∈ blk l, x.length ≤ 12 := by
  obtain ⟨h1, h2, h3⟩ := isG_true h
  refine ⟨?_, fun x hx => blkF_row l 0 [] 12 (fun y hy => by cases hy) (by omega) x hx⟩
  have := blkF_len l 0 [] h1
  have hle := topK_le l 0 h1
  have e : (blk l).length = topK 0 l := this
  omega

theorem spec_l1In_eq (a b c : Int) : spec_l1In.f a b c = some (inB a b c) := inB_ite a b c

theorem spec_spGrowth_loop (l : List Int) (s : List Int) : ∀ (p : List Int) (m n i : Int), -1 ≤ m → m + 1 ≤ p.length → n = ((p ++ s).length : Int) → i = (p.length : Int) → (p ++ s).length ≤ 1099511627776 →
    Ev (fun k => spec_spGrowth.l0 k l m (p ++ s) n i) (growW m s && inB l.length 1 12) := by
  induction s with
  | nil =>
    intro p m n i hm hm' hn hi hl
    refine Ev.to (Ev.done fun k => ?_) (show inB l.length 1 12 = _ by unfold growW; simp)
    simp only [spec_spGrowth.l0]
    rw [if_neg (by rw [len_nil] at hn; omega), spec_l1In_eq]
    rfl
  | cons x s ih =>
    intro p m n i hm hm' hn hi hl
    have h1 := len_mid p s x
    unfold growW
    cases hb : inB x 0 (m + 1) with
    | false =>
      refine Ev.to (Ev.done fun k => ?_) (show false = _ by simp)
      simp only [spec_spGrowth.l0]
      rw [if_pos (by omega), if_pos (by omega), if_pos (by omega), rd_mid hi, w64 (n := m + 1) (by omega), spec_l1In_eq, hb]
      rfl
    | true =>
      have hx := inB_true.1 hb
      have := ih (p ++ [x]) (max m x) n (i + 1) (by omega) (by rw [len_snoc]; omega) (by rw [← snoc_mid]; exact hn) (by rw [len_snoc]; omega) (by rw [← snoc_mid]; exact hl)
      rw [← snoc_mid] at this
      refine Ev.to (Ev.step' this fun k => ?_) (by simp)
      simp only [spec_spGrowth.l0]
      rw [if_pos (by omega), if_pos (by omega), if_pos (by omega), rd_mid hi, w64 (n := m + 1) (by omega), spec_l1In_eq, hb]
      simp only [obind, if_true, spec_l1Most_eq, obind]
      rw [w64 (n := i + 1) (by omega)]
theorem spec_spGrowth_ev (l : List Int) (hl : l.length ≤ 1099511627776) : Ev (fun k => spec_spGrowth.f k l) (isG l) :=
  spec_spGrowth_loop l l [] (-1) _ 0 (by omega) (by simp) rfl (by simp) (by simpa using hl)

theorem impl_within_eq (a b c : Int) : impl_within.f a b c = some (inB a b c) := inB_ite a b c

theorem impl_IsGrowth_loop (l : List Int) (s : List Int) : ∀ (p : List Int) (m n i : Int), -1 ≤ m → m + 1 ≤ p.length → n = ((p ++ s).length : Int) → i = (p.length : Int) → (p ++ s).length ≤ 1099511627776 →
    Ev (fun k => impl_IsGrowth.l0 k l m (p ++ s) n i) (growW m s && inB l.length 1 12) := by
  induction s with
  | nil =>
    intro p m n i hm hm' hn hi hl
    refine Ev.to (Ev.done fun k => ?_) (show inB l.length 1 12 = _ by unfold growW; simp)
    simp only [impl_IsGrowth.l0]
    rw [if_neg (by rw [len_nil] at hn; omega), impl_within_eq]
    rfl
  | cons x s ih =>
    intro p m n i hm hm' hn hi hl
    have h1 := len_mid p s x
    unfold growW
    cases hb : inB x 0 (m + 1) with
    | false =>
      refine Ev.to (Ev.done fun k => ?_) (show false = _ by simp)
      simp only [impl_IsGrowth.l0]
      rw [if_pos (by omega), if_pos (by omega), if_pos (by omega), rd_mid hi, w64 (n := m + 1) (by omega), impl_within_eq, hb]
      rfl
    | true =>
      have hx := inB_true.1 hb
      have := ih (p ++ [x]) (max m x) n (i + 1) (by omega) (by rw [len_snoc]; omega) (by rw [← snoc_mid]; exact hn) (by rw [len_snoc]; omega) (by rw [← snoc_mid]; exact hl)
      rw [← snoc_mid] at this
      refine Ev.to (Ev.step' this fun k => ?_) (by simp)
      simp only [impl_IsGrowth.l0]
      rw [if_pos (by omega), if_pos (by omega), if_pos (by omega), rd_mid hi, w64 (n := m + 1) (by omega), impl_within_eq, hb]
      simp only [obind, if_true, mx_max]
      rw [w64 (n := i + 1) (by omega)]
theorem impl_IsGrowth_ev (l : List Int) (hl : l.length ≤ 1099511627776) : Ev (fun k => impl_IsGrowth.f k l) (isG l) :=
  impl_IsGrowth_loop l l [] (-1) _ 0 (by omega) (by simp) rfl (by simp) (by simpa using hl)

theorem spec_BlocksOf_ev (l : List Int) (hl : l.length ≤ 1099511627776) : Ev (fun k => spec_BlocksOf.f k l) (if isG l = true then (blk l, true) else ([], false)) := by
  unfold spec_BlocksOf.f
  refine Ev.bind (spec_spGrowth_ev l hl) ?_
  split
  · rename_i h
    exact Ev.bind (spec_spBlocks_ev l h) (Ev.now _)
  · exact Ev.now _
theorem impl_BlocksOf_ev (l : List Int) (hl : l.length ≤ 1099511627776) : Ev (fun k => impl_BlocksOf.f k l) (if isG l = true then (blk l, true) else ([], false)) := by
  unfold impl_BlocksOf.f
  refine Ev.bind (impl_IsGrowth_ev l hl) ?_
  split
  · rename_i h
    exact Ev.bind (impl_blocks_ev l h) (Ev.now _)
  · exact Ev.now _
theorem blocksOf_few (l : List Int) : rowsFew (if isG l = true then (blk l, true) else ([], false) : List (List Int) × Bool).1 := by
  split
  · rename_i h
    obtain ⟨h1, h2⟩ := blk_len h
    exact ⟨Nat.le_trans h1 (by omega), fun x hx => Nat.le_trans (h2 x hx) (by omega)⟩
  · exact ⟨by simp, by simp⟩
theorem FnExactBlocksOf_walk (a0 : Option Addr) (len0 cap0 : Nat) (z0 : List Int) (w : World) (w0 : (a0 = none ∧ len0 = 0 ∧ cap0 = 0 ∧ z0 = []) ∨ ∃ x, a0 = some x ∧ len0 ≤ cap0 ∧ cap0 ≤ maxLen ∧ z0.length = cap0 ∧ (∀ i, i < z0.length → w.cell? (x.add i) = some (.int .i64 (z0.getD i 0))) ∧ ∀ n ∈ z0, (Lit.int .i64 n).wf = true) (y0 : len0 * 8 ≤ 140737488351232) :
    Calls Try.prog 14 #[.slice a0 len0 cap0] w fun e w' => e = .returned (.bool true) ∧ Below w.heap.size w w' := by
  refine laws_FnExactBlocksOf.walk (fun l _ hl => ?_) a0 len0 cap0 z0 w w0
  have hs := spec_BlocksOf_ev l (by omega)
  have hi := impl_BlocksOf_ev l (by omega)
  have hf := blocksOf_few l
  generalize (if isG l = true then (blk l, true) else ([], false) : List (List Int) × Bool) = R at hs hi hf
  obtain ⟨L, b⟩ := R
  obtain ⟨k, m, mx, M, X, h⟩ := exactList hl hs hi hf
  exact ⟨k, L, M, b, m, mx, X, h⟩

end Go.Proofs.Ytlondmhiccikpaa.Pure
