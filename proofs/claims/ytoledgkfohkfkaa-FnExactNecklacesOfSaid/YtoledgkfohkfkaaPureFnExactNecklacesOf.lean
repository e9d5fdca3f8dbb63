/- The program's NecklacesOf returns what the reference's returns, for every pair of whole numbers: the walk of the law. -/
import Derived.Test.YtoledgkfohkfkaaHandFnExactNecklacesOf
import Derived.Test.YtoledgkfohkfkaaCoreA
import Derived.Test.YtoledgkfohkfkaaCoreL
import Derived.Test.YtoledgkfohkfkaaCoreM
import Derived.Test.YtoledgkfohkfkaaCoreLL
namespace Go.Proofs.Ytoledgkfohkfkaa.Pure
open Go.RowKit Go.Proofs.Ytoledgkfohkfkaa.HFnExactNecklacesOf Go.Proofs.YtoledgkfohkfkaaW.PrintWords Go.Proofs.YtoledgkfohkfkaaW.PrintLast Go.Proofs.YtoledgkfohkfkaaW.PrintMore Go.Proofs.Ytoledgkfohkfkaa.Core
open Go.RowKit Go.Proofs.YtoledgkfohkfkaaW.PrintWords Go.Proofs.YtoledgkfohkfkaaW.PrintLast Go.Proofs.YtoledgkfohkfkaaW.PrintMore
set_option linter.unusedVariables false
set_option linter.unusedSimpArgs false

theorem laws_eqIntS_loop (s : List Int) : ∀ (p q t : List Int) (i : Int), t.length = s.length → q.length = p.length → i = (p.length : Int) → (p ++ s).length ≤ 1099511627776 →
    Ev (fun k => laws_eqIntS.l0 k (p ++ s) (q ++ t) i) (decide (s = t)) := by
  induction s with
  | nil =>
    intro p q t i ht hq hi hl
    have ht0 : t = [] := List.eq_nil_of_length_eq_zero ht
    subst ht0
    refine Ev.done fun k => ?_
    simp only [laws_eqIntS.l0]
    rw [if_neg (by rw [len_nil]; omega)]
    simp
  | cons x s ih =>
    intro p q t i ht hq hi hl
    cases t with
    | nil => simp at ht
    | cons y t =>
      have ht' : t.length = s.length := by simpa using ht
      have h1 := len_mid p s x
      have h2 := len_mid q t y
      by_cases hxy : x = y
      · have := ih (p ++ [x]) (q ++ [y]) t (i + 1) ht' (by simp [hq]) (by rw [len_snoc]; omega) (by rw [← snoc_mid]; exact hl)
        rw [← snoc_mid, ← snoc_mid] at this
        refine Ev.to (Ev.step' this fun k => ?_) (by simp [hxy])
        simp only [laws_eqIntS.l0]
        rw [if_pos (by omega), if_pos (by omega), if_pos (by omega), rd_mid hi, rd_mid (by omega), if_pos hxy, w64 (by omega)]
      · refine Ev.to (Ev.done fun k => ?_) (show false = _ by simp [hxy])
        simp only [laws_eqIntS.l0]
        rw [if_pos (by omega), if_pos (by omega), if_pos (by omega), rd_mid hi, rd_mid (by omega), if_neg hxy]
theorem laws_eqIntS_ev (l t : List Int) (hl : l.length ≤ 1099511627776) : Ev (fun k => laws_eqIntS.f k l t) (decide (l = t)) := by
  by_cases h : l.length = t.length
  · have := laws_eqIntS_loop l [] [] t 0 h.symm rfl (by simp) (by simpa using hl)
    simp only [List.nil_append] at this
    refine Ev.congr (fun k => ?_) this
    unfold laws_eqIntS.f
    rw [if_pos (by omega)]
  · refine Ev.to (Ev.congr (fun k => ?_) (Ev.now false)) (by rw [decide_eq_false]; exact fun e => h (by rw [e]))
    unfold laws_eqIntS.f
    rw [if_neg (by omega)]

theorem laws_eqIntSS_loop (s : List (List Int)) : ∀ (p : List (List Int)) (i : Int), i = (p.length : Int) → (p ++ s).length ≤ 1073741824 → (∀ x ∈ s, x.length ≤ 1073741824) →
    Ev (fun k => laws_eqIntSS.l0 k (p ++ s) (p ++ s) i) true := by
  induction s with
  | nil =>
    intro p i hi hl hs
    refine Ev.done fun k => ?_
    simp only [laws_eqIntSS.l0]
    rw [if_neg (by rw [List.append_nil]; omega)]
  | cons x s ih =>
    intro p i hi hl hs
    have h1 : (((p ++ x :: s).length : Nat) : Int) = p.length + s.length + 1 := by simp; omega
    have er : rd_L1 (p ++ x :: s) i = x := by subst hi; simp [rd_L1]
    have e2 : p ++ x :: s = (p ++ [x]) ++ s := by simp
    have := ih (p ++ [x]) (i + 1) (by simp; omega) (by rw [← e2]; exact hl) (fun y hy => hs y (List.mem_cons_of_mem _ hy))
    rw [← e2] at this
    refine Ev.succ ?_
    simp only [laws_eqIntSS.l0]
    simp only [if_pos (show 0 ≤ i by omega), if_pos (show i < (((p ++ x :: s).length : Nat) : Int) by omega), er, show wrap64 (i + 1) = i + 1 from w64 (by omega)]
    refine Ev.bind (laws_eqIntS_ev x x (by have := hs x (List.mem_cons_self ..); omega)) ?_
    simp only [decide_true, if_true]
    exact this
theorem laws_eqIntSS_self (l : List (List Int)) (hl : l.length ≤ 1073741824) (hs : ∀ x ∈ l, x.length ≤ 1073741824) : Ev (fun k => laws_eqIntSS.f k l l) true := by
  unfold laws_eqIntSS.f
  simp only [if_true]
  exact laws_eqIntSS_loop l [] 0 (by simp) (by simpa using hl) hs

theorem laws_markIntS_loop (s : List Int) : ∀ (p : List Int) (m i : Int), 0 ≤ m → m + s.length ≤ 1099511627776 → i = (p.length : Int) → (p ++ s).length ≤ 1099511627776 →
    Ev (fun k => laws_markIntS.l0 k (p ++ s) m i) (m + s.length, p ++ upFrom m s.length) := by
  induction s with
  | nil =>
    intro p m i hm hm' hi hl
    refine Ev.to (Ev.done fun k => ?_) (show (m, p ++ []) = _ by simp [upFrom])
    simp only [laws_markIntS.l0]
    rw [if_neg (by rw [len_nil]; omega)]
  | cons x s ih =>
    intro p m i hm hm' hi hl
    have h1 := len_mid p s x
    have h2 : (((x :: s).length : Nat) : Int) = s.length + 1 := by simp
    have h3 : (p ++ m :: s).length = (p ++ x :: s).length := by simp
    have := ih (p ++ [m]) (m + 1) (i + 1) (by omega) (by omega) (by rw [len_snoc]; omega) (by rw [← snoc_mid, h3]; exact hl)
    rw [← snoc_mid] at this
    refine Ev.to (Ev.step' this fun k => ?_) (by rw [h2, ← snoc_mid]; simp only [List.length_cons, upFrom]; congr 1; omega)
    simp only [laws_markIntS.l0]
    rw [if_pos (by omega), if_pos (by omega), set_mid hi, w64 (by omega), w64 (by omega)]
theorem laws_markIntS_ev (l : List Int) (hl : l.length ≤ 109951162777) : Ev (fun k => laws_markIntS.f k l 1) (1 + l.length, upFrom 1 l.length) :=
  laws_markIntS_loop l [] 1 0 (by omega) (by omega) (by simp) (by simp; omega)

/-- How many numbers stand in the rows. -/
def sumLen : List (List Int) → Nat
  | [] => 0
  | x :: s => x.length + sumLen s
/-- The rows with the numbers m, m + 1, .. written over them. -/
def upRows (m : Nat) : List (List Int) → List (List Int)
  | [] => []
  | x :: s => upFrom (m : Int) x.length :: upRows (m + x.length) s
theorem upRows_len (L : List (List Int)) : ∀ m, (upRows m L).length = L.length := by
  induction L with
  | nil => intro m; rfl
  | cons x s ih => intro m; simp [upRows, ih]
/-- Rows of few numbers. -/
def rowsFew (L : List (List Int)) : Prop := L.length ≤ 1048576 ∧ ∀ x ∈ L, x.length ≤ 1000
theorem sumLen_le (L : List (List Int)) (h : ∀ x ∈ L, x.length ≤ 1000) : sumLen L ≤ L.length * 1000 := by
  induction L with
  | nil => simp [sumLen]
  | cons x s ih =>
    have h1 := h x (List.mem_cons_self ..)
    have h2 := ih fun y hy => h y (List.mem_cons_of_mem _ hy)
    simp only [sumLen, List.length_cons]; omega
theorem rowsFew_sum {L : List (List Int)} (h : rowsFew L) : 1 + sumLen L ≤ 1073741824 := by
  have h1 := sumLen_le L h.2
  have h2 := h.1
  omega

theorem laws_markIntSS_loop (s : List (List Int)) : ∀ (p : List (List Int)) (m : Nat) (i : Int), i = (p.length : Int) → (p ++ s).length ≤ 1073741824 → m + sumLen s ≤ 1073741824 →
    Ev (fun k => laws_markIntSS.l0 k (p ++ s) (m : Int) i) (((m + sumLen s : Nat) : Int), p ++ upRows m s) := by
  induction s with
  | nil =>
    intro p m i hi hl hs
    refine Ev.to (Ev.done fun k => ?_) (show ((m : Int), p ++ []) = _ by simp [upRows, sumLen])
    simp only [laws_markIntSS.l0]
    rw [if_neg (by rw [List.append_nil]; omega)]
  | cons x s ih =>
    intro p m i hi hl hs
    have h1 : (((p ++ x :: s).length : Nat) : Int) = p.length + s.length + 1 := by simp; omega
    have er : rd_L1 (p ++ x :: s) i = x := by subst hi; simp [rd_L1]
    have e2 : ∀ y : List Int, p ++ y :: s = (p ++ [y]) ++ s := fun y => by simp
    have es : sumLen (x :: s) = x.length + sumLen s := rfl
    have hlen : ((p ++ [upFrom (m : Int) x.length]) ++ s).length ≤ 1073741824 := by simp at hl ⊢; omega
    have := ih (p ++ [upFrom (m : Int) x.length]) (m + x.length) (i + 1) (by simp; omega) hlen (by omega)
    rw [← e2] at this
    refine Ev.succ ?_
    simp only [laws_markIntSS.l0]
    simp only [if_pos (show 0 ≤ i by omega), if_pos (show i < (((p ++ x :: s).length : Nat) : Int) by omega), er, show wrap64 (i + 1) = i + 1 from w64 (by omega)]
    have hM : Ev (fun k => laws_markIntS.f k x (m : Int)) (((m + x.length : Nat) : Int), upFrom (m : Int) x.length) := by
      have := laws_markIntS_loop x [] (m : Int) 0 (by omega) (by omega) (by simp) (by simp; omega)
      refine Ev.to this ?_
      simp
    refine Ev.bind hM ?_
    simp only [set_mid hi]
    refine Ev.to this ?_
    simp only [es, upRows]
    congr 1
    · omega
    · simp
theorem laws_markIntSS_ev (l : List (List Int)) (hl : l.length ≤ 1073741824) (hs : 1 + sumLen l ≤ 1073741824) : Ev (fun k => laws_markIntSS.f k l 1) (((1 + sumLen l : Nat) : Int), upRows 1 l) :=
  laws_markIntSS_loop l [] 1 0 (by simp) (by simpa using hl) hs

theorem laws_heldIntS_loop (n : Nat) : ∀ (p : List Int) (m i : Int), 0 ≤ m → m + n ≤ 1099511627776 → i = (p.length : Int) → p.length + n ≤ 1099511627776 →
    Ev (fun k => laws_heldIntS.l0 k (p ++ upFrom m n) m i) (m + n) := by
  induction n with
  | zero =>
    intro p m i hm hm' hi hl
    show Ev (fun k => laws_heldIntS.l0 k (p ++ []) m i) _
    refine Ev.to (Ev.done fun k => ?_) (show m = _ by simp)
    simp only [laws_heldIntS.l0]
    rw [if_neg (by rw [len_nil]; omega)]
  | succ n ih =>
    intro p m i hm hm' hi hl
    have h1 := len_mid p (upFrom (m + 1) n) m
    have := ih (p ++ [m]) (m + 1) (i + 1) (by omega) (by omega) (by rw [len_snoc]; omega) (by rw [List.length_append]; simp; omega)
    rw [← snoc_mid] at this
    show Ev (fun k => laws_heldIntS.l0 k (p ++ m :: upFrom (m + 1) n) m i) _
    refine Ev.to (Ev.step' this fun k => ?_) (by omega)
    simp only [laws_heldIntS.l0]
    rw [if_pos (by omega), if_pos (by omega), rd_mid hi, if_pos rfl, w64 (by omega), w64 (by omega)]
theorem laws_heldIntS_ev (n : Nat) (hn : n ≤ 109951162777) : Ev (fun k => laws_heldIntS.f k (upFrom 1 n) 1) (1 + n) :=
  laws_heldIntS_loop n [] 1 0 (by omega) (by omega) (by simp) (by simp; omega)

theorem laws_heldIntSS_loop (s : List (List Int)) : ∀ (p : List (List Int)) (m : Nat) (i : Int), i = (p.length : Int) → p.length + s.length ≤ 1073741824 → m + sumLen s ≤ 1073741824 →
    Ev (fun k => laws_heldIntSS.l0 k (p ++ upRows m s) (m : Int) i) ((m + sumLen s : Nat) : Int) := by
  induction s with
  | nil =>
    intro p m i hi hl hs
    refine Ev.to (Ev.done fun k => ?_) (show (m : Int) = _ by simp [sumLen])
    have e : ¬ i < (((p ++ upRows m []).length : Nat) : Int) := by simp [upRows]; omega
    simp only [laws_heldIntSS.l0]
    simp only [if_neg e]
  | cons x s ih =>
    intro p m i hi hl hs
    have hl' : p.length + s.length + 1 ≤ 1073741824 := by simp at hl; omega
    have h1 : (((p ++ upRows m (x :: s)).length : Nat) : Int) = p.length + s.length + 1 := by simp [upRows_len]; omega
    have er : rd_L1 (p ++ upRows m (x :: s)) i = upFrom (m : Int) x.length := by subst hi; simp [rd_L1, upRows]
    have es : sumLen (x :: s) = x.length + sumLen s := rfl
    have := ih (p ++ [upFrom (m : Int) x.length]) (m + x.length) (i + 1) (by simp; omega) (by simp; omega) (by omega)
    have e2 : (p ++ [upFrom (m : Int) x.length]) ++ upRows (m + x.length) s = p ++ upRows m (x :: s) := by simp [upRows]
    rw [e2] at this
    refine Ev.succ ?_
    simp only [laws_heldIntSS.l0]
    simp only [if_pos (show 0 ≤ i by omega), if_pos (show i < (((p ++ upRows m (x :: s)).length : Nat) : Int) by omega), er, show wrap64 (i + 1) = i + 1 from w64 (by omega)]
    have hH : Ev (fun k => laws_heldIntS.f k (upFrom (m : Int) x.length) (m : Int)) ((m + x.length : Nat) : Int) := by
      have := laws_heldIntS_loop x.length [] (m : Int) 0 (by omega) (by omega) (by simp) (by simp; omega)
      rw [List.nil_append] at this
      refine Ev.to this ?_
      omega
    refine Ev.bind hH ?_
    simp only [if_neg (show ¬ ((m + x.length : Nat) : Int) < 0 by omega)]
    refine Ev.to this ?_
    rw [es]; omega
theorem laws_heldIntSS_ev (l : List (List Int)) (hl : l.length ≤ 1073741824) (hs : 1 + sumLen l ≤ 1073741824) : Ev (fun k => laws_heldIntSS.f k (upRows 1 l) 1) ((1 + sumLen l : Nat) : Int) := by
  have := laws_heldIntSS_loop l [] 1 0 (by simp) (by simpa using hl) hs
  exact this

/-- What the law's straight walk asks of its calls: all at one number of rounds. -/
theorem exactRows {S I : Nat → Option (List (List Int) × Bool)} {L : List (List Int)} {b : Bool} (hs : Ev S (L, b)) (hi : Ev I (L, b)) (hf : rowsFew L) :
    ∃ k, S k = some (L, b) ∧ I k = some (L, b) ∧ laws_eqIntSS.f k L L = some true ∧ laws_markIntSS.f k L 1 = some (((1 + sumLen L : Nat) : Int), upRows 1 L) ∧ laws_heldIntSS.f k (upRows 1 L) 1 = some ((1 + sumLen L : Nat) : Int) := by
  have h1 := rowsFew_sum hf
  have h2 := hf.1
  obtain ⟨k1, hs⟩ := hs
  obtain ⟨k2, hi⟩ := hi
  obtain ⟨k3, he⟩ := laws_eqIntSS_self L (by omega) (fun x hx => Nat.le_trans (hf.2 x hx) (by omega))
  obtain ⟨k4, hm⟩ := laws_markIntSS_ev L (by omega) h1
  obtain ⟨k5, hh⟩ := laws_heldIntSS_ev L (by omega) h1
  refine ⟨k1 + k2 + k3 + k4 + k5, hs _ (by omega), hi _ (by omega), he _ (by omega), hm _ (by omega), hh _ (by omega)⟩

theorem spec_lyNext_l1 (k : Int) (hk : -1000 ≤ k ∧ k ≤ 1000) (r : List Int) : (∀ x ∈ r, 0 ≤ x ∧ x ≤ 5) → r.length ≤ 1000 → Ev (fun f => spec_lyNext.l1 f k r.reverse) (incR k r).reverse := by
  induction r with
  | nil => intro _ _; refine Ev.done fun f => ?_; simp only [spec_lyNext.l1]; rw [if_neg (by simp)]; rfl
  | cons x s ih =>
    intro hin hl
    have hx := hin x (List.mem_cons_self ..)
    have hl' : s.length + 1 ≤ 1000 := hl
    have e : (x :: s).reverse = s.reverse ++ x :: [] := by simp
    have el : (((s.reverse ++ x :: []).length : Nat) : Int) = (s.length : Int) + 1 := by simp
    have w1 : wrap64 ((s.length : Int) + 1 - 1) = (s.length : Int) := by rw [w64 (by omega)]; omega
    have w2 : wrap64 (k - 1) = k - 1 := w64 (by omega)
    have er : rd (s.reverse ++ x :: []) (s.length : Int) = x := rd_mid (by simp)
    have w3 : wrap64 (x + 1) = x + 1 := w64 (by omega)
    have et : (s.reverse ++ x :: []).take ((s.length : Int)).toNat = s.reverse := by
      rw [Int.toNat_natCast]; exact List.take_left' (by simp)
    have es : (s.reverse ++ x :: []).set ((s.length : Int)).toNat (x + 1) = s.reverse ++ (x + 1) :: [] := set_mid (by simp)
    rw [e]
    refine Ev.succ ?_
    simp only [spec_lyNext.l1]
    simp only [el, w1, w2, er, w3, et, es, if_pos (show (s.length : Int) + 1 > 0 by omega), if_pos (show 0 ≤ (s.length : Int) by omega), if_pos (show (s.length : Int) < (s.length : Int) + 1 by omega), if_pos (show (s.length : Int) ≤ (s.length : Int) + 1 by omega)]
    unfold incR
    by_cases h : x = k - 1
    · simp only [if_pos h]; exact ih (fun y hy => hin y (List.mem_cons_of_mem _ hy)) (by omega)
    · simp only [if_neg h]; exact Ev.some_ (by simp)
theorem spec_lyNext_l0 (w : List Int) (k : Int) (n : Nat) (h0 : 0 < w.length) (hl : w.length ≤ 1000) (hin : ∀ x ∈ w, 0 ≤ x ∧ x ≤ 5) (hk : -1000 ≤ k ∧ k ≤ 1000) (hn : n ≤ 1000) (d : Nat) : ∀ j, j + d = n →
    Ev (fun f => spec_lyNext.l0 f w (n : Int) k (repW w j)) (nxtW w n k) := by
  induction d with
  | zero =>
    intro j hj
    have e : j = n := by omega
    subst e
    have c1 : ¬ (((repW w j).length : Nat) : Int) < (j : Int) := by rw [repW_len]; omega
    refine Ev.succ ?_
    simp only [spec_lyNext.l0, if_neg c1]
    have := spec_lyNext_l1 k hk (repW w j).reverse (fun x hx => repW_in h0 hin j x (List.mem_reverse.1 hx)) (by rw [List.length_reverse, repW_len]; omega)
    rw [List.reverse_reverse] at this
    exact this
  | succ d ih =>
    intro j hj
    have hm : j % w.length < w.length := Nat.mod_lt _ h0
    have em : ((j : Nat) : Int) % ((w.length : Nat) : Int) = ((j % w.length : Nat) : Int) := rfl
    have er : rd w ((j % w.length : Nat) : Int) = w.getD (j % w.length) 0 := by unfold rd; rw [Int.toNat_natCast]
    have c0 : ¬ (w.length : Int) = 0 := by omega
    have c1 : (j : Int) < (n : Int) := by omega
    have c2 : 0 ≤ ((j % w.length : Nat) : Int) := by omega
    have c3 : ((j % w.length : Nat) : Int) < (w.length : Int) := by omega
    have c4 : j < 17592186044416 := by omega
    refine Ev.succ ?_
    simp only [spec_lyNext.l0]
    simp only [repW_len, if_pos c1, if_neg c0, em, if_pos c2, if_pos c3, er, if_pos c4, ← repW_succ]
    exact ih (j + 1) (by omega)
theorem spec_lyNext_ev (w : List Int) (k : Int) (n : Nat) (h0 : 0 < w.length) (hl : w.length ≤ 1000) (hin : ∀ x ∈ w, 0 ≤ x ∧ x ≤ 5) (hk : -1000 ≤ k ∧ k ≤ 1000) (hn : n ≤ 1000) :
    Ev (fun f => spec_lyNext.f f w (n : Int) k) (nxtW w n k) := spec_lyNext_l0 w k n h0 hl hin hk hn n 0 (by omega)

theorem impl_nextLyndon_l1 (k : Int) (hk : -1000 ≤ k ∧ k ≤ 1000) (r : List Int) : (∀ x ∈ r, 0 ≤ x ∧ x ≤ 5) → r.length ≤ 1000 → Ev (fun f => impl_nextLyndon.l1 f k r.reverse) (incR k r).reverse := by
  induction r with
  | nil => intro _ _; refine Ev.done fun f => ?_; simp only [impl_nextLyndon.l1]; rw [if_neg (by simp)]; rfl
  | cons x s ih =>
    intro hin hl
    have hx := hin x (List.mem_cons_self ..)
    have hl' : s.length + 1 ≤ 1000 := hl
    have e : (x :: s).reverse = s.reverse ++ x :: [] := by simp
    have el : (((s.reverse ++ x :: []).length : Nat) : Int) = (s.length : Int) + 1 := by simp
    have w1 : wrap64 ((s.length : Int) + 1 - 1) = (s.length : Int) := by rw [w64 (by omega)]; omega
    have w2 : wrap64 (k - 1) = k - 1 := w64 (by omega)
    have er : rd (s.reverse ++ x :: []) (s.length : Int) = x := rd_mid (by simp)
    have w3 : wrap64 (x + 1) = x + 1 := w64 (by omega)
    have et : (s.reverse ++ x :: []).take ((s.length : Int)).toNat = s.reverse := by
      rw [Int.toNat_natCast]; exact List.take_left' (by simp)
    have es : (s.reverse ++ x :: []).set ((s.length : Int)).toNat (x + 1) = s.reverse ++ (x + 1) :: [] := set_mid (by simp)
    rw [e]
    refine Ev.succ ?_
    simp only [impl_nextLyndon.l1]
    simp only [el, w1, w2, er, w3, et, es, if_pos (show (s.length : Int) + 1 > 0 by omega), if_pos (show 0 ≤ (s.length : Int) by omega), if_pos (show (s.length : Int) < (s.length : Int) + 1 by omega), if_pos (show (s.length : Int) ≤ (s.length : Int) + 1 by omega)]
    unfold incR
    by_cases h : x = k - 1
    · simp only [if_pos h]; exact ih (fun y hy => hin y (List.mem_cons_of_mem _ hy)) (by omega)
    · simp only [if_neg h]; exact Ev.some_ (by simp)
theorem impl_nextLyndon_l0 (w : List Int) (k : Int) (n : Nat) (h0 : 0 < w.length) (hl : w.length ≤ 1000) (hin : ∀ x ∈ w, 0 ≤ x ∧ x ≤ 5) (hk : -1000 ≤ k ∧ k ≤ 1000) (hn : n ≤ 1000) (d : Nat) : ∀ j : Nat, j + d = n →
    Ev (fun f => impl_nextLyndon.l0 f w k (repW w j) (n : Int) (j : Int)) (nxtW w n k) := by
  induction d with
  | zero =>
    intro j hj
    have e : j = n := by omega
    subst e
    have c1 : ¬ (j : Int) < (j : Int) := by omega
    refine Ev.succ ?_
    simp only [impl_nextLyndon.l0, if_neg c1]
    have := impl_nextLyndon_l1 k hk (repW w j).reverse (fun x hx => repW_in h0 hin j x (List.mem_reverse.1 hx)) (by rw [List.length_reverse, repW_len]; omega)
    rw [List.reverse_reverse] at this
    exact this
  | succ d ih =>
    intro j hj
    have hm : j % w.length < w.length := Nat.mod_lt _ h0
    have em : Int.tmod ((j : Nat) : Int) ((w.length : Nat) : Int) = ((j % w.length : Nat) : Int) := rfl
    have er : rd w ((j % w.length : Nat) : Int) = w.getD (j % w.length) 0 := by unfold rd; rw [Int.toNat_natCast]
    have c0 : ¬ (w.length : Int) = 0 := by omega
    have c1 : (j : Int) < (n : Int) := by omega
    have c2 : 0 ≤ ((j % w.length : Nat) : Int) := by omega
    have c3 : ((j % w.length : Nat) : Int) < (w.length : Int) := by omega
    have c4 : (repW w j).length < 17592186044416 := by rw [repW_len]; omega
    have b1 : j ≤ 1099511627776 := by omega
    refine Ev.succ ?_
    simp only [impl_nextLyndon.l0]
    simp only [if_pos c1, if_neg c0, em, if_pos c2, if_pos c3, er, if_pos c4, i_up b1, ← repW_succ]
    exact ih (j + 1) (by omega)
theorem impl_nextLyndon_ev (w : List Int) (k : Int) (n : Nat) (h0 : 0 < w.length) (hl : w.length ≤ 1000) (hin : ∀ x ∈ w, 0 ≤ x ∧ x ≤ 5) (hk : -1000 ≤ k ∧ k ≤ 1000) (hn : n ≤ 1000) :
    Ev (fun f => impl_nextLyndon.f f w (n : Int) k) (nxtW w n k) := by
  unfold impl_nextLyndon.f
  exact impl_nextLyndon_l0 w k n h0 hl hin hk hn n 0 (by omega)

theorem impl_copied_eq (l : List Int) (hl : l.length ≤ 1000000) : impl_copied.f l = some l := by
  unfold impl_copied.f
  rw [obind, if_pos (by simp; omega), List.nil_append]

theorem spec_l1In_eq (a b c : Int) : spec_l1In.f a b c = some (inB a b c) := inB_ite a b c

theorem impl_within_eq (a b c : Int) : impl_within.f a b c = some (inB a b c) := inB_ite a b c

def isKind (a b : Int) : Bool := inB a 1 12 && inB b 1 6
theorem spec_lyKind_eq (a b : Int) : spec_lyKind.f a b = some (isKind a b) := by
  unfold spec_lyKind.f isKind
  simp only [spec_l1In_eq, obind]
  cases inB a 1 12 <;> simp
theorem impl_isOver_eq (a b : Int) : impl_isOver.f a b = some (isKind a b) := by
  unfold impl_isOver.f isKind
  simp only [impl_within_eq, obind]
  cases inB a 1 12 <;> simp

theorem okw_in {n : Nat} {k : Int} {w : List Int} (h : Okw n k w) (hk : k ≤ 6) : ∀ x ∈ w, 0 ≤ x ∧ x ≤ 5 := fun x hx => by have := h.2 x hx; omega
/-- A word, q times. -/
def timesW (w : List Int) : Nat → List Int
  | 0 => []
  | q + 1 => timesW w q ++ w
theorem timesW_len (w : List Int) (q : Nat) : (timesW w q).length = q * w.length := by
  induction q with
  | zero => simp [timesW]
  | succ q ih => rw [timesW, List.length_append, ih, Nat.succ_mul]
def wholeW (n : Nat) (w : List Int) : List Int := timesW w (n / w.length)
theorem wholeW_len (n : Nat) (w : List Int) : (wholeW n w).length ≤ n := by
  unfold wholeW
  rw [timesW_len]
  exact Nat.div_mul_le_self n w.length
def divW (n : Nat) (w : List Int) : Bool := Nat.beq (n % w.length) 0
def necL (n : Nat) (L : List (List Int)) : List (List Int) := (L.filter (divW n)).map (wholeW n)
theorem tmod_nat (a b : Nat) : Int.tmod (a : Int) (b : Int) = ((a % b : Nat) : Int) := rfl
theorem divW_iff (n : Nat) (w : List Int) : divW n w = true ↔ n % w.length = 0 := by unfold divW; exact Nat.beq_eq ▸ Iff.rfl
/-! ### the reference -/
theorem spec_lyAll_l1 (n : Nat) (k : Int) (hn : n ≤ 12) (out : List (List Int)) (ho : out.length ≤ 1000000) (w : List Int) (h0 : 0 < w.length) (hw : w.length ≤ 12) (hd : n % w.length = 0) (R : List (List Int))
    (hr : Ev (fun f => (spec_lyNext.f f w (n : Int) k).bind fun t => spec_lyAll.l0 f (n : Int) k (out ++ [wholeW n w]) t) R) (d : Nat) : ∀ j, j + d = n / w.length →
    Ev (fun f => spec_lyAll.l1 f (n : Int) k out w (timesW w j)) R := by
  have hq : n / w.length * w.length = n := Nat.div_mul_cancel (Nat.dvd_of_mod_eq_zero hd)
  induction d with
  | zero =>
    intro j hj
    have ej : timesW w j = wholeW n w := by unfold wholeW; rw [show j = n / w.length by omega]
    have hl : (wholeW n w).length = n := by unfold wholeW; rw [timesW_len]; exact hq
    rw [ej]
    refine Ev.succ ?_
    simp only [spec_lyAll.l1, if_neg (show ¬ ((wholeW n w).length : Int) < (n : Int) by omega), if_pos (show out.length < 5864062014805 by omega)]
    exact hr
  | succ d ih =>
    intro j hj
    have hl := timesW_len w j
    have hlt : j * w.length < n := by
      have h1 : (j + 1) * w.length ≤ n / w.length * w.length := Nat.mul_le_mul_right _ (by omega)
      rw [hq, Nat.succ_mul] at h1
      omega
    refine Ev.succ ?_
    simp only [spec_lyAll.l1, if_pos (show ((timesW w j).length : Int) < (n : Int) by omega), if_pos (show (timesW w j).length + w.length < 17592186044416 by omega)]
    exact ih (j + 1) (by omega)
theorem spec_lyAll_l0 (n : Nat) (k : Int) (hn : n ≤ 12) (hk : 1 ≤ k ∧ k ≤ 6) (L : List (List Int)) : ∀ (w : List Int) (out : List (List Int)), Okw n k w → Chain n k w L → out.length + L.length ≤ 1000000 →
    Ev (fun f => spec_lyAll.l0 f (n : Int) k out w) (out ++ necL n L) := by
  induction L with
  | nil =>
    intro w out hw hc ho
    refine Ev.to (Ev.done fun f => ?_) (show out = out ++ necL n [] by simp [necL])
    simp only [spec_lyAll.l0]
    have : w.length = 0 := hc
    rw [if_neg (by omega)]
  | cons x s ih =>
    intro w out hw hc ho
    obtain ⟨h0, rfl, hc2⟩ := hc
    have hx := hw.1
    rw [List.length_cons] at ho
    have hN := spec_lyNext_ev x k n (by omega) (by omega) (okw_in hw hk.2) (by omega) (by omega)
    refine Ev.succ ?_
    simp only [spec_lyAll.l0, if_pos (show (x.length : Int) > 0 by omega), if_neg (show ¬ (x.length : Int) = 0 by omega), tmod_nat]
    by_cases hd : n % x.length = 0
    · simp only [if_pos (show ((n % x.length : Nat) : Int) = 0 by omega)]
      have hrest := ih (nxtW x n k) (out ++ [wholeW n x]) (okw_nxt (by omega) hw) hc2 (by simp; omega)
      have e : out ++ necL n (x :: s) = (out ++ [wholeW n x]) ++ necL n s := by
        unfold necL
        rw [List.filter_cons_of_pos ((divW_iff n x).2 hd)]
        simp
      rw [e]
      exact spec_lyAll_l1 n k hn out (by omega) x (by omega) (by omega) hd _ (Ev.bind hN hrest) (n / x.length) 0 (by omega)
    · simp only [if_neg (show ¬ ((n % x.length : Nat) : Int) = 0 by omega)]
      have hrest := ih (nxtW x n k) out (okw_nxt (by omega) hw) hc2 (by omega)
      have e : necL n (x :: s) = necL n s := by
        unfold necL
        rw [List.filter_cons_of_neg (fun h => hd ((divW_iff n x).1 h))]
      rw [e]
      exact Ev.bind hN hrest
/-! ### the program -/
theorem impl_lyndonWords_chain (n : Nat) (k : Int) (hn : n ≤ 12) (hk : 1 ≤ k ∧ k ≤ 6) (L : List (List Int)) : ∀ (w : List Int) (out : List (List Int)), Okw n k w → Chain n k w L → out.length + (L.filter (divW n)).length ≤ 1100 →
    Ev (fun f => impl_lyndonWords.l0 f (n : Int) k 1100 out w) (out ++ L.filter (divW n), true) := by
  induction L with
  | nil =>
    intro w out hw hc ho
    refine Ev.to (Ev.done fun f => ?_) (show (out, true) = (out ++ [].filter (divW n), true) by simp)
    simp only [impl_lyndonWords.l0]
    have : w.length = 0 := hc
    rw [if_neg (by omega)]
  | cons x s ih =>
    intro w out hw hc ho
    obtain ⟨h0, rfl, hc2⟩ := hc
    have hx := hw.1
    have hN := impl_nextLyndon_ev x k n (by omega) (by omega) (okw_in hw hk.2) (by omega) (by omega)
    refine Ev.succ ?_
    simp only [impl_lyndonWords.l0, if_pos (show (x.length : Int) > 0 by omega), impl_NecklacesOf_f1.f, if_neg (show ¬ (x.length : Int) = 0 by omega), tmod_nat, obind]
    by_cases hd : n % x.length = 0
    · rw [List.filter_cons_of_pos ((divW_iff n x).2 hd)] at ho ⊢
      rw [List.length_cons] at ho
      have hrest := ih (nxtW x n k) (out ++ [x]) (okw_nxt (by omega) hw) hc2 (by simp; omega)
      have hc3 : ¬ (((out ++ [x]).length : Nat) : Int) > 1100 := by simp; omega
      have hb : ((((n % x.length : Nat) : Int)) == 0) = true := by rw [beq_iff_eq]; omega
      simp only [hb, if_true, impl_copied_eq x (by omega), obind, if_pos (show out.length < 5864062014805 by omega), if_neg hc3]
      refine Ev.bind hN ?_
      exact Ev.to hrest (by simp)
    · rw [List.filter_cons_of_neg (fun h => hd ((divW_iff n x).1 h))] at ho ⊢
      have hrest := ih (nxtW x n k) out (okw_nxt (by omega) hw) hc2 ho
      have hb : ((((n % x.length : Nat) : Int)) == 0) = false := by rw [beq_eq_false_iff_ne]; omega
      simp only [hb, Bool.false_eq_true, if_false]
      exact Ev.bind hN hrest
theorem impl_repeated_l0 (w : List Int) (hw : w.length ≤ 12) (q : Nat) (hq : q ≤ 12) (d : Nat) : ∀ j, j + d = q → Ev (fun f => impl_repeated.l0 f w (timesW w j) (q : Int) (j : Int)) (timesW w q) := by
  induction d with
  | zero =>
    intro j hj
    have e : j = q := by omega
    subst e
    refine Ev.done fun f => ?_
    simp only [impl_repeated.l0]
    rw [if_neg (by omega)]
  | succ d ih =>
    intro j hj
    have hl := timesW_len w j
    have hm : j * w.length ≤ 12 * 12 := Nat.mul_le_mul (by omega) hw
    refine Ev.succ ?_
    simp only [impl_repeated.l0, if_pos (show (j : Int) < (q : Int) by omega), if_pos (show (timesW w j).length + w.length < 17592186044416 by omega), i_up (show j ≤ 1099511627776 by omega)]
    exact ih (j + 1) (by omega)
theorem impl_repeated_ev (n : Nat) (hn : n ≤ 12) (w : List Int) (h0 : 0 < w.length) (hw : w.length ≤ 12) : Ev (fun f => impl_repeated.f f w (n : Int)) (wholeW n w) := by
  unfold impl_repeated.f wholeW
  have hq : n / w.length ≤ n := Nat.div_le_self _ _
  simp only [if_neg (show ¬ (w.length : Int) = 0 by omega), i_div (rank := n) (g := w.length) (by omega)]
  exact impl_repeated_l0 w hw (n / w.length) (by omega) (n / w.length) 0 (by omega)
theorem impl_NecklacesOf_l0 (n : Nat) (hn : n ≤ 12) (s : List (List Int)) : ∀ (p : List (List Int)) (i : Int), i = (p.length : Int) → (p ++ s).length ≤ 1000000 → (∀ x ∈ s, 0 < x.length ∧ x.length ≤ 12) →
    Ev (fun f => impl_NecklacesOf.l0 f (n : Int) (p ++ s) i) (p ++ s.map (wholeW n)) := by
  induction s with
  | nil =>
    intro p i hi hl hs
    refine Ev.to (Ev.done fun f => ?_) (show p ++ [] = _ by simp)
    simp only [impl_NecklacesOf.l0]
    rw [if_neg (by rw [List.append_nil]; omega)]
  | cons x s ih =>
    intro p i hi hl hs
    have h1 : (((p ++ x :: s).length : Nat) : Int) = p.length + s.length + 1 := by simp; omega
    have er : rd_L1 (p ++ x :: s) i = x := by subst hi; simp [rd_L1]
    have e2 : ∀ y : List Int, p ++ y :: s = (p ++ [y]) ++ s := fun y => by simp
    obtain ⟨hx0, hx1⟩ := hs x (List.mem_cons_self ..)
    have hl' : ((p ++ [wholeW n x]) ++ s).length ≤ 1000000 := by simp at hl ⊢; omega
    have := ih (p ++ [wholeW n x]) (i + 1) (by simp; omega) hl' (fun y hy => hs y (List.mem_cons_of_mem _ hy))
    rw [← e2] at this
    refine Ev.succ ?_
    simp only [impl_NecklacesOf.l0, if_pos (show i < (((p ++ x :: s).length : Nat) : Int) by omega), if_pos (show 0 ≤ i by omega), er, show wrap64 (i + 1) = i + 1 from w64 (by omega)]
    refine Ev.bind (impl_repeated_ev n hn x hx0 hx1) ?_
    simp only [set_mid hi]
    exact Ev.to this (by simp)
/-! ### how many: the kernel looks -/
def nekP (n k : Nat) : Bool :=
  match spec_lyNecklaces.f 200 (n : Int) (k : Int), impl_countNecklaces.f 200 (n : Int) (k : Int) with
  | some c, some d => decide (c = d) && (decide (1100 < c) || match cntE n (k : Int) (fun l => Nat.beq (n % l) 0) 1400 1 0 with
    | some m => Nat.ble m 1100
    | none => false)
  | _, _ => false
set_option maxRecDepth 100000 in
theorem nekP_all : ((List.range 13).all fun n => (List.range 7).all fun k => !Nat.ble 1 n || !Nat.ble 1 k || nekP n k) = true := by
  decide +kernel
theorem nek_told {n k : Nat} (hn : 1 ≤ n ∧ n ≤ 12) (hk : 1 ≤ k ∧ k ≤ 6) :
    ∃ c : Int, Ev (fun f => spec_lyNecklaces.f f (n : Int) (k : Int)) c ∧ Ev (fun f => impl_countNecklaces.f f (n : Int) (k : Int)) c ∧ (1100 < c ∨ (¬ 1100 < c ∧ ∃ L, Chain n (k : Int) [0] L ∧ (L.filter (divW n)).length ≤ 1100 ∧ L.length < 1400)) := by
  have h1 := List.all_eq_true.1 nekP_all n (by rw [List.mem_range]; omega)
  have h2 := List.all_eq_true.1 h1 k (by rw [List.mem_range]; omega)
  rw [Nat.ble_eq_true_of_le hn.1, Nat.ble_eq_true_of_le hk.1] at h2
  simp only [Bool.not_true, Bool.false_or] at h2
  unfold nekP at h2
  cases hs : spec_lyNecklaces.f 200 (n : Int) (k : Int) with
  | none => rw [hs] at h2; simp at h2
  | some c =>
    cases hi : impl_countNecklaces.f 200 (n : Int) (k : Int) with
    | none => rw [hs, hi] at h2; simp at h2
    | some d =>
      rw [hs, hi] at h2
      simp only [Bool.and_eq_true, decide_eq_true_iff] at h2
      obtain ⟨rfl, h3⟩ := h2
      refine ⟨c, Ev.of (fun f => spec_lyNecklaces.mono _ _ _) hs, Ev.of (fun f => impl_countNecklaces.mono _ _ _) hi, ?_⟩
      by_cases hc : 1100 < c
      · exact .inl hc
      · rw [decide_eq_false hc, Bool.false_or] at h3
        right
        refine ⟨hc, ?_⟩
        cases he : cntE n (k : Int) (fun l => Nat.beq (n % l) 0) 1400 1 0 with
        | none => rw [he] at h3; cases h3
        | some m =>
          rw [he] at h3
          obtain ⟨L, g1, g2, g3⟩ := cntE_chain hn.2 (by omega) (fun l => Nat.beq (n % l) 0) 1400 [0] 0 m (okw_one hn.1 (by omega)) he
          refine ⟨L, g1, ?_, g3⟩
          have h4 : m ≤ 1100 := Nat.le_of_ble_eq_true h3
          have h5 : m = (L.filter (divW n)).length := by rw [g2, Nat.zero_add]; rfl
          rw [← h5]; exact h4
theorem isKind_tr {a b : Int} (h : isKind a b = true) : (1 ≤ a ∧ a ≤ 12) ∧ 1 ≤ b ∧ b ≤ 6 := by
  unfold isKind at h; rw [Bool.and_eq_true, inB_true, inB_true] at h; exact h
theorem NecklacesOf_both (a0 a1 : Int) : ∃ (R : List (List Int) × Bool), Ev (fun f => spec_NecklacesOf.f f a0 a1) R ∧ Ev (fun f => impl_NecklacesOf.f f a0 a1) R ∧ rowsFew R.1 := by
  unfold spec_NecklacesOf.f impl_NecklacesOf.f
  simp only [spec_lyKind_eq, impl_isOver_eq, obind]
  cases h : isKind a0 a1 with
  | false =>
    simp only [Bool.false_eq_true, if_false]
    exact ⟨_, Ev.now _, Ev.now _, by simp, by simp⟩
  | true =>
    obtain ⟨h1, h2⟩ := isKind_tr h
    obtain ⟨n, rfl⟩ : ∃ n : Nat, a0 = (n : Int) := ⟨a0.toNat, by omega⟩
    obtain ⟨k, rfl⟩ : ∃ k : Nat, a1 = (k : Int) := ⟨a1.toNat, by omega⟩
    simp only [if_true]
    obtain ⟨c, hs, hi, hc | ⟨hc, L, g1, g2, g3⟩⟩ := nek_told (n := n) (k := k) (by omega) (by omega)
    · refine ⟨([], false), Ev.bind hs ?_, Ev.bind hi ?_, by simp, by simp⟩
      · simp only [if_pos (show c > 1100 by omega)]; exact Ev.now _
      · simp only [if_pos (show c > 1100 by omega)]; exact Ev.now _
    · have hw : Okw n (k : Int) [0] := okw_one (by omega) (by omega)
      have hok := chain_ok L [0] hw g1
      refine ⟨(necL n L, true), Ev.bind hs ?_, Ev.bind hi ?_, ?_, ?_⟩
      · simp only [if_neg (show ¬ c > 1100 by omega)]
        have := spec_lyAll_l0 n (k : Int) (by omega) (by omega) L [0] [] hw g1 (by simp; omega)
        refine Ev.bind (a := necL n L) ?_ (Ev.now _)
        unfold spec_lyAll.f
        exact this
      · simp only [if_neg (show ¬ c > 1100 by omega)]
        have h3 := impl_lyndonWords_chain n (k : Int) (by omega) (by omega) L [0] [] hw g1 (by simpa using g2)
        have h4 := impl_NecklacesOf_l0 n (by omega) (L.filter (divW n)) [] 0 rfl (by simp; omega) (fun x hx => by
          have h5 := hok x (List.mem_filter.1 hx).1
          have := h5.1.1
          omega)
        refine Ev.bind (a := (L.filter (divW n), true)) ?_ (Ev.bind (a := necL n L) ?_ (Ev.now _))
        · unfold impl_lyndonWords.f
          exact h3
        · exact h4
      · show (necL n L).length ≤ 1048576
        unfold necL
        rw [List.length_map]
        omega
      · intro x hx
        have hx : x ∈ necL n L := hx
        obtain ⟨y, _, rfl⟩ := List.mem_map.1 hx
        have := wholeW_len n y
        omega

theorem FnExactNecklacesOf_walk (a0 a1 : Int) (w : World) : Calls Try.prog 5 #[.int .i64 a0, .int .i64 a1] w fun e w' => e = .returned (.bool true) ∧ Below w.heap.size w w' := by
  obtain ⟨R, hs, hi, hf⟩ := NecklacesOf_both a0 a1
  obtain ⟨L, b⟩ := R
  obtain ⟨k, h1, h2, h3, h4, h5⟩ := exactRows hs hi hf
  exact laws_FnExactNecklacesOf.straight k a0 a1 L _ b _ w h1 h2 h3 h4 (upRows_len L 1) h5 (by omega)

end Go.Proofs.Ytoledgkfohkfkaa.Pure
