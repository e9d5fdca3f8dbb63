/- The program's LyndonFactors returns what the reference's returns, for every list of whole numbers: the walk of the law. -/
import Derived.Test.YtmcmglclgdgdnaaHandFnExactLyndonFactors
import Derived.Test.YtmcmglclgdgdnaaCoreA
import Derived.Test.YtmcmglclgdgdnaaCoreL
import Derived.Test.YtmcmglclgdgdnaaCoreM
import Derived.Test.YtmcmglclgdgdnaaCoreR
import Derived.Test.YtmcmglclgdgdnaaCoreLy
namespace Go.Proofs.Ytmcmglclgdgdnaa.Pure
open Go.RowKit Go.Proofs.Ytmcmglclgdgdnaa.HFnExactLyndonFactors Go.Proofs.YtmcmglclgdgdnaaW.PrintWords Go.Proofs.YtmcmglclgdgdnaaW.PrintLast Go.Proofs.YtmcmglclgdgdnaaW.PrintMore Go.Proofs.Ytmcmglclgdgdnaa.Core
open Go.RowKit Go.Proofs.YtmcmglclgdgdnaaW.PrintWords Go.Proofs.YtmcmglclgdgdnaaW.PrintLast Go.Proofs.YtmcmglclgdgdnaaW.PrintMore
set_option linter.unusedVariables false
set_option linter.unusedSimpArgs false

theorem laws_eqIntS_loop (s : List Int) : ∀ (p q t : List Int) (i : Int), t.length = s.length → q.length = p.length → i = (p.length : Int) → (p ++ s).length ≤ 1099511627776 →
    Ev (fun k => laws_eqIntS.l0 k (p ++ s) (q ++ t) i) (decide (s = t)) := by
  induction s with
  | nil =>
    intro p q t i ht hq hi hl
    have ht0 : t = [] := List.eq_nil_of_length_eq_zero ht
    subst ht0
    refine Ev.done fun k => ?_
    simp only [laws_eqIntS.l0]
    rw [if_neg (by rw [len_nil]; omega)]
    simp
  | cons x s ih =>
    intro p q t i ht hq hi hl
    cases t with
    | nil => simp at ht
    | cons y t =>
      have ht' : t.length = s.length := by simpa using ht
      have h1 := len_mid p s x
      have h2 := len_mid q t y
      by_cases hxy : x = y
      · have := ih (p ++ [x]) (q ++ [y]) t (i + 1) ht' (by simp [hq]) (by rw [len_snoc]; omega) (by rw [← snoc_mid]; exact hl)
        rw [← snoc_mid, ← snoc_mid] at this
        refine Ev.to (Ev.step' this fun k => ?_) (by simp [hxy])
        simp only [laws_eqIntS.l0]
        rw [if_pos (by omega), if_pos (by omega), if_pos (by omega), rd_mid hi, rd_mid (by omega), if_pos hxy, w64 (by omega)]
      · refine Ev.to (Ev.done fun k => ?_) (show false = _ by simp [hxy])
        simp only [laws_eqIntS.l0]
        rw [if_pos (by omega), if_pos (by omega), if_pos (by omega), rd_mid hi, rd_mid (by omega), if_neg hxy]
theorem laws_eqIntS_ev (l t : List Int) (hl : l.length ≤ 1099511627776) : Ev (fun k => laws_eqIntS.f k l t) (decide (l = t)) := by
  by_cases h : l.length = t.length
  · have := laws_eqIntS_loop l [] [] t 0 h.symm rfl (by simp) (by simpa using hl)
    simp only [List.nil_append] at this
    refine Ev.congr (fun k => ?_) this
    unfold laws_eqIntS.f
    rw [if_pos (by omega)]
  · refine Ev.to (Ev.congr (fun k => ?_) (Ev.now false)) (by rw [decide_eq_false]; exact fun e => h (by rw [e]))
    unfold laws_eqIntS.f
    rw [if_neg (by omega)]

theorem laws_markIntS_loop (s : List Int) : ∀ (p : List Int) (m i : Int), 0 ≤ m → m + s.length ≤ 1099511627776 → i = (p.length : Int) → (p ++ s).length ≤ 1099511627776 →
    Ev (fun k => laws_markIntS.l0 k (p ++ s) m i) (m + s.length, p ++ upFrom m s.length) := by
  induction s with
  | nil =>
    intro p m i hm hm' hi hl
    refine Ev.to (Ev.done fun k => ?_) (show (m, p ++ []) = _ by simp [upFrom])
    simp only [laws_markIntS.l0]
    rw [if_neg (by rw [len_nil]; omega)]
  | cons x s ih =>
    intro p m i hm hm' hi hl
    have h1 := len_mid p s x
    have h2 : (((x :: s).length : Nat) : Int) = s.length + 1 := by simp
    have h3 : (p ++ m :: s).length = (p ++ x :: s).length := by simp
    have := ih (p ++ [m]) (m + 1) (i + 1) (by omega) (by omega) (by rw [len_snoc]; omega) (by rw [← snoc_mid, h3]; exact hl)
    rw [← snoc_mid] at this
    refine Ev.to (Ev.step' this fun k => ?_) (by rw [h2, ← snoc_mid]; simp only [List.length_cons, upFrom]; congr 1; omega)
    simp only [laws_markIntS.l0]
    rw [if_pos (by omega), if_pos (by omega), set_mid hi, w64 (by omega), w64 (by omega)]
theorem laws_markIntS_ev (l : List Int) (hl : l.length ≤ 109951162777) : Ev (fun k => laws_markIntS.f k l 1) (1 + l.length, upFrom 1 l.length) :=
  laws_markIntS_loop l [] 1 0 (by omega) (by omega) (by simp) (by simp; omega)

theorem laws_heldIntS_loop (n : Nat) : ∀ (p : List Int) (m i : Int), 0 ≤ m → m + n ≤ 1099511627776 → i = (p.length : Int) → p.length + n ≤ 1099511627776 →
    Ev (fun k => laws_heldIntS.l0 k (p ++ upFrom m n) m i) (m + n) := by
  induction n with
  | zero =>
    intro p m i hm hm' hi hl
    show Ev (fun k => laws_heldIntS.l0 k (p ++ []) m i) _
    refine Ev.to (Ev.done fun k => ?_) (show m = _ by simp)
    simp only [laws_heldIntS.l0]
    rw [if_neg (by rw [len_nil]; omega)]
  | succ n ih =>
    intro p m i hm hm' hi hl
    have h1 := len_mid p (upFrom (m + 1) n) m
    have := ih (p ++ [m]) (m + 1) (i + 1) (by omega) (by omega) (by rw [len_snoc]; omega) (by rw [List.length_append]; simp; omega)
    rw [← snoc_mid] at this
    show Ev (fun k => laws_heldIntS.l0 k (p ++ m :: upFrom (m + 1) n) m i) _
    refine Ev.to (Ev.step' this fun k => ?_) (by omega)
    simp only [laws_heldIntS.l0]
    rw [if_pos (by omega), if_pos (by omega), rd_mid hi, if_pos rfl, w64 (by omega), w64 (by omega)]
theorem laws_heldIntS_ev (n : Nat) (hn : n ≤ 109951162777) : Ev (fun k => laws_heldIntS.f k (upFrom 1 n) 1) (1 + n) :=
  laws_heldIntS_loop n [] 1 0 (by omega) (by omega) (by simp) (by simp; omega)

theorem laws_eqIntSS_loop (s : List (List Int)) : ∀ (p : List (List Int)) (i : Int), i = (p.length : Int) → (p ++ s).length ≤ 1073741824 → (∀ x ∈ s, x.length ≤ 1073741824) →
    Ev (fun k => laws_eqIntSS.l0 k (p ++ s) (p ++ s) i) true := by
  induction s with
  | nil =>
    intro p i hi hl hs
    refine Ev.done fun k => ?_
    simp only [laws_eqIntSS.l0]
    rw [if_neg (by rw [List.append_nil]; omega)]
  | cons x s ih =>
    intro p i hi hl hs
    have h1 : (((p ++ x :: s).length : Nat) : Int) = p.length + s.length + 1 := by simp; omega
    have er : rd_L1 (p ++ x :: s) i = x := by subst hi; simp [rd_L1]
    have e2 : p ++ x :: s = (p ++ [x]) ++ s := by simp
    have := ih (p ++ [x]) (i + 1) (by simp; omega) (by rw [← e2]; exact hl) (fun y hy => hs y (List.mem_cons_of_mem _ hy))
    rw [← e2] at this
    refine Ev.succ ?_
    simp only [laws_eqIntSS.l0]
    simp only [if_pos (show 0 ≤ i by omega), if_pos (show i < (((p ++ x :: s).length : Nat) : Int) by omega), er, show wrap64 (i + 1) = i + 1 from w64 (by omega)]
    refine Ev.bind (laws_eqIntS_ev x x (by have := hs x (List.mem_cons_self ..); omega)) ?_
    simp only [decide_true, if_true]
    exact this
theorem laws_eqIntSS_self (l : List (List Int)) (hl : l.length ≤ 1073741824) (hs : ∀ x ∈ l, x.length ≤ 1073741824) : Ev (fun k => laws_eqIntSS.f k l l) true := by
  unfold laws_eqIntSS.f
  simp only [if_true]
  exact laws_eqIntSS_loop l [] 0 (by simp) (by simpa using hl) hs

/-- How many numbers stand in the rows. -/
def sumLen : List (List Int) → Nat
  | [] => 0
  | x :: s => x.length + sumLen s
/-- The rows with the numbers m, m + 1, .. written over them. -/
def upRows (m : Nat) : List (List Int) → List (List Int)
  | [] => []
  | x :: s => upFrom (m : Int) x.length :: upRows (m + x.length) s
theorem upRows_len (L : List (List Int)) : ∀ m, (upRows m L).length = L.length := by
  induction L with
  | nil => intro m; rfl
  | cons x s ih => intro m; simp [upRows, ih]
theorem laws_markIntSS_loop (s : List (List Int)) : ∀ (p : List (List Int)) (m : Nat) (i : Int), i = (p.length : Int) → (p ++ s).length ≤ 1073741824 → m + sumLen s ≤ 1073741824 →
    Ev (fun k => laws_markIntSS.l0 k (p ++ s) (m : Int) i) (((m + sumLen s : Nat) : Int), p ++ upRows m s) := by
  induction s with
  | nil =>
    intro p m i hi hl hs
    refine Ev.to (Ev.done fun k => ?_) (show ((m : Int), p ++ []) = _ by simp [upRows, sumLen])
    simp only [laws_markIntSS.l0]
    rw [if_neg (by rw [List.append_nil]; omega)]
  | cons x s ih =>
    intro p m i hi hl hs
    have h1 : (((p ++ x :: s).length : Nat) : Int) = p.length + s.length + 1 := by simp; omega
    have er : rd_L1 (p ++ x :: s) i = x := by subst hi; simp [rd_L1]
    have e2 : ∀ y : List Int, p ++ y :: s = (p ++ [y]) ++ s := fun y => by simp
    have es : sumLen (x :: s) = x.length + sumLen s := rfl
    have hlen : ((p ++ [upFrom (m : Int) x.length]) ++ s).length ≤ 1073741824 := by simp at hl ⊢; omega
    have := ih (p ++ [upFrom (m : Int) x.length]) (m + x.length) (i + 1) (by simp; omega) hlen (by omega)
    rw [← e2] at this
    refine Ev.succ ?_
    simp only [laws_markIntSS.l0]
    simp only [if_pos (show 0 ≤ i by omega), if_pos (show i < (((p ++ x :: s).length : Nat) : Int) by omega), er, show wrap64 (i + 1) = i + 1 from w64 (by omega)]
    have hM : Ev (fun k => laws_markIntS.f k x (m : Int)) (((m + x.length : Nat) : Int), upFrom (m : Int) x.length) := by
      have := laws_markIntS_loop x [] (m : Int) 0 (by omega) (by omega) (by simp) (by simp; omega)
      refine Ev.to this ?_
      simp
    refine Ev.bind hM ?_
    simp only [set_mid hi]
    refine Ev.to this ?_
    simp only [es, upRows]
    congr 1
    · omega
    · simp
theorem laws_markIntSS_ev (l : List (List Int)) (hl : l.length ≤ 1073741824) (hs : 1 + sumLen l ≤ 1073741824) : Ev (fun k => laws_markIntSS.f k l 1) (((1 + sumLen l : Nat) : Int), upRows 1 l) :=
  laws_markIntSS_loop l [] 1 0 (by simp) (by simpa using hl) hs
theorem laws_heldIntSS_loop (s : List (List Int)) : ∀ (p : List (List Int)) (m : Nat) (i : Int), i = (p.length : Int) → p.length + s.length ≤ 1073741824 → m + sumLen s ≤ 1073741824 →
    Ev (fun k => laws_heldIntSS.l0 k (p ++ upRows m s) (m : Int) i) ((m + sumLen s : Nat) : Int) := by
  induction s with
  | nil =>
    intro p m i hi hl hs
    refine Ev.to (Ev.done fun k => ?_) (show (m : Int) = _ by simp [sumLen])
    have e : ¬ i < (((p ++ upRows m []).length : Nat) : Int) := by simp [upRows]; omega
    simp only [laws_heldIntSS.l0]
    simp only [if_neg e]
  | cons x s ih =>
    intro p m i hi hl hs
    have hl' : p.length + s.length + 1 ≤ 1073741824 := by simp at hl; omega
    have h1 : (((p ++ upRows m (x :: s)).length : Nat) : Int) = p.length + s.length + 1 := by simp [upRows_len]; omega
    have er : rd_L1 (p ++ upRows m (x :: s)) i = upFrom (m : Int) x.length := by subst hi; simp [rd_L1, upRows]
    have es : sumLen (x :: s) = x.length + sumLen s := rfl
    have := ih (p ++ [upFrom (m : Int) x.length]) (m + x.length) (i + 1) (by simp; omega) (by simp; omega) (by omega)
    have e2 : (p ++ [upFrom (m : Int) x.length]) ++ upRows (m + x.length) s = p ++ upRows m (x :: s) := by simp [upRows]
    rw [e2] at this
    refine Ev.succ ?_
    simp only [laws_heldIntSS.l0]
    simp only [if_pos (show 0 ≤ i by omega), if_pos (show i < (((p ++ upRows m (x :: s)).length : Nat) : Int) by omega), er, show wrap64 (i + 1) = i + 1 from w64 (by omega)]
    have hH : Ev (fun k => laws_heldIntS.f k (upFrom (m : Int) x.length) (m : Int)) ((m + x.length : Nat) : Int) := by
      have := laws_heldIntS_loop x.length [] (m : Int) 0 (by omega) (by omega) (by simp) (by simp; omega)
      rw [List.nil_append] at this
      refine Ev.to this ?_
      omega
    refine Ev.bind hH ?_
    simp only [if_neg (show ¬ ((m + x.length : Nat) : Int) < 0 by omega)]
    refine Ev.to this ?_
    rw [es]; omega
theorem laws_heldIntSS_ev (l : List (List Int)) (hl : l.length ≤ 1073741824) (hs : 1 + sumLen l ≤ 1073741824) : Ev (fun k => laws_heldIntSS.f k (upRows 1 l) 1) ((1 + sumLen l : Nat) : Int) := by
  have := laws_heldIntSS_loop l [] 1 0 (by simp) (by simpa using hl) hs
  exact this
/-- Rows of few numbers. -/
def rowsFew (L : List (List Int)) : Prop := L.length ≤ 1048576 ∧ ∀ x ∈ L, x.length ≤ 1000
theorem sumLen_le (L : List (List Int)) (h : ∀ x ∈ L, x.length ≤ 1000) : sumLen L ≤ L.length * 1000 := by
  induction L with
  | nil => simp [sumLen]
  | cons x s ih =>
    have h1 := h x (List.mem_cons_self ..)
    have h2 := ih fun y hy => h y (List.mem_cons_of_mem _ hy)
    simp only [sumLen, List.length_cons]; omega
theorem rowsFew_sum {L : List (List Int)} (h : rowsFew L) : 1 + sumLen L ≤ 1073741824 := by
  have h1 := sumLen_le L h.2
  have h2 := h.1
  omega
/-- What the law's straight walk asks of its calls: all at one number of rounds. -/
theorem exactRows {S I : Nat → Option (List (List Int) × Bool)} {L : List (List Int)} {b : Bool} (hs : Ev S (L, b)) (hi : Ev I (L, b)) (hf : rowsFew L) :
    ∃ k, S k = some (L, b) ∧ I k = some (L, b) ∧ laws_eqIntSS.f k L L = some true ∧ laws_markIntSS.f k L 1 = some (((1 + sumLen L : Nat) : Int), upRows 1 L) ∧ laws_heldIntSS.f k (upRows 1 L) 1 = some ((1 + sumLen L : Nat) : Int) := by
  have h1 := rowsFew_sum hf
  have h2 := hf.1
  obtain ⟨k1, hs⟩ := hs
  obtain ⟨k2, hi⟩ := hi
  obtain ⟨k3, he⟩ := laws_eqIntSS_self L (by omega) (fun x hx => Nat.le_trans (hf.2 x hx) (by omega))
  obtain ⟨k4, hm⟩ := laws_markIntSS_ev L (by omega) h1
  obtain ⟨k5, hh⟩ := laws_heldIntSS_ev L (by omega) h1
  refine ⟨k1 + k2 + k3 + k4 + k5, hs _ (by omega), hi _ (by omega), he _ (by omega), hm _ (by omega), hh _ (by omega)⟩

theorem laws_toIntS_loop (s : List Int) : ∀ (p q : List Int) (i : Int), q.length = s.length → i = (p.length : Int) → (p ++ s).length ≤ 1099511627776 →
    Ev (fun k => laws_toIntS.l0 k (p ++ s) (p ++ q) i) (p ++ s) := by
  induction s with
  | nil =>
    intro p q i hq hi hl
    have hq0 : q = [] := List.eq_nil_of_length_eq_zero hq
    subst hq0
    refine Ev.done fun k => ?_
    simp only [laws_toIntS.l0]
    rw [if_neg (by rw [len_nil]; omega)]
  | cons x s ih =>
    intro p q i hq hi hl
    cases q with
    | nil => simp at hq
    | cons y q =>
      have hq' : q.length = s.length := by simpa using hq
      have h1 := len_mid p s x
      have h2 := len_mid p q y
      have := ih (p ++ [x]) q (i + 1) hq' (by rw [len_snoc]; omega) (by rw [← snoc_mid]; exact hl)
      rw [← snoc_mid, ← snoc_mid] at this
      refine Ev.step' this fun k => ?_
      simp only [laws_toIntS.l0]
      rw [if_pos (by omega), if_pos (by omega), if_pos (by omega), rd_mid hi, set_mid hi, w64 (by omega)]
theorem laws_toIntS_ev (l : List Int) (hl : l.length ≤ 1099511627776) : Ev (fun k => laws_toIntS.f k l) l := by
  have := laws_toIntS_loop l [] (List.replicate l.length 0) 0 (by simp) (by simp) (by simpa using hl)
  simp only [List.nil_append] at this
  refine Ev.congr (fun k => ?_) this
  unfold laws_toIntS.f
  rw [if_pos (by omega), if_pos (by omega)]
  simp only [Int.toNat_natCast]

theorem mem_flat_len {L : List (List Int)} {x : List Int} (h : x ∈ L) : x.length ≤ L.flatten.length := by
  induction L with
  | nil => cases h
  | cons y s ih =>
    rw [List.flatten_cons, List.length_append]
    rcases List.mem_cons.1 h with rfl | h
    · omega
    · have := ih h; omega
/-- What the straight walk of a law over a list asks of its calls: all at one number of rounds. -/
theorem exactList {S I : Nat → Option (List (List Int) × Bool)} {l : List Int} {L : List (List Int)} {b : Bool} (hl : l.length ≤ 1048576) (hs : Ev S (L, b)) (hi : Ev I (L, b)) (hf : rowsFew L) :
    ∃ (k : Nat) (m mx : Int) (M : List (List Int)) (X : List Int), laws_toIntS.f k l = some l ∧ S k = some (L, b) ∧ I k = some (L, b) ∧ laws_eqIntSS.f k L L = some true ∧ laws_eqIntS.f k l l = some true ∧ laws_markIntS.f k l 1 = some (mx, X) ∧ ¬ mx < 0 ∧
      laws_markIntSS.f k L 1 = some (m, M) ∧ M.length = L.length ∧ laws_heldIntSS.f k M 1 = some m ∧ ¬ m < 0 := by
  have h1 := rowsFew_sum hf
  have h2 := hf.1
  have h0 : (0 : Int) ≤ (l.length : Int) := Int.natCast_nonneg _
  have hx := laws_eqIntS_ev l l (by omega)
  rw [decide_eq_true rfl] at hx
  obtain ⟨k1, hs⟩ := hs
  obtain ⟨k2, hi⟩ := hi
  obtain ⟨k3, he⟩ := laws_eqIntSS_self L (by omega) (fun x hx => Nat.le_trans (hf.2 x hx) (by omega))
  obtain ⟨k4, hm⟩ := laws_markIntSS_ev L (by omega) h1
  obtain ⟨k5, hh⟩ := laws_heldIntSS_ev L (by omega) h1
  obtain ⟨k6, ht⟩ := laws_toIntS_ev l (by omega)
  obtain ⟨k7, hx⟩ := hx
  obtain ⟨k8, hk⟩ := laws_markIntS_ev l (by omega)
  refine ⟨k1 + k2 + k3 + k4 + k5 + k6 + k7 + k8, _, _, _, _, ht _ (by omega), hs _ (by omega), hi _ (by omega), he _ (by omega), hx _ (by omega), hk _ (by omega), by omega, hm _ (by omega), upRows_len L 1, hh _ (by omega), by omega⟩

theorem spec_l1In_eq (a b c : Int) : spec_l1In.f a b c = some (inB a b c) := inB_ite a b c

theorem spec_l1All_loop (lo hi : Int) (s : List Int) : ∀ (p : List Int) (n i : Int), n = ((p ++ s).length : Int) → i = (p.length : Int) → (p ++ s).length ≤ 1099511627776 →
    Ev (fun k => spec_l1All.l0 k lo hi (p ++ s) n i) (s.all fun x => inB x lo hi) := by
  induction s with
  | nil =>
    intro p n i hn hx hl
    refine Ev.done fun k => ?_
    simp only [spec_l1All.l0]
    rw [if_neg (by rw [len_nil] at hn; omega)]
    rfl
  | cons x s ih =>
    intro p n i hn hx hl
    have h1 := len_mid p s x
    cases hb : inB x lo hi with
    | true =>
      have := ih (p ++ [x]) n (i + 1) (by rw [← snoc_mid]; exact hn) (by rw [len_snoc]; omega) (by rw [← snoc_mid]; exact hl)
      rw [← snoc_mid] at this
      refine Ev.to (Ev.step' this fun k => ?_) (by simp [hb])
      simp only [spec_l1All.l0]
      rw [if_pos (by omega), if_pos (by omega), if_pos (by omega), rd_mid hx, spec_l1In_eq, hb, w64 (by omega)]
      rfl
    | false =>
      refine Ev.to (Ev.done fun k => ?_) (show false = _ by simp [hb])
      simp only [spec_l1All.l0]
      rw [if_pos (by omega), if_pos (by omega), if_pos (by omega), rd_mid hx, spec_l1In_eq, hb]
      rfl
theorem spec_l1All_ev (l : List Int) (lo hi : Int) (hl : l.length ≤ 1099511627776) : Ev (fun k => spec_l1All.f k l lo hi) (l.all fun x => inB x lo hi) :=
  spec_l1All_loop lo hi l [] _ 0 rfl (by simp) (by simpa using hl)

theorem spec_lyWord_ev (l : List Int) (hl : l.length ≤ 1099511627776) : Ev (fun k => spec_lyWord.f k l) (isW l) := by
  unfold spec_lyWord.f isW
  simp only [spec_l1In_eq, obind]
  cases h : inB (l.length : Int) 1 24 with
  | true => simpa using spec_l1All_ev l 0 5 hl
  | false => exact Ev.now _

theorem impl_within_eq (a b c : Int) : impl_within.f a b c = some (inB a b c) := inB_ite a b c

theorem impl_allWithin_loop (lo hi : Int) (s : List Int) : ∀ (p : List Int) (n i : Int), n = ((p ++ s).length : Int) → i = (p.length : Int) → (p ++ s).length ≤ 1099511627776 →
    Ev (fun k => impl_allWithin.l0 k lo hi (p ++ s) n i) (s.all fun x => inB x lo hi) := by
  induction s with
  | nil =>
    intro p n i hn hx hl
    refine Ev.done fun k => ?_
    simp only [impl_allWithin.l0]
    rw [if_neg (by rw [len_nil] at hn; omega)]
    rfl
  | cons x s ih =>
    intro p n i hn hx hl
    have h1 := len_mid p s x
    cases hb : inB x lo hi with
    | true =>
      have := ih (p ++ [x]) n (i + 1) (by rw [← snoc_mid]; exact hn) (by rw [len_snoc]; omega) (by rw [← snoc_mid]; exact hl)
      rw [← snoc_mid] at this
      refine Ev.to (Ev.step' this fun k => ?_) (by simp [hb])
      simp only [impl_allWithin.l0]
      rw [if_pos (by omega), if_pos (by omega), if_pos (by omega), rd_mid hx, impl_within_eq, hb, w64 (by omega)]
      rfl
    | false =>
      refine Ev.to (Ev.done fun k => ?_) (show false = _ by simp [hb])
      simp only [impl_allWithin.l0]
      rw [if_pos (by omega), if_pos (by omega), if_pos (by omega), rd_mid hx, impl_within_eq, hb]
      rfl
theorem impl_allWithin_ev (l : List Int) (lo hi : Int) (hl : l.length ≤ 1099511627776) : Ev (fun k => impl_allWithin.f k l lo hi) (l.all fun x => inB x lo hi) :=
  impl_allWithin_loop lo hi l [] _ 0 rfl (by simp) (by simpa using hl)

theorem impl_IsWord_ev (l : List Int) (hl : l.length ≤ 1099511627776) : Ev (fun k => impl_IsWord.f k l) (isW l) := by
  unfold impl_IsWord.f isW
  simp only [impl_within_eq, obind]
  cases h : inB (l.length : Int) 1 24 with
  | true => simpa using impl_allWithin_ev l 0 5 hl
  | false => exact Ev.now _

theorem beq_nat_zero (n : Nat) : (((n : Nat) : Int) == 0) = decide (n = 0) := by
  rw [Bool.eq_iff_iff, decide_eq_true_iff, beq_iff_eq]; omega
theorem beq_nat_nat (n m : Nat) : (((n : Nat) : Int) == ((m : Nat) : Int)) = decide (n = m) := by
  rw [Bool.eq_iff_iff, decide_eq_true_iff, beq_iff_eq]; omega

theorem spec_lyRotate_loop (w : List Int) (h : 0 < w.length) (hl : w.length ≤ 1000) (b : Nat) (hb : b ≤ 100000) (d : Nat) : ∀ i : Nat, i + d = w.length →
    Ev (fun k => spec_lyRotate.l0 k w (b : Int) ((List.range i).map fun t => w.getD ((t + b) % w.length) 0) (w.length : Int) (i : Int)) ((List.range w.length).map fun t => w.getD ((t + b) % w.length) 0) := by
  induction d with
  | zero =>
    intro i hi
    have : i = w.length := by omega
    subst this
    refine Ev.succ ?_
    simp only [spec_lyRotate.l0]
    simp only [if_neg (show ¬ (w.length : Int) < (w.length : Int) by omega)]
    exact Ev.now _
  | succ d ih =>
    intro i hi
    have hm := Nat.mod_lt (i + b) h
    have c1 : (i : Int) < (w.length : Int) := by omega
    have c2 : ¬ (w.length : Int) = 0 := by omega
    have e0 : Int.tmod ((i + b : Nat) : Int) (w.length : Int) = (((i + b) % w.length : Nat) : Int) := rfl
    have c3 : 0 ≤ (((i + b) % w.length : Nat) : Int) := by omega
    have c4 : (((i + b) % w.length : Nat) : Int) < (w.length : Int) := by omega
    have c5 : ((List.range i).map fun t => w.getD ((t + b) % w.length) 0).length < 17592186044416 := by simp; omega
    have b1 : i + b ≤ 9007199254740992 := by omega
    have b2 : i ≤ 1099511627776 := by omega
    have hih := ih (i + 1) (by omega)
    rw [List.range_succ, List.map_append, List.map_singleton] at hih
    refine Ev.succ ?_
    simp only [spec_lyRotate.l0]
    simp only [if_pos c1, if_neg c2, i_plus b1, e0, if_pos c3, if_pos c4, if_pos c5, i_up b2]
    exact hih
theorem spec_lyRotate_ev (w : List Int) (h : 0 < w.length) (hl : w.length ≤ 1000) (b : Nat) (hb : b ≤ 100000) : Ev (fun k => spec_lyRotate.f k w (b : Int)) (rotW w (b % w.length)) := by
  rw [← rot_eq w b h]
  exact spec_lyRotate_loop w h hl b hb w.length 0 (by omega)

theorem spec_l1Sign_eq (a : Int) : spec_l1Sign.f a = some (if a > 0 then 1 else if a < 0 then -1 else 0) := by
  unfold spec_l1Sign.f
  split
  · rfl
  · split <;> rfl
theorem spec_lyCompare_loop (s : List Int) : ∀ (t p q : List Int), p.length = q.length → (∀ x ∈ s, 0 ≤ x ∧ x ≤ 5) → (∀ x ∈ t, 0 ≤ x ∧ x ≤ 5) → (p ++ s).length ≤ 1000 → (q ++ t).length ≤ 1000 →
    Ev (fun k => spec_lyCompare.l0 k (p ++ s) (q ++ t) (p.length : Int)) (cmpW s t) := by
  induction s with
  | nil =>
    intro t p q hpq hs ht hl1 hl2
    have c1 : ¬ (p.length : Int) < ((p ++ ([] : List Int)).length : Int) := by rw [len_nil]; omega
    refine Ev.succ ?_
    simp only [spec_lyCompare.l0]
    simp only [if_neg c1]
    refine Ev.succ ?_
    simp only [spec_lyCompare.j1, Bool.false_eq_true, if_false]
    have e : ((p ++ ([] : List Int)).length : Int) - ((q ++ t).length : Int) = -(t.length : Int) := by rw [len_nil, len_app]; omega
    have hw : wrap64 (-(t.length : Int)) = -(t.length : Int) := by rw [List.length_append] at hl2; exact w64 (by omega)
    simp only [e, hw, spec_l1Sign_eq, obind]
    refine Ev.some_ ?_
    cases t with
    | nil => rfl
    | cons y t =>
      have h1 : ((y :: t).length : Int) = t.length + 1 := by simp
      simp only [cmpW, h1]
      rw [if_neg (by omega), if_pos (by omega)]
  | cons x s ih =>
    intro t p q hpq hs ht hl1 hl2
    have h1 := len_mid p s x
    have c1 : (p.length : Int) < ((p ++ x :: s).length : Int) := by omega
    refine Ev.succ ?_
    simp only [spec_lyCompare.l0]
    simp only [if_pos c1]
    cases t with
    | nil =>
      have c2 : decide ((p.length : Int) < ((q ++ ([] : List Int)).length : Int)) = false := decide_eq_false (by rw [len_nil]; omega)
      simp only [c2]
      refine Ev.succ ?_
      simp only [spec_lyCompare.j1, Bool.false_eq_true, if_false]
      have e : ((p ++ x :: s).length : Int) - ((q ++ ([] : List Int)).length : Int) = (s.length : Int) + 1 := by rw [len_nil]; omega
      have hw : wrap64 ((s.length : Int) + 1) = (s.length : Int) + 1 := by exact w64 (by omega)
      simp only [e, hw, spec_l1Sign_eq, obind]
      refine Ev.some_ ?_
      simp only [cmpW]
      rw [if_pos (by omega)]
    | cons y t =>
      have h2 := len_mid q t y
      have c2 : decide ((p.length : Int) < ((q ++ y :: t).length : Int)) = true := decide_eq_true (by omega)
      have c3 : 0 ≤ (p.length : Int) := by omega
      have c4 : (p.length : Int) < ((q ++ y :: t).length : Int) := by omega
      have e0 : rd (p ++ x :: s) (p.length : Int) = x := rd_mid rfl
      have e1 : rd (q ++ y :: t) (p.length : Int) = y := rd_mid (by omega)
      have c5 : p.length ≤ 1099511627776 := by omega
      have hx := hs x (List.mem_cons_self ..)
      have hy := ht y (List.mem_cons_self ..)
      simp only [c2]
      refine Ev.succ ?_
      simp only [spec_lyCompare.j1, if_true]
      simp only [if_pos c3, if_pos c1, if_pos c4, e0, e1]
      by_cases hxy : x = y
      · simp only [if_pos hxy, i_succ (out := p) (x := x) c5]
        have := ih t (p ++ [x]) (q ++ [y]) (by simp [hpq]) (fun z hz => hs z (List.mem_cons_of_mem _ hz)) (fun z hz => ht z (List.mem_cons_of_mem _ hz)) (by rw [← snoc_mid]; exact hl1) (by rw [← snoc_mid]; exact hl2)
        rw [← snoc_mid, ← snoc_mid] at this
        refine Ev.to this ?_
        simp [cmpW, hxy]
      · have hw : wrap64 (x - y) = x - y := w64 (by omega)
        simp only [if_neg hxy, hw, spec_l1Sign_eq, obind]
        refine Ev.some_ ?_
        simp only [cmpW, if_neg hxy]
        by_cases hlt : x < y
        · rw [if_neg (by omega), if_pos (by omega), if_pos hlt]
        · rw [if_pos (by omega), if_neg hlt]
theorem spec_lyCompare_ev (a b : List Int) (ha : ∀ x ∈ a, 0 ≤ x ∧ x ≤ 5) (hb : ∀ x ∈ b, 0 ≤ x ∧ x ≤ 5) (h1 : a.length ≤ 1000) (h2 : b.length ≤ 1000) : Ev (fun k => spec_lyCompare.f k a b) (cmpW a b) :=
  spec_lyCompare_loop a b [] [] rfl ha hb h1 h2

theorem spec_lyLeast_loop (w : List Int) (h : 0 < w.length) (hl : w.length ≤ 100) (hin : ∀ x ∈ w, 0 ≤ x ∧ x ≤ 5) (d : Nat) : ∀ b best : Nat, b + d = w.length → best < w.length →
    Ev (fun k => spec_lyLeast.l0 k w (best : Int) (b : Int)) ((leastF w d b best : Nat) : Int) := by
  induction d with
  | zero =>
    intro b best hb hbest
    have c1 : ¬ (b : Int) < (w.length : Int) := by omega
    refine Ev.done fun k => ?_
    simp only [spec_lyLeast.l0]
    rw [if_neg c1]
    rfl
  | succ d ih =>
    intro b best hb hbest
    have c1 : (b : Int) < (w.length : Int) := by omega
    have b1 : b ≤ 1099511627776 := by omega
    have hr1 := spec_lyRotate_ev w h (by omega) b (by omega)
    have hr2 := spec_lyRotate_ev w h (by omega) best (by omega)
    rw [Nat.mod_eq_of_lt (by omega)] at hr1
    rw [Nat.mod_eq_of_lt hbest] at hr2
    have hc := spec_lyCompare_ev (rotW w b) (rotW w best) (rotW_in hin b) (rotW_in hin best) (by rw [rotW_len]; omega) (by rw [rotW_len]; omega)
    refine Ev.succ ?_
    simp only [spec_lyLeast.l0]
    simp only [if_pos c1, i_up b1]
    refine Ev.bind hr1 (Ev.bind hr2 (Ev.bind hc ?_))
    unfold leastF
    by_cases hlt : cmpW (rotW w b) (rotW w best) < 0
    · simp only [if_pos hlt]
      exact ih (b + 1) b (by omega) (by omega)
    · simp only [if_neg hlt]
      exact ih (b + 1) best (by omega) hbest
theorem spec_lyLeast_ev (w : List Int) (h : 0 < w.length) (hl : w.length ≤ 100) (hin : ∀ x ∈ w, 0 ≤ x ∧ x ≤ 5) : Ev (fun k => spec_lyLeast.f k w) ((leastW w : Nat) : Int) :=
  spec_lyLeast_loop w h hl hin (w.length - 1) 1 0 (by omega) h

theorem spec_lyNecklace_ev (w : List Int) (h : 0 < w.length) (hl : w.length ≤ 100) (hin : ∀ x ∈ w, 0 ≤ x ∧ x ≤ 5) : Ev (fun k => spec_lyNecklace.f k w) (neckW w) := by
  unfold spec_lyNecklace.f
  refine Ev.bind (spec_lyLeast_ev w h hl hin) ?_
  exact Ev.some_ (beq_nat_zero _)

theorem spec_l1Same_loop (s : List Int) : ∀ (p q t : List Int) (n i : Int), t.length = s.length → q.length = p.length → n = ((p ++ s).length : Int) → i = (p.length : Int) → (p ++ s).length ≤ 1000 →
    Ev (fun k => spec_l1Same.l0 k (p ++ s) (q ++ t) n i) (decide (s = t)) := by
  induction s with
  | nil =>
    intro p q t n i ht hq hn hi hl
    have ht0 : t = [] := List.eq_nil_of_length_eq_zero ht
    subst ht0
    refine Ev.done fun k => ?_
    simp only [spec_l1Same.l0]
    rw [if_neg (by rw [len_nil] at hn; omega)]
    simp
  | cons x s ih =>
    intro p q t n i ht hq hn hi hl
    cases t with
    | nil => simp at ht
    | cons y t =>
      have ht' : t.length = s.length := by simpa using ht
      have h1 := len_mid p s x
      have h2 := len_mid q t y
      by_cases hxy : x = y
      · have := ih (p ++ [x]) (q ++ [y]) t n (i + 1) ht' (by simp [hq]) (by rw [← snoc_mid]; exact hn) (by rw [len_snoc]; omega) (by rw [← snoc_mid]; exact hl)
        rw [← snoc_mid, ← snoc_mid] at this
        refine Ev.to (Ev.step' this fun k => ?_) (by simp [hxy])
        simp only [spec_l1Same.l0]
        rw [if_pos (by omega), if_pos (by omega), if_pos (by omega), if_pos (by omega), rd_mid hi, rd_mid (by omega), if_pos hxy, w64 (by omega)]
      · refine Ev.to (Ev.done fun k => ?_) (show false = _ by simp [hxy])
        simp only [spec_l1Same.l0]
        rw [if_pos (by omega), if_pos (by omega), if_pos (by omega), if_pos (by omega), rd_mid hi, rd_mid (by omega), if_neg hxy]
theorem spec_l1Same_ev (l t : List Int) (hl : l.length ≤ 1000) : Ev (fun k => spec_l1Same.f k l t) (decide (l = t)) := by
  by_cases h : l.length = t.length
  · have := spec_l1Same_loop l [] [] t _ 0 h.symm rfl rfl (by simp) (by simpa using hl)
    simp only [List.nil_append] at this
    refine Ev.congr (fun k => ?_) this
    unfold spec_l1Same.f
    rw [if_pos (by omega)]
  · refine Ev.to (Ev.congr (fun k => ?_) (Ev.now false)) (by rw [decide_eq_false]; exact fun e => h (by rw [e]))
    unfold spec_l1Same.f
    rw [if_neg (by omega)]

theorem spec_lyRoot_loop (w : List Int) (h : 0 < w.length) (hl : w.length ≤ 100) (d : Nat) : ∀ p : Nat, 0 < p → p + d = w.length →
    Ev (fun k => spec_lyRoot.l0 k w (p : Int)) ((rootF w d p : Nat) : Int) := by
  induction d with
  | zero =>
    intro p hp hd
    have hpe : p = w.length := by omega
    have c1 : ¬ (p : Int) = 0 := by omega
    have c2 : (w.length : Int) % (p : Int) = 0 := by rw [hpe]; exact Int.emod_self
    have hr := spec_lyRotate_ev w h (by omega) p (by omega)
    rw [hpe, Nat.mod_self, rotW_zero, ← hpe] at hr
    have hq := spec_l1Same_ev w w (by omega)
    refine Ev.succ ?_
    simp only [spec_lyRoot.l0]
    simp only [if_neg c1, if_pos c2]
    refine Ev.bind hr (Ev.bind hq ?_)
    simp only [decide_true, if_true]
    exact Ev.now _
  | succ d ih =>
    intro p hp hd
    have c1 : ¬ (p : Int) = 0 := by omega
    have b1 : p ≤ 1099511627776 := by omega
    have hr := spec_lyRotate_ev w h (by omega) p (by omega)
    have hq := spec_l1Same_ev (rotW w (p % w.length)) w (by rw [rotW_len]; omega)
    have em : (w.length : Int) % (p : Int) = ((w.length % p : Nat) : Int) := rfl
    refine Ev.succ ?_
    simp only [spec_lyRoot.l0]
    simp only [if_neg c1, em, i_up b1]
    unfold rootF
    by_cases c2 : w.length % p = 0
    · have c3 : ((w.length % p : Nat) : Int) = 0 := by omega
      simp only [if_pos c3]
      refine Ev.bind hr (Ev.bind hq ?_)
      by_cases c4 : rotW w (p % w.length) = w
      · simp only [decide_eq_true c4, if_true, if_pos (show w.length % p = 0 ∧ rotW w (p % w.length) = w from ⟨c2, c4⟩)]
        exact Ev.now _
      · simp only [decide_eq_false c4, Bool.false_eq_true, if_false, if_neg (show ¬ (w.length % p = 0 ∧ rotW w (p % w.length) = w) from fun e => c4 e.2)]
        exact ih (p + 1) (by omega) (by omega)
    · have c3 : ¬ ((w.length % p : Nat) : Int) = 0 := by omega
      simp only [if_neg c3, if_neg (show ¬ (w.length % p = 0 ∧ rotW w (p % w.length) = w) from fun e => c2 e.1)]
      exact ih (p + 1) (by omega) (by omega)
theorem spec_lyRoot_ev (w : List Int) (h : 0 < w.length) (hl : w.length ≤ 100) : Ev (fun k => spec_lyRoot.f k w) ((rootW w : Nat) : Int) :=
  spec_lyRoot_loop w h hl (w.length - 1) 1 (by omega) (by omega)

theorem spec_lyLyndon_ev (w : List Int) (h : 0 < w.length) (hl : w.length ≤ 100) (hin : ∀ x ∈ w, 0 ≤ x ∧ x ≤ 5) : Ev (fun k => spec_lyLyndon.f k w) (lynW w) := by
  unfold spec_lyLyndon.f lynW
  refine Ev.bind (spec_lyNecklace_ev w h hl hin) ?_
  cases neckW w with
  | false => simp only [Bool.false_eq_true, if_false, Bool.false_and]; exact Ev.now _
  | true =>
    simp only [if_true, Bool.true_and]
    refine Ev.bind (spec_lyRoot_ev w h hl) ?_
    exact Ev.some_ (beq_nat_nat _ _)

theorem slices_Grow_some (n : Int) (h : 0 < n) (h' : n ≤ 1000000) : slices_Grow_int_int.f n = some [] := by
  unfold slices_Grow_int_int.f
  rw [if_pos h, if_pos (by omega)]
theorem slices_Concat_two (a b : List Int) (h : 0 < a.length + b.length) (hl : a.length + b.length ≤ 1000) : Ev (fun k => slices_Concat_int_int.f k [a, b]) (a ++ b) := by
  have e0 : rd_L1 [a, b] 0 = a := rfl
  have e1 : rd_L1 [a, b] 1 = b := rfl
  have w1 : wrap64 (0 + (a.length : Int)) = (a.length : Int) := by rw [w64 (by omega)]; omega
  have w2 : wrap64 ((a.length : Int) + (b.length : Int)) = ((a.length + b.length : Nat) : Int) := i_plus (by omega)
  have w3 : wrap64 ((0 : Int) + 1) = 1 := w64 (by omega)
  have w4 : wrap64 ((1 : Int) + 1) = 2 := w64 (by omega)
  have hg := slices_Grow_some ((a.length + b.length : Nat) : Int) (by omega) (by omega)
  have n1 : ¬ (a.length : Int) < 0 := by omega
  have n2 : ¬ ((a.length + b.length : Nat) : Int) < 0 := by omega
  have n3 : ([] : List Int).length + a.length < 17592186044416 := by simp; omega
  have n4 : ([] ++ a).length + b.length < 17592186044416 := by simp; omega
  have hlen : (([a, b] : List (List Int)).length : Int) = 2 := rfl
  unfold slices_Concat_int_int.f
  refine Ev.succ ?_
  simp only [slices_Concat_int_int.l0]
  simp only [hlen, if_pos (show (0 : Int) < 2 by decide), if_pos (show (0 : Int) ≤ 0 by decide), e0, w1, if_neg n1, w3]
  refine Ev.succ ?_
  simp only [slices_Concat_int_int.l0]
  simp only [hlen, if_pos (show (1 : Int) < 2 by decide), if_pos (show (0 : Int) ≤ 1 by decide), e1, w2, if_neg n2, w4]
  refine Ev.succ ?_
  simp only [slices_Concat_int_int.l0]
  simp only [hlen, if_neg (show ¬ (2 : Int) < 2 by decide), hg, obind]
  refine Ev.succ ?_
  simp only [slices_Concat_int_int.l1]
  simp only [hlen, if_pos (show (0 : Int) < 2 by decide), if_pos (show (0 : Int) ≤ 0 by decide), e0, if_pos n3, w3]
  refine Ev.succ ?_
  simp only [slices_Concat_int_int.l1]
  simp only [hlen, if_pos (show (1 : Int) < 2 by decide), if_pos (show (0 : Int) ≤ 1 by decide), e1, if_pos n4, w4]
  refine Ev.succ ?_
  simp only [slices_Concat_int_int.l1]
  simp only [hlen, if_neg (show ¬ (2 : Int) < 2 by decide)]
  exact Ev.some_ (by simp)
theorem impl_rotated_ev (w : List Int) (h : 0 < w.length) (hl : w.length ≤ 1000) (b : Int) : Ev (fun k => impl_rotated.f k w b) (rotW w (turnN b w.length % w.length)) := by
  have hp := turnN_pos (b := b) h
  have ht : Int.tmod b (w.length : Int) + (w.length : Int) = ((turnN b w.length : Nat) : Int) := by unfold turnN; omega
  have hm := Nat.mod_lt (turnN b w.length) h
  have e0 : Int.tmod ((turnN b w.length : Nat) : Int) (w.length : Int) = ((turnN b w.length % w.length : Nat) : Int) := rfl
  have hw : wrap64 ((turnN b w.length : Nat) : Int) = ((turnN b w.length : Nat) : Int) := w64 (by omega)
  unfold impl_rotated.f
  generalize turnN b w.length % w.length = j at hm e0
  have c1 : ¬ (w.length : Int) = 0 := by omega
  have c2 : 0 ≤ (j : Int) := by omega
  have c3 : (j : Int) ≤ (w.length : Int) := by omega
  have hc := slices_Concat_two (w.drop j) (w.take j) (by simp; omega) (by simp; omega)
  simp only [if_neg c1, ht, hw, e0, if_pos c2, if_pos c3, Int.toNat_natCast]
  refine Ev.bind hc ?_
  exact Ev.now _

theorem cmp_Compare_eq (a b : Int) : cmp_Compare_int.f a b = some (if a < b then -1 else if a > b then 1 else 0) := by
  unfold cmp_Compare_int.f cmp_isNaN_int.f
  simp only [bne_self_eq_false, obind, Bool.false_eq_true, if_false]
  split
  · rfl
  · split <;> rfl
theorem slices_Compare_loop (s : List Int) : ∀ (t p q : List Int), p.length = q.length → (p ++ s).length ≤ 1000 → (q ++ t).length ≤ 1000 →
    Ev (fun k => slices_Compare_int_int.l0 k (p ++ s) (q ++ t) (p ++ s) ((p ++ s).length : Int) (p.length : Int)) (cmpW s t) := by
  induction s with
  | nil =>
    intro t p q hpq hl1 hl2
    have c1 : ¬ (p.length : Int) < ((p ++ ([] : List Int)).length : Int) := by rw [len_nil]; omega
    refine Ev.succ ?_
    simp only [slices_Compare_int_int.l0]
    simp only [if_neg c1]
    cases t with
    | nil =>
      have c2 : ¬ ((p ++ ([] : List Int)).length : Int) < ((q ++ ([] : List Int)).length : Int) := by rw [len_nil, len_nil]; omega
      simp only [if_neg c2]
      exact Ev.now _
    | cons y t =>
      have c2 : ((p ++ ([] : List Int)).length : Int) < ((q ++ y :: t).length : Int) := by rw [len_nil, len_mid]; omega
      simp only [if_pos c2]
      exact Ev.now _
  | cons x s ih =>
    intro t p q hpq hl1 hl2
    have h1 := len_mid p s x
    have c1 : (p.length : Int) < ((p ++ x :: s).length : Int) := by omega
    have c3 : 0 ≤ (p.length : Int) := by omega
    have e0 : rd (p ++ x :: s) (p.length : Int) = x := rd_mid rfl
    have c5 : p.length ≤ 1099511627776 := by omega
    refine Ev.succ ?_
    simp only [slices_Compare_int_int.l0]
    simp only [if_pos c1, if_pos c3]
    cases t with
    | nil =>
      have c2 : (p.length : Int) ≥ ((q ++ ([] : List Int)).length : Int) := by rw [len_nil]; omega
      simp only [if_pos c2]
      exact Ev.now _
    | cons y t =>
      have h2 := len_mid q t y
      have c2 : ¬ (p.length : Int) ≥ ((q ++ y :: t).length : Int) := by omega
      have c4 : (p.length : Int) < ((q ++ y :: t).length : Int) := by omega
      have e1 : rd (q ++ y :: t) (p.length : Int) = y := rd_mid (by omega)
      simp only [if_neg c2, if_pos c4, e0, e1, cmp_Compare_eq, obind]
      by_cases hxy : x = y
      · have hc : (if x < y then (-1 : Int) else if x > y then 1 else 0) = 0 := by rw [if_neg (by omega), if_neg (by omega)]
        simp only [hc, if_true, i_succ (out := p) (x := x) c5]
        have := ih t (p ++ [x]) (q ++ [y]) (by simp [hpq]) (by rw [← snoc_mid]; exact hl1) (by rw [← snoc_mid]; exact hl2)
        rw [← snoc_mid, ← snoc_mid] at this
        refine Ev.to this ?_
        simp [cmpW, hxy]
      · by_cases hlt : x < y
        · simp only [if_pos hlt, if_neg (show ¬ (-1 : Int) = 0 by decide)]
          exact Ev.some_ (by simp only [cmpW, if_neg hxy, if_pos hlt])
        · have hgt : x > y := by omega
          simp only [if_neg hlt, if_pos hgt, if_neg (show ¬ (1 : Int) = 0 by decide)]
          exact Ev.some_ (by simp only [cmpW, if_neg hxy, if_neg hlt])
theorem slices_Compare_ev (a b : List Int) (h1 : a.length ≤ 1000) (h2 : b.length ≤ 1000) : Ev (fun k => slices_Compare_int_int.f k a b) (cmpW a b) :=
  slices_Compare_loop a b [] [] rfl h1 h2

theorem impl_copied_eq (l : List Int) (hl : l.length ≤ 1000000) : impl_copied.f l = some l := by
  unfold impl_copied.f
  rw [obind, if_pos (by simp; omega), List.nil_append]

theorem impl_leastRotation_loop (w : List Int) (h : 0 < w.length) (hl : w.length ≤ 100) (d : Nat) : ∀ b best : Nat, b + d = w.length → best < w.length →
    Ev (fun k => impl_leastRotation.l0 k w (best : Int) (rotW w best) (b : Int)) (((leastF w d b best : Nat) : Int), rotW w (leastF w d b best)) := by
  induction d with
  | zero =>
    intro b best hb hbest
    have c1 : ¬ (b : Int) < (w.length : Int) := by omega
    refine Ev.done fun k => ?_
    simp only [impl_leastRotation.l0]
    rw [if_neg c1]
    rfl
  | succ d ih =>
    intro b best hb hbest
    have c1 : (b : Int) < (w.length : Int) := by omega
    have b1 : b ≤ 1099511627776 := by omega
    have hr1 := impl_rotated_ev w h (by omega) (b : Int)
    rw [turnN_nat h, Nat.mod_eq_of_lt (by omega)] at hr1
    have hc := slices_Compare_ev (rotW w b) (rotW w best) (by rw [rotW_len]; omega) (by rw [rotW_len]; omega)
    refine Ev.succ ?_
    simp only [impl_leastRotation.l0]
    simp only [if_pos c1, i_up b1]
    refine Ev.bind hr1 (Ev.bind hc ?_)
    unfold leastF
    by_cases hlt : cmpW (rotW w b) (rotW w best) < 0
    · simp only [if_pos hlt]
      exact ih (b + 1) b (by omega) (by omega)
    · simp only [if_neg hlt]
      exact ih (b + 1) best (by omega) hbest
theorem impl_leastRotation_ev (w : List Int) (h : 0 < w.length) (hl : w.length ≤ 100) : Ev (fun k => impl_leastRotation.f k w) (((leastW w : Nat) : Int), rotW w (leastW w)) := by
  unfold impl_leastRotation.f
  have hc := impl_copied_eq w (by omega)
  simp only [hc, obind]
  have := impl_leastRotation_loop w h hl (w.length - 1) 1 0 (by omega) h
  rw [rotW_zero] at this
  exact this

theorem impl_isNecklace_ev (w : List Int) (h : 0 < w.length) (hl : w.length ≤ 100) : Ev (fun k => impl_isNecklace.f k w) (neckW w) := by
  unfold impl_isNecklace.f
  refine Ev.bind (impl_leastRotation_ev w h hl) ?_
  exact Ev.some_ (beq_nat_zero _)

theorem slices_Equal_int_int_loop (s : List Int) : ∀ (p q t : List Int) (n i : Int), t.length = s.length → q.length = p.length → n = ((p ++ s).length : Int) → i = (p.length : Int) → (p ++ s).length ≤ 1000 →
    Ev (fun k => slices_Equal_int_int.l0 k (p ++ s) (q ++ t) n i) (decide (s = t)) := by
  induction s with
  | nil =>
    intro p q t n i ht hq hn hi hl
    have ht0 : t = [] := List.eq_nil_of_length_eq_zero ht
    subst ht0
    refine Ev.done fun k => ?_
    simp only [slices_Equal_int_int.l0]
    rw [if_neg (by rw [len_nil] at hn; omega)]
    simp
  | cons x s ih =>
    intro p q t n i ht hq hn hi hl
    cases t with
    | nil => simp at ht
    | cons y t =>
      have ht' : t.length = s.length := by simpa using ht
      have h1 := len_mid p s x
      have h2 := len_mid q t y
      by_cases hxy : x = y
      · have := ih (p ++ [x]) (q ++ [y]) t n (i + 1) ht' (by simp [hq]) (by rw [← snoc_mid]; exact hn) (by rw [len_snoc]; omega) (by rw [← snoc_mid]; exact hl)
        rw [← snoc_mid, ← snoc_mid] at this
        refine Ev.to (Ev.step' this fun k => ?_) (by simp [hxy])
        simp only [slices_Equal_int_int.l0]
        rw [if_pos (by omega), if_pos (by omega), if_pos (by omega), if_pos (by omega), rd_mid hi, rd_mid (by omega), if_pos hxy, w64 (by omega)]
      · refine Ev.to (Ev.done fun k => ?_) (show false = _ by simp [hxy])
        simp only [slices_Equal_int_int.l0]
        rw [if_pos (by omega), if_pos (by omega), if_pos (by omega), if_pos (by omega), rd_mid hi, rd_mid (by omega), if_neg hxy]
theorem slices_Equal_int_int_ev (l t : List Int) (hl : l.length ≤ 1000) : Ev (fun k => slices_Equal_int_int.f k l t) (decide (l = t)) := by
  by_cases h : l.length = t.length
  · have := slices_Equal_int_int_loop l [] [] t _ 0 h.symm rfl rfl (by simp) (by simpa using hl)
    simp only [List.nil_append] at this
    refine Ev.congr (fun k => ?_) this
    unfold slices_Equal_int_int.f
    rw [if_pos (by omega)]
  · refine Ev.to (Ev.congr (fun k => ?_) (Ev.now false)) (by rw [decide_eq_false]; exact fun e => h (by rw [e]))
    unfold slices_Equal_int_int.f
    rw [if_neg (by omega)]

theorem impl_rootLength_loop (w : List Int) (h : 0 < w.length) (hl : w.length ≤ 100) (d : Nat) : ∀ p : Nat, 0 < p → p + d = w.length →
    Ev (fun k => impl_rootLength.l0 k w (p : Int)) ((rootF w d p : Nat) : Int) := by
  induction d with
  | zero =>
    intro p hp hd
    have hpe : p = w.length := by omega
    have c1 : ¬ (p : Int) = 0 := by omega
    have c2 : (w.length : Int) % (p : Int) = 0 := by rw [hpe]; exact Int.emod_self
    have hr := impl_rotated_ev w h (by omega) (p : Int)
    rw [turnN_nat h] at hr
    rw [hpe, Nat.mod_self, rotW_zero, ← hpe] at hr
    have hq := slices_Equal_int_int_ev w w (by omega)
    refine Ev.succ ?_
    simp only [impl_rootLength.l0]
    simp only [if_neg c1, if_pos c2]
    refine Ev.bind hr (Ev.bind hq ?_)
    simp only [decide_true, if_true]
    exact Ev.now _
  | succ d ih =>
    intro p hp hd
    have c1 : ¬ (p : Int) = 0 := by omega
    have b1 : p ≤ 1099511627776 := by omega
    have hr := impl_rotated_ev w h (by omega) (p : Int)
    rw [turnN_nat h] at hr
    have hq := slices_Equal_int_int_ev (rotW w (p % w.length)) w (by rw [rotW_len]; omega)
    have em : (w.length : Int) % (p : Int) = ((w.length % p : Nat) : Int) := rfl
    refine Ev.succ ?_
    simp only [impl_rootLength.l0]
    simp only [if_neg c1, em, i_up b1]
    unfold rootF
    by_cases c2 : w.length % p = 0
    · have c3 : ((w.length % p : Nat) : Int) = 0 := by omega
      simp only [if_pos c3]
      refine Ev.bind hr (Ev.bind hq ?_)
      by_cases c4 : rotW w (p % w.length) = w
      · simp only [decide_eq_true c4, if_true, if_pos (show w.length % p = 0 ∧ rotW w (p % w.length) = w from ⟨c2, c4⟩)]
        exact Ev.now _
      · simp only [decide_eq_false c4, Bool.false_eq_true, if_false, if_neg (show ¬ (w.length % p = 0 ∧ rotW w (p % w.length) = w) from fun e => c4 e.2)]
        exact ih (p + 1) (by omega) (by omega)
    · have c3 : ¬ ((w.length % p : Nat) : Int) = 0 := by omega
      simp only [if_neg c3, if_neg (show ¬ (w.length % p = 0 ∧ rotW w (p % w.length) = w) from fun e => c2 e.1)]
      exact ih (p + 1) (by omega) (by omega)
theorem impl_rootLength_ev (w : List Int) (h : 0 < w.length) (hl : w.length ≤ 100) : Ev (fun k => impl_rootLength.f k w) ((rootW w : Nat) : Int) :=
  impl_rootLength_loop w h hl (w.length - 1) 1 (by omega) (by omega)

theorem impl_isLyndon_ev (w : List Int) (h : 0 < w.length) (hl : w.length ≤ 100) : Ev (fun k => impl_isLyndon.f k w) (lynW w) := by
  unfold impl_isLyndon.f lynW
  refine Ev.bind (impl_isNecklace_ev w h hl) ?_
  cases neckW w with
  | false => simp only [Bool.false_eq_true, if_false, Bool.false_and]; exact Ev.now _
  | true =>
    simp only [if_true, Bool.true_and]
    refine Ev.bind (impl_rootLength_ev w h hl) ?_
    exact Ev.some_ (beq_nat_nat _ _)

theorem spec_l1Own_eq (l : List Int) (hl : l.length ≤ 1000000) : spec_l1Own.f l = some l := by
  unfold spec_l1Own.f
  rw [obind, if_pos (by simp; omega), List.nil_append]

theorem impl_factors_l1 (w : List Int) (hl : w.length ≤ 24) (out : List (List Int)) (ho : out.length ≤ 1000) (R : List (List Int) × Bool) (n : Nat) : n ≤ w.length → 1 ≤ n →
    Ev (fun k => impl_LyndonFactors.l0 k (w.drop (lonF w n)) (out ++ [w.take (lonF w n)])) R → Ev (fun k => impl_LyndonFactors.l1 k w out (n : Int)) R := by
  induction n with
  | zero => intro _ h; omega
  | succ n ih =>
    intro hn h1 h
    have hy := impl_isLyndon_ev (w.take (n + 1)) (by simp; omega) (by simp; omega)
    have hc := impl_copied_eq (w.take (n + 1)) (by simp; omega)
    refine Ev.succ ?_
    simp only [impl_LyndonFactors.l1]
    simp only [if_pos (show 0 ≤ ((n + 1 : Nat) : Int) by omega), if_pos (show ((n + 1 : Nat) : Int) ≤ (w.length : Int) by omega), Int.toNat_natCast]
    refine Ev.bind hy ?_
    unfold lonF at h
    cases c : lynW (w.take (n + 1)) with
    | true =>
      rw [if_pos c] at h
      simp only [if_true, hc, obind, if_pos (show out.length < 5864062014805 by omega)]
      exact h
    | false =>
      rw [if_neg (by rw [c]; decide)] at h
      simp only [Bool.false_eq_true, if_false, i_down (show n ≤ 1099511627776 by omega)]
      rcases Nat.eq_zero_or_pos n with e | e
      · subst e
        exfalso
        obtain ⟨x, s, rfl⟩ : ∃ x s, w = x :: s := by
          cases w with
          | nil => simp at hn
          | cons x s => exact ⟨x, s, rfl⟩
        have : lynW ((x :: s).take 1) = true := lynW_one x
        rw [this] at c; cases c
      · exact ih (by omega) e h
theorem impl_factors_l0 (d : Nat) : ∀ (w : List Int) (out : List (List Int)), w.length ≤ d → w.length ≤ 24 → out.length + w.length ≤ 24 →
    Ev (fun k => impl_LyndonFactors.l0 k w out) (out ++ facF d w, true) := by
  induction d with
  | zero =>
    intro w out h _ _
    have : w = [] := List.eq_nil_of_length_eq_zero (by omega)
    subst this
    refine Ev.done fun k => ?_
    simp only [impl_LyndonFactors.l0]
    rw [if_neg (by simp)]; simp [facF]
  | succ d ih =>
    intro w out h hl ho
    refine Ev.succ ?_
    simp only [impl_LyndonFactors.l0]
    by_cases c : w.length = 0
    · have : w = [] := List.eq_nil_of_length_eq_zero c
      subst this
      simp only [if_neg (show ¬ ((([] : List Int).length : Nat) : Int) > 0 by simp)]
      refine Ev.some_ ?_
      simp [facF]
    · obtain ⟨⟨g1, g2⟩, _, _⟩ := lonW_spec (w := w) (by omega)
      simp only [if_pos (show (w.length : Int) > 0 by omega)]
      refine impl_factors_l1 w hl out (by omega) _ w.length (Nat.le_refl _) (by omega) ?_
      have := ih (w.drop (lonW w)) (out ++ [w.take (lonW w)]) (by simp; omega) (by simp; omega) (by simp; omega)
      refine Ev.to this ?_
      rw [facF, if_neg c]; simp
theorem facR_def (l : List Int) : (if isW l = true then (facW l, true) else ([], false) : List (List Int) × Bool) = if isW l = true then (facF l.length l, true) else ([], false) := rfl
theorem impl_LyndonFactors_ev (l : List Int) (hl : l.length ≤ 1099511627776) : Ev (fun k => impl_LyndonFactors.f k l) (if isW l = true then (facW l, true) else ([], false)) := by
  unfold impl_LyndonFactors.f
  refine Ev.bind (impl_IsWord_ev l hl) ?_
  split
  · rename_i h
    obtain ⟨⟨h1, h2⟩, h3⟩ := isW_true h
    exact impl_factors_l0 l.length l [] (Nat.le_refl _) h2 (by simpa using h2)
  · exact Ev.now _
theorem spec_factors_l1 (w : List Int) (hin : ∀ x ∈ w, 0 ≤ x ∧ x ≤ 5) (hl : w.length ≤ 24) (from_ : Nat) (out : List (List Int)) (ho : out.length ≤ 1000) (R : List (List Int) × Bool) (n : Nat) : from_ + n ≤ w.length → 1 ≤ n →
    Ev (fun k => spec_LyndonFactors.l0 k w (out ++ [(w.drop from_).take (lonF (w.drop from_) n)]) ((from_ + lonF (w.drop from_) n : Nat) : Int)) R → Ev (fun k => spec_LyndonFactors.l1 k w out (from_ : Int) ((from_ + n : Nat) : Int)) R := by
  induction n with
  | zero => intro _ h; omega
  | succ n ih =>
    intro hn h1 h
    have e : (w.take (from_ + (n + 1))).drop from_ = (w.drop from_).take (n + 1) := by rw [List.drop_take]; congr 1; omega
    have hy := spec_lyLyndon_ev ((w.drop from_).take (n + 1)) (by simp; omega) (by simp; omega) (fun x hx => hin x (List.mem_of_mem_drop (List.mem_of_mem_take hx)))
    have hc := spec_l1Own_eq ((w.drop from_).take (n + 1)) (by simp; omega)
    refine Ev.succ ?_
    simp only [spec_LyndonFactors.l1]
    simp only [if_pos (show 0 ≤ (from_ : Int) by omega), if_pos (show (from_ : Int) ≤ ((from_ + (n + 1) : Nat) : Int) by omega), if_pos (show ((from_ + (n + 1) : Nat) : Int) ≤ (w.length : Int) by omega), Int.toNat_natCast, e]
    refine Ev.bind hy ?_
    unfold lonF at h
    cases c : lynW ((w.drop from_).take (n + 1)) with
    | true =>
      rw [if_pos c] at h
      simp only [if_true, hc, obind, if_pos (show out.length < 5864062014805 by omega)]
      exact h
    | false =>
      rw [if_neg (by rw [c]; decide)] at h
      simp only [Bool.false_eq_true, if_false, show wrap64 (((from_ + (n + 1) : Nat) : Int) - 1) = ((from_ + n : Nat) : Int) by rw [w64 (by omega)]; omega]
      rcases Nat.eq_zero_or_pos n with e0 | e0
      · subst e0
        exfalso
        obtain ⟨x, hx⟩ : ∃ x, (w.drop from_).take 1 = [x] := List.length_eq_one_iff.1 (by simp; omega)
        have : lynW ((w.drop from_).take (0 + 1)) = true := by rw [Nat.zero_add, hx]; exact lynW_one x
        rw [this] at c; cases c
      · exact ih (by omega) e0 h
theorem spec_factors_l0 (w : List Int) (hin : ∀ x ∈ w, 0 ≤ x ∧ x ≤ 5) (hl : w.length ≤ 24) (d : Nat) : ∀ (from_ : Nat) (out : List (List Int)), from_ ≤ w.length → w.length - from_ ≤ d → out.length ≤ from_ →
    Ev (fun k => spec_LyndonFactors.l0 k w out (from_ : Int)) (out ++ facF d (w.drop from_), true) := by
  induction d with
  | zero =>
    intro from_ out hf h ho
    refine Ev.done fun k => ?_
    simp only [spec_LyndonFactors.l0]
    rw [if_neg (by omega)]; simp [facF]
  | succ d ih =>
    intro from_ out hf h ho
    refine Ev.succ ?_
    simp only [spec_LyndonFactors.l0]
    by_cases c : from_ = w.length
    · simp only [if_neg (show ¬ (from_ : Int) < (w.length : Int) by omega)]
      refine Ev.some_ ?_
      rw [facF, if_pos (by simp; omega), List.append_nil]
    · have hd : 0 < (w.drop from_).length := by simp; omega
      have hdl : (w.drop from_).length = w.length - from_ := by simp
      obtain ⟨⟨g1, g2⟩, _, _⟩ := lonW_spec hd
      simp only [if_pos (show (from_ : Int) < (w.length : Int) by omega)]
      have e : (w.length : Int) = ((from_ + (w.length - from_) : Nat) : Int) := by omega
      rw [e]
      refine spec_factors_l1 w hin hl from_ out (by omega) _ (w.length - from_) (by omega) (by omega) ?_
      have el : lonF (w.drop from_) (w.length - from_) = lonW (w.drop from_) := by unfold lonW; rw [hdl]
      rw [el]
      have := ih (from_ + lonW (w.drop from_)) (out ++ [(w.drop from_).take (lonW (w.drop from_))]) (by omega) (by omega) (by simp; omega)
      refine Ev.to this ?_
      rw [facF, if_neg (by omega), List.drop_drop]; simp
theorem spec_LyndonFactors_ev (l : List Int) (hl : l.length ≤ 1099511627776) : Ev (fun k => spec_LyndonFactors.f k l) (if isW l = true then (facW l, true) else ([], false)) := by
  unfold spec_LyndonFactors.f
  refine Ev.bind (spec_lyWord_ev l hl) ?_
  split
  · rename_i h
    obtain ⟨⟨h1, h2⟩, h3⟩ := isW_true h
    exact spec_factors_l0 l h3 h2 l.length 0 [] (by omega) (by omega) (by simp)
  · exact Ev.now _

theorem lyndonFactors_few (l : List Int) : rowsFew (if isW l = true then (facW l, true) else ([], false) : List (List Int) × Bool).1 := by
  split
  · rename_i h
    obtain ⟨⟨h1, h2⟩, h3⟩ := isW_true h
    have hn := facF_len l.length l (Nat.le_refl _)
    have hf := facF_flat l.length l (Nat.le_refl _)
    refine ⟨Nat.le_trans hn (by omega), fun x hx => ?_⟩
    have h5 : x ∈ facF l.length l := hx
    have := mem_flat_len h5
    rw [hf] at this
    omega
  · exact ⟨by simp, by simp⟩
theorem FnExactLyndonFactors_walk (a0 : Option Addr) (len0 cap0 : Nat) (z0 : List Int) (w : World) (w0 : (a0 = none ∧ len0 = 0 ∧ cap0 = 0 ∧ z0 = []) ∨ ∃ x, a0 = some x ∧ len0 ≤ cap0 ∧ cap0 ≤ maxLen ∧ z0.length = cap0 ∧ (∀ i, i < z0.length → w.cell? (x.add i) = some (.int .i64 (z0.getD i 0))) ∧ ∀ n ∈ z0, (Lit.int .i64 n).wf = true) (y0 : len0 * 8 ≤ 140737488351232) :
    Calls Try.prog 13 #[.slice a0 len0 cap0] w fun e w' => e = .returned (.bool true) ∧ Below w.heap.size w w' := by
  refine laws_FnExactLyndonFactors.walk (fun l _ hl => ?_) a0 len0 cap0 z0 w w0
  have hs := spec_LyndonFactors_ev l (by omega)
  have hi := impl_LyndonFactors_ev l (by omega)
  have hf := lyndonFactors_few l
  generalize (if isW l = true then (facW l, true) else ([], false) : List (List Int) × Bool) = R at hs hi hf
  obtain ⟨L, b⟩ := R
  obtain ⟨k, m, mx, M, X, h⟩ := exactList hl hs hi hf
  exact ⟨k, L, M, b, m, mx, X, h⟩

end Go.Proofs.Ytmcmglclgdgdnaa.Pure
