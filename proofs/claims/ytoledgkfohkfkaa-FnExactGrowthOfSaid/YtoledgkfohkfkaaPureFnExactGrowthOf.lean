/- The program's GrowthOf returns what the reference's returns, for all rows of whole numbers: the walk of the law. -/
import Derived.Test.YtoledgkfohkfkaaHandFnExactGrowthOf
import Derived.Test.YtoledgkfohkfkaaCoreA
import Derived.Test.YtoledgkfohkfkaaCoreG
import Derived.Test.YtoledgkfohkfkaaCoreBk
import Derived.Test.YtoledgkfohkfkaaCoreL
namespace Go.Proofs.Ytoledgkfohkfkaa.Pure
open Go.RowKit Go.Proofs.Ytoledgkfohkfkaa.HFnExactGrowthOf Go.Proofs.YtoledgkfohkfkaaW.PrintWords Go.Proofs.YtoledgkfohkfkaaW.PrintLast Go.Proofs.YtoledgkfohkfkaaW.PrintMore Go.Proofs.Ytoledgkfohkfkaa.Core
open Go.RowKit Go.Proofs.YtoledgkfohkfkaaW.PrintWords Go.Proofs.YtoledgkfohkfkaaW.PrintLast Go.Proofs.YtoledgkfohkfkaaW.PrintMore
set_option linter.unusedVariables false
set_option linter.unusedSimpArgs false

/-- How many numbers stand in the rows. -/
def sumLen : List (List Int) → Nat
  | [] => 0
  | x :: s => x.length + sumLen s
/-- The rows with the numbers m, m + 1, .. written over them. -/
def upRows (m : Nat) : List (List Int) → List (List Int)
  | [] => []
  | x :: s => upFrom (m : Int) x.length :: upRows (m + x.length) s
theorem upRows_len (L : List (List Int)) : ∀ m, (upRows m L).length = L.length := by
  induction L with
  | nil => intro m; rfl
  | cons x s ih => intro m; simp [upRows, ih]
/-- Rows of few numbers. -/
def rowsFew (L : List (List Int)) : Prop := L.length ≤ 1048576 ∧ ∀ x ∈ L, x.length ≤ 1000
theorem sumLen_le (L : List (List Int)) (h : ∀ x ∈ L, x.length ≤ 1000) : sumLen L ≤ L.length * 1000 := by
  induction L with
  | nil => simp [sumLen]
  | cons x s ih =>
    have h1 := h x (List.mem_cons_self ..)
    have h2 := ih fun y hy => h y (List.mem_cons_of_mem _ hy)
    simp only [sumLen, List.length_cons]; omega
theorem rowsFew_sum {L : List (List Int)} (h : rowsFew L) : 1 + sumLen L ≤ 1073741824 := by
  have h1 := sumLen_le L h.2
  have h2 := h.1
  omega

/-- The sizes of rows: they are within a million numbers and rows, or what is left is less than 0. -/
theorem laws_szIntSS_loop (L : List (List Int)) (hL : L.length ≤ 1048576) (hm : ∀ x ∈ L, x.length ≤ maxLen) (s : List (List Int)) : ∀ (p : List (List Int)) (left i : Int), L = p ++ s → i = (p.length : Int) → 0 ≤ left ∧ left ≤ 1048576 →
    ∃ r, Ev (fun k => laws_szIntSS.l0 k L left i) r ∧ (r < 0 ∨ (0 ≤ r ∧ r + sumLen s = left)) := by
  have hM : maxLen ≤ 9223372036854775807 := by decide
  induction s with
  | nil =>
    intro p left i hp hi hl
    rw [List.append_nil] at hp
    refine ⟨left, Ev.done fun k => ?_, .inr ⟨hl.1, by simp [sumLen]⟩⟩
    simp only [laws_szIntSS.l0]
    rw [if_neg (by rw [hp]; omega)]
  | cons x s ih =>
    intro p left i hp hi hl
    have h1 : (L.length : Int) = p.length + s.length + 1 := by rw [hp]; simp; omega
    have er : rd_L1 L i = x := by rw [hp]; subst hi; simp [rd_L1]
    have e2 : L = (p ++ [x]) ++ s := by rw [hp]; simp
    have hx := hm x (by rw [hp]; simp)
    have h0 : (0 : Int) ≤ (x.length : Int) := Int.natCast_nonneg _
    have ew : wrap64 (left - (x.length : Int)) = left - (x.length : Int) := w64 (by omega)
    have ew2 : wrap64 (i + 1) = i + 1 := w64 (by omega)
    by_cases c : left - (x.length : Int) < 0
    · refine ⟨-1, Ev.done fun k => ?_, .inl (by omega)⟩
      simp only [laws_szIntSS.l0, if_pos (show i < (L.length : Int) by omega), if_pos (show 0 ≤ i by omega), er, laws_szIntS.f, ew, if_pos c, obind]
      rw [if_pos (by omega)]
    · obtain ⟨r, h2, h3⟩ := ih (p ++ [x]) (left - (x.length : Int)) (i + 1) e2 (by simp; omega) (by omega)
      refine ⟨r, Ev.succ ?_, ?_⟩
      · simp only [laws_szIntSS.l0, if_pos (show i < (L.length : Int) by omega), if_pos (show 0 ≤ i by omega), er, laws_szIntS.f, ew, if_neg c, obind, ew2]
        exact h2
      · have es : sumLen (x :: s) = x.length + sumLen s := rfl
        rcases h3 with h3 | h3
        · exact .inl h3
        · exact .inr ⟨h3.1, by omega⟩
theorem laws_szIntSS_ev (L : List (List Int)) (hl : L.length ≤ maxLen) (hm : ∀ x ∈ L, x.length ≤ maxLen) :
    ∃ r, Ev (fun k => laws_szIntSS.f k L 1048576) r ∧ (r < 0 ∨ (0 ≤ r ∧ L.length + sumLen L ≤ 1048576)) := by
  have hM : maxLen ≤ 9223372036854775807 := by decide
  have h0 : (0 : Int) ≤ (L.length : Int) := Int.natCast_nonneg _
  have ew : wrap64 (1048576 - (L.length : Int)) = 1048576 - (L.length : Int) := w64 (by omega)
  by_cases c : 1048576 - (L.length : Int) < 0
  · refine ⟨-1, Ev.congr (fun k => ?_) (Ev.now (-1)), .inl (by omega)⟩
    unfold laws_szIntSS.f
    rw [ew, if_pos c]
  · obtain ⟨r, h1, h2⟩ := laws_szIntSS_loop L (by omega) hm L [] (1048576 - (L.length : Int)) 0 rfl rfl (by omega)
    refine ⟨r, Ev.congr (fun k => ?_) h1, ?_⟩
    · unfold laws_szIntSS.f
      rw [ew, if_neg c]
    · rcases h2 with h2 | h2
      · exact .inl h2
      · exact .inr ⟨h2.1, by omega⟩

theorem laws_toIntS_loop (s : List Int) : ∀ (p q : List Int) (i : Int), q.length = s.length → i = (p.length : Int) → (p ++ s).length ≤ 1099511627776 →
    Ev (fun k => laws_toIntS.l0 k (p ++ s) (p ++ q) i) (p ++ s) := by
  induction s with
  | nil =>
    intro p q i hq hi hl
    have hq0 : q = [] := List.eq_nil_of_length_eq_zero hq
    subst hq0
    refine Ev.done fun k => ?_
    simp only [laws_toIntS.l0]
    rw [if_neg (by rw [len_nil]; omega)]
  | cons x s ih =>
    intro p q i hq hi hl
    cases q with
    | nil => simp at hq
    | cons y q =>
      have hq' : q.length = s.length := by simpa using hq
      have h1 := len_mid p s x
      have h2 := len_mid p q y
      have := ih (p ++ [x]) q (i + 1) hq' (by rw [len_snoc]; omega) (by rw [← snoc_mid]; exact hl)
      rw [← snoc_mid, ← snoc_mid] at this
      refine Ev.step' this fun k => ?_
      simp only [laws_toIntS.l0]
      rw [if_pos (by omega), if_pos (by omega), if_pos (by omega), rd_mid hi, set_mid hi, w64 (by omega)]
theorem laws_toIntS_ev (l : List Int) (hl : l.length ≤ 1099511627776) : Ev (fun k => laws_toIntS.f k l) l := by
  have := laws_toIntS_loop l [] (List.replicate l.length 0) 0 (by simp) (by simp) (by simpa using hl)
  simp only [List.nil_append] at this
  refine Ev.congr (fun k => ?_) this
  unfold laws_toIntS.f
  rw [if_pos (by omega), if_pos (by omega)]
  simp only [Int.toNat_natCast]

theorem laws_toIntSS_loop (s : List (List Int)) : ∀ (p q : List (List Int)) (i : Int), q.length = s.length → i = (p.length : Int) → (p ++ s).length ≤ 1099511627776 → (∀ x ∈ s, x.length ≤ 1099511627776) →
    Ev (fun k => laws_toIntSS.l0 k (p ++ s) (p ++ q) i) (p ++ s) := by
  induction s with
  | nil =>
    intro p q i hq hi hl hs
    have hq0 : q = [] := List.eq_nil_of_length_eq_zero hq
    subst hq0
    refine Ev.done fun k => ?_
    simp only [laws_toIntSS.l0]
    rw [if_neg (by rw [List.append_nil]; omega)]
  | cons x s ih =>
    intro p q i hq hi hl hs
    cases q with
    | nil => simp at hq
    | cons y q =>
      have hq' : q.length = s.length := by simpa using hq
      have h1 : (((p ++ x :: s).length : Nat) : Int) = p.length + s.length + 1 := by simp; omega
      have h2 : (((p ++ y :: q).length : Nat) : Int) = p.length + q.length + 1 := by simp; omega
      have er : rd_L1 (p ++ x :: s) i = x := by subst hi; simp [rd_L1]
      have e2 : ∀ (u : List Int) (v : List (List Int)), p ++ u :: v = (p ++ [u]) ++ v := fun u v => by simp
      have := ih (p ++ [x]) q (i + 1) hq' (by simp; omega) (by rw [← e2]; exact hl) (fun u hu => hs u (List.mem_cons_of_mem _ hu))
      rw [← e2, ← e2] at this
      refine Ev.succ ?_
      simp only [laws_toIntSS.l0, if_pos (show i < (((p ++ x :: s).length : Nat) : Int) by omega), if_pos (show 0 ≤ i by omega), er, show wrap64 (i + 1) = i + 1 from w64 (by omega)]
      refine Ev.bind (laws_toIntS_ev x (hs x (List.mem_cons_self ..))) ?_
      simp only [if_pos (show i < (((p ++ y :: q).length : Nat) : Int) by omega), set_mid hi]
      exact this
theorem laws_toIntSS_ev (l : List (List Int)) (hl : l.length ≤ 1000000000) (hs : ∀ x ∈ l, x.length ≤ 1099511627776) : Ev (fun k => laws_toIntSS.f k l) l := by
  have := laws_toIntSS_loop l [] (List.replicate l.length []) 0 (by simp) (by simp) (by simpa using (by omega : l.length ≤ 1099511627776)) hs
  simp only [List.nil_append] at this
  refine Ev.congr (fun k => ?_) this
  unfold laws_toIntSS.f
  simp only [Int.toNat_natCast]
  rw [if_pos (by omega), if_pos (by omega)]

theorem laws_eqIntS_loop (s : List Int) : ∀ (p q t : List Int) (i : Int), t.length = s.length → q.length = p.length → i = (p.length : Int) → (p ++ s).length ≤ 1099511627776 →
    Ev (fun k => laws_eqIntS.l0 k (p ++ s) (q ++ t) i) (decide (s = t)) := by
  induction s with
  | nil =>
    intro p q t i ht hq hi hl
    have ht0 : t = [] := List.eq_nil_of_length_eq_zero ht
    subst ht0
    refine Ev.done fun k => ?_
    simp only [laws_eqIntS.l0]
    rw [if_neg (by rw [len_nil]; omega)]
    simp
  | cons x s ih =>
    intro p q t i ht hq hi hl
    cases t with
    | nil => simp at ht
    | cons y t =>
      have ht' : t.length = s.length := by simpa using ht
      have h1 := len_mid p s x
      have h2 := len_mid q t y
      by_cases hxy : x = y
      · have := ih (p ++ [x]) (q ++ [y]) t (i + 1) ht' (by simp [hq]) (by rw [len_snoc]; omega) (by rw [← snoc_mid]; exact hl)
        rw [← snoc_mid, ← snoc_mid] at this
        refine Ev.to (Ev.step' this fun k => ?_) (by simp [hxy])
        simp only [laws_eqIntS.l0]
        rw [if_pos (by omega), if_pos (by omega), if_pos (by omega), rd_mid hi, rd_mid (by omega), if_pos hxy, w64 (by omega)]
      · refine Ev.to (Ev.done fun k => ?_) (show false = _ by simp [hxy])
        simp only [laws_eqIntS.l0]
        rw [if_pos (by omega), if_pos (by omega), if_pos (by omega), rd_mid hi, rd_mid (by omega), if_neg hxy]
theorem laws_eqIntS_ev (l t : List Int) (hl : l.length ≤ 1099511627776) : Ev (fun k => laws_eqIntS.f k l t) (decide (l = t)) := by
  by_cases h : l.length = t.length
  · have := laws_eqIntS_loop l [] [] t 0 h.symm rfl (by simp) (by simpa using hl)
    simp only [List.nil_append] at this
    refine Ev.congr (fun k => ?_) this
    unfold laws_eqIntS.f
    rw [if_pos (by omega)]
  · refine Ev.to (Ev.congr (fun k => ?_) (Ev.now false)) (by rw [decide_eq_false]; exact fun e => h (by rw [e]))
    unfold laws_eqIntS.f
    rw [if_neg (by omega)]

theorem laws_eqIntSS_loop (s : List (List Int)) : ∀ (p : List (List Int)) (i : Int), i = (p.length : Int) → (p ++ s).length ≤ 1073741824 → (∀ x ∈ s, x.length ≤ 1073741824) →
    Ev (fun k => laws_eqIntSS.l0 k (p ++ s) (p ++ s) i) true := by
  induction s with
  | nil =>
    intro p i hi hl hs
    refine Ev.done fun k => ?_
    simp only [laws_eqIntSS.l0]
    rw [if_neg (by rw [List.append_nil]; omega)]
  | cons x s ih =>
    intro p i hi hl hs
    have h1 : (((p ++ x :: s).length : Nat) : Int) = p.length + s.length + 1 := by simp; omega
    have er : rd_L1 (p ++ x :: s) i = x := by subst hi; simp [rd_L1]
    have e2 : p ++ x :: s = (p ++ [x]) ++ s := by simp
    have := ih (p ++ [x]) (i + 1) (by simp; omega) (by rw [← e2]; exact hl) (fun y hy => hs y (List.mem_cons_of_mem _ hy))
    rw [← e2] at this
    refine Ev.succ ?_
    simp only [laws_eqIntSS.l0]
    simp only [if_pos (show 0 ≤ i by omega), if_pos (show i < (((p ++ x :: s).length : Nat) : Int) by omega), er, show wrap64 (i + 1) = i + 1 from w64 (by omega)]
    refine Ev.bind (laws_eqIntS_ev x x (by have := hs x (List.mem_cons_self ..); omega)) ?_
    simp only [decide_true, if_true]
    exact this
theorem laws_eqIntSS_self (l : List (List Int)) (hl : l.length ≤ 1073741824) (hs : ∀ x ∈ l, x.length ≤ 1073741824) : Ev (fun k => laws_eqIntSS.f k l l) true := by
  unfold laws_eqIntSS.f
  simp only [if_true]
  exact laws_eqIntSS_loop l [] 0 (by simp) (by simpa using hl) hs

theorem laws_markIntS_loop (s : List Int) : ∀ (p : List Int) (m i : Int), 0 ≤ m → m + s.length ≤ 1099511627776 → i = (p.length : Int) → (p ++ s).length ≤ 1099511627776 →
    Ev (fun k => laws_markIntS.l0 k (p ++ s) m i) (m + s.length, p ++ upFrom m s.length) := by
  induction s with
  | nil =>
    intro p m i hm hm' hi hl
    refine Ev.to (Ev.done fun k => ?_) (show (m, p ++ []) = _ by simp [upFrom])
    simp only [laws_markIntS.l0]
    rw [if_neg (by rw [len_nil]; omega)]
  | cons x s ih =>
    intro p m i hm hm' hi hl
    have h1 := len_mid p s x
    have h2 : (((x :: s).length : Nat) : Int) = s.length + 1 := by simp
    have h3 : (p ++ m :: s).length = (p ++ x :: s).length := by simp
    have := ih (p ++ [m]) (m + 1) (i + 1) (by omega) (by omega) (by rw [len_snoc]; omega) (by rw [← snoc_mid, h3]; exact hl)
    rw [← snoc_mid] at this
    refine Ev.to (Ev.step' this fun k => ?_) (by rw [h2, ← snoc_mid]; simp only [List.length_cons, upFrom]; congr 1; omega)
    simp only [laws_markIntS.l0]
    rw [if_pos (by omega), if_pos (by omega), set_mid hi, w64 (by omega), w64 (by omega)]
theorem laws_markIntS_ev (l : List Int) (hl : l.length ≤ 109951162777) : Ev (fun k => laws_markIntS.f k l 1) (1 + l.length, upFrom 1 l.length) :=
  laws_markIntS_loop l [] 1 0 (by omega) (by omega) (by simp) (by simp; omega)

theorem laws_markIntSS_loop (s : List (List Int)) : ∀ (p : List (List Int)) (m : Nat) (i : Int), i = (p.length : Int) → (p ++ s).length ≤ 1073741824 → m + sumLen s ≤ 1073741824 →
    Ev (fun k => laws_markIntSS.l0 k (p ++ s) (m : Int) i) (((m + sumLen s : Nat) : Int), p ++ upRows m s) := by
  induction s with
  | nil =>
    intro p m i hi hl hs
    refine Ev.to (Ev.done fun k => ?_) (show ((m : Int), p ++ []) = _ by simp [upRows, sumLen])
    simp only [laws_markIntSS.l0]
    rw [if_neg (by rw [List.append_nil]; omega)]
  | cons x s ih =>
    intro p m i hi hl hs
    have h1 : (((p ++ x :: s).length : Nat) : Int) = p.length + s.length + 1 := by simp; omega
    have er : rd_L1 (p ++ x :: s) i = x := by subst hi; simp [rd_L1]
    have e2 : ∀ y : List Int, p ++ y :: s = (p ++ [y]) ++ s := fun y => by simp
    have es : sumLen (x :: s) = x.length + sumLen s := rfl
    have hlen : ((p ++ [upFrom (m : Int) x.length]) ++ s).length ≤ 1073741824 := by simp at hl ⊢; omega
    have := ih (p ++ [upFrom (m : Int) x.length]) (m + x.length) (i + 1) (by simp; omega) hlen (by omega)
    rw [← e2] at this
    refine Ev.succ ?_
    simp only [laws_markIntSS.l0]
    simp only [if_pos (show 0 ≤ i by omega), if_pos (show i < (((p ++ x :: s).length : Nat) : Int) by omega), er, show wrap64 (i + 1) = i + 1 from w64 (by omega)]
    have hM : Ev (fun k => laws_markIntS.f k x (m : Int)) (((m + x.length : Nat) : Int), upFrom (m : Int) x.length) := by
      have := laws_markIntS_loop x [] (m : Int) 0 (by omega) (by omega) (by simp) (by simp; omega)
      refine Ev.to this ?_
      simp
    refine Ev.bind hM ?_
    simp only [set_mid hi]
    refine Ev.to this ?_
    simp only [es, upRows]
    congr 1
    · omega
    · simp
theorem laws_markIntSS_ev (l : List (List Int)) (hl : l.length ≤ 1073741824) (hs : 1 + sumLen l ≤ 1073741824) : Ev (fun k => laws_markIntSS.f k l 1) (((1 + sumLen l : Nat) : Int), upRows 1 l) :=
  laws_markIntSS_loop l [] 1 0 (by simp) (by simpa using hl) hs

theorem laws_heldIntS_loop (n : Nat) : ∀ (p : List Int) (m i : Int), 0 ≤ m → m + n ≤ 1099511627776 → i = (p.length : Int) → p.length + n ≤ 1099511627776 →
    Ev (fun k => laws_heldIntS.l0 k (p ++ upFrom m n) m i) (m + n) := by
  induction n with
  | zero =>
    intro p m i hm hm' hi hl
    show Ev (fun k => laws_heldIntS.l0 k (p ++ []) m i) _
    refine Ev.to (Ev.done fun k => ?_) (show m = _ by simp)
    simp only [laws_heldIntS.l0]
    rw [if_neg (by rw [len_nil]; omega)]
  | succ n ih =>
    intro p m i hm hm' hi hl
    have h1 := len_mid p (upFrom (m + 1) n) m
    have := ih (p ++ [m]) (m + 1) (i + 1) (by omega) (by omega) (by rw [len_snoc]; omega) (by rw [List.length_append]; simp; omega)
    rw [← snoc_mid] at this
    show Ev (fun k => laws_heldIntS.l0 k (p ++ m :: upFrom (m + 1) n) m i) _
    refine Ev.to (Ev.step' this fun k => ?_) (by omega)
    simp only [laws_heldIntS.l0]
    rw [if_pos (by omega), if_pos (by omega), rd_mid hi, if_pos rfl, w64 (by omega), w64 (by omega)]
theorem laws_heldIntS_ev (n : Nat) (hn : n ≤ 109951162777) : Ev (fun k => laws_heldIntS.f k (upFrom 1 n) 1) (1 + n) :=
  laws_heldIntS_loop n [] 1 0 (by omega) (by omega) (by simp) (by simp; omega)

theorem spec_l1Most_eq (a b : Int) : spec_l1Most.f a b = some (max a b) := most_max a b

theorem spec_spTop_loop (s : List Int) : ∀ (p : List Int) (m n i : Int), n = ((p ++ s).length : Int) → i = (p.length : Int) → (p ++ s).length ≤ 1099511627776 →
    Ev (fun k => spec_spTop.l0 k m (p ++ s) n i) (s.foldl max m) := by
  induction s with
  | nil =>
    intro p m n i hn hi hl
    refine Ev.to (Ev.done fun k => ?_) (show m = _ by simp)
    simp only [spec_spTop.l0]
    rw [if_neg (by rw [len_nil] at hn; omega)]
  | cons x s ih =>
    intro p m n i hn hi hl
    have h1 := len_mid p s x
    have := ih (p ++ [x]) (max m x) n (i + 1) (by rw [← snoc_mid]; exact hn) (by rw [len_snoc]; omega) (by rw [← snoc_mid]; exact hl)
    rw [← snoc_mid] at this
    refine Ev.to (Ev.step' this fun k => ?_) (by simp)
    simp only [spec_spTop.l0]
    rw [if_pos (by omega), if_pos (by omega), if_pos (by omega), rd_mid hi, spec_l1Most_eq, w64 (by omega)]
    rfl
theorem spec_spTop_ev (l : List Int) (hl : l.length ≤ 1099511627776) : Ev (fun k => spec_spTop.f k l) (l.foldl max (-1)) :=
  spec_spTop_loop l [] (-1) _ 0 rfl (by simp) (by simpa using hl)

theorem spec_l1Own_eq (l : List Int) (hl : l.length ≤ 1000000) : spec_l1Own.f l = some l := by
  unfold spec_l1Own.f
  rw [obind, if_pos (by simp; omega), List.nil_append]

theorem impl_blocks_loop (s : List Int) : ∀ (p : List Int) (B : List (List Int)) (n i : Int), growW ((B.length : Int) - 1) s = true → n = ((p ++ s).length : Int) → i = (p.length : Int) → (p ++ s).length ≤ 1000 → B.length + s.length ≤ 1000 → (∀ y ∈ B, y.length + s.length ≤ 1000) →
    Ev (fun k => impl_blocks.l0 k B (p ++ s) n i) (blkF p.length B s) := by
  induction s with
  | nil =>
    intro p B n i hg hn hi hl hb hr
    refine Ev.done fun k => ?_
    simp only [impl_blocks.l0]
    rw [if_neg (by rw [List.append_nil] at hn; omega)]; rfl
  | cons x s ih =>
    intro p B n i hg hn hi hl hb hr
    obtain ⟨h1, h2⟩ := growW_next hg
    have hp : (((p ++ x :: s).length : Nat) : Int) = p.length + s.length + 1 := by simp; omega
    have hl' : p.length + s.length + 1 ≤ 1000 := by omega
    rw [List.length_cons] at hb
    have hr' : ∀ y ∈ B, y.length + (s.length + 1) ≤ 1000 := fun y hy => by have := hr y hy; rwa [List.length_cons] at this
    have e2 : p ++ x :: s = (p ++ [x]) ++ s := by simp
    have hlen := blkOne_len (i := p.length) h1
    have := ih (p ++ [x]) (blkOne B x p.length) n (i + 1) (by rw [hlen]; exact h2) (by rw [← e2]; exact hn) (by simp; omega) (by rw [← e2]; exact hl) (by rw [hlen]; omega)
      (fun y hy => by
        have := blkOne_row (n := 1000 - s.length) (by omega) (fun u hu => by have := hr' u hu; omega) y hy
        omega)
    rw [← e2] at this
    have ep : (p ++ [x]).length = p.length + 1 := by simp
    rw [ep] at this
    refine Ev.succ ?_
    simp only [impl_blocks.l0]
    simp only [if_pos (show i < n by omega), if_pos (show 0 ≤ i by omega), if_pos (show i < (((p ++ x :: s).length : Nat) : Int) by omega), rd_mid hi, show wrap64 (i + 1) = i + 1 from w64 (by omega), if_pos h1.1]
    by_cases c : x = (B.length : Int)
    · have cN : x.toNat = B.length := by omega
      have er : rd_L1 (B ++ [[]]) x = [] := by unfold rd_L1; rw [cN]; simp
      have es : (B ++ [[]]).set x.toNat ([] ++ [i]) = blkOne B x p.length := by unfold blkOne; rw [if_pos cN, cN, hi]; simp
      simp only [if_pos c, if_pos (show B.length < 5864062014805 by omega), obind, er, if_pos (show x < (((B ++ [[]] : List (List Int)).length : Nat) : Int) by simp; omega), List.length_nil, if_pos (show 0 < 17592186044416 by omega), es]
      exact this
    · have cN : ¬ x.toNat = B.length := by omega
      have hlt : x.toNat < B.length := by omega
      have er : rd_L1 B x = B.getD x.toNat [] := rfl
      have hrow := hr' (B.getD x.toNat []) (by rw [getD_at hlt]; exact List.getElem_mem _)
      have es : B.set x.toNat (B.getD x.toNat [] ++ [i]) = blkOne B x p.length := by unfold blkOne; rw [if_neg cN, hi]
      simp only [if_neg c, if_pos (show x < (B.length : Int) by omega), er, if_pos (show (B.getD x.toNat []).length < 17592186044416 by omega), es]
      exact this
theorem impl_blocks_ev (l : List Int) (h : isG l = true) : Ev (fun k => impl_blocks.f k l) (blk l) := by
  obtain ⟨h1, h2, h3⟩ := isG_true h
  exact impl_blocks_loop l [] [] _ 0 h1 (by simp) (by simp) (by simp; omega) (by simp; omega) (fun y hy => by cases hy)
theorem spec_spBlocks_loop (s : List Int) : ∀ (p : List Int) (B : List (List Int)) (r : Nat) (n i : Int), growW ((B.length : Int) - 1) s = true → B.length + r = topK B.length s → n = ((p ++ s).length : Int) → i = (p.length : Int) → (p ++ s).length ≤ 1000 → B.length + s.length ≤ 1000 → (∀ y ∈ B, y.length + s.length ≤ 1000) →
    Ev (fun k => spec_spBlocks.l0 k (B ++ List.replicate r []) (p ++ s) n i) (blkF p.length B s) := by
  induction s with
  | nil =>
    intro p B r n i hg ht hn hi hl hb hr
    have hr0 : r = 0 := by simp only [topK] at ht; omega
    subst hr0
    refine Ev.to (Ev.done fun k => ?_) (show B ++ List.replicate 0 [] = _ by simp [blkF])
    simp only [spec_spBlocks.l0]
    rw [if_neg (by rw [List.append_nil] at hn; omega)]
  | cons x s ih =>
    intro p B r n i hg ht hn hi hl hb hr
    obtain ⟨h1, h2⟩ := growW_next hg
    have hp : (((p ++ x :: s).length : Nat) : Int) = p.length + s.length + 1 := by simp; omega
    have hl' : p.length + s.length + 1 ≤ 1000 := by omega
    rw [List.length_cons] at hb
    have hr' : ∀ y ∈ B, y.length + (s.length + 1) ≤ 1000 := fun y hy => by have := hr y hy; rwa [List.length_cons] at this
    have e2 : p ++ x :: s = (p ++ [x]) ++ s := by simp
    have hlen := blkOne_len (i := p.length) h1
    simp only [topK] at ht
    have htop := topK_ge s (max B.length (x.toNat + 1))
    have := ih (p ++ [x]) (blkOne B x p.length) (B.length + r - max B.length (x.toNat + 1)) n (i + 1) (by rw [hlen]; exact h2) (by rw [hlen]; omega) (by rw [← e2]; exact hn) (by simp; omega) (by rw [← e2]; exact hl) (by rw [hlen]; omega)
      (fun y hy => by
        have := blkOne_row (n := 1000 - s.length) (by omega) (fun u hu => by have := hr' u hu; omega) y hy
        omega)
    rw [← e2] at this
    have ep : (p ++ [x]).length = p.length + 1 := by simp
    rw [ep, ← blkOne_room h1 (by omega)] at this
    have hrow : ((B ++ List.replicate r []).getD x.toNat ([] : List Int)).length ≤ 1000 := by
      by_cases c : x.toNat < (B ++ List.replicate r ([] : List Int)).length
      · rw [getD_at c]
        rcases List.mem_append.1 (List.getElem_mem c) with hm | hm
        · have := hr' _ hm; omega
        · rw [(List.mem_replicate.1 hm).2]; simp
      · rw [getD_out (by omega)]; simp
    have er : rd_L1 (B ++ List.replicate r []) x = (B ++ List.replicate r []).getD x.toNat [] := rfl
    refine Ev.succ ?_
    simp only [spec_spBlocks.l0]
    simp only [if_pos (show i < n by omega), if_pos (show 0 ≤ i by omega), if_pos (show i < (((p ++ x :: s).length : Nat) : Int) by omega), rd_mid hi, show wrap64 (i + 1) = i + 1 from w64 (by omega), if_pos h1.1,
      if_pos (show x < (((B ++ List.replicate r ([] : List Int)).length : Nat) : Int) by simp; omega), er, spec_l1Own_eq _ (Nat.le_trans hrow (by omega)), obind, if_pos (show ((B ++ List.replicate r []).getD x.toNat ([] : List Int)).length < 17592186044416 by omega)]
    rw [hi] at this ⊢
    exact this
theorem spec_spBlocks_ev (l : List Int) (h : isG l = true) : Ev (fun k => spec_spBlocks.f k l) (blk l) := by
  obtain ⟨h1, h2, h3⟩ := isG_true h
  have ht := topK_fold l 0 h1
  have hle := topK_le l 0 h1
  unfold spec_spBlocks.f
  refine Ev.bind (spec_spTop_ev l (by omega)) ?_
  have e : wrap64 (l.foldl max (-1) + 1) = (topK 0 l : Int) := by
    have : l.foldl max (-1) = (topK 0 l : Int) - 1 := ht
    rw [this, w64 (by omega)]; omega
  simp only [e, Int.toNat_natCast, if_pos (show (0 : Int) ≤ (topK 0 l : Int) by omega), if_pos (show topK 0 l ≤ 11728124029610 by omega)]
  have := spec_spBlocks_loop l [] [] (topK 0 l) (l.length : Int) 0 h1 (by simp) (by simp) (by simp) (by simp; omega) (by simp; omega) (fun y hy => by cases hy)
  rw [List.nil_append, List.nil_append] at this
  exact this
theorem blk_len {l : List Int} (h : isG l = true) : (blk l).length ≤ 12 ∧ ∀ x ∈ blk l, x.length ≤ 12 := by
  obtain ⟨h1, h2, h3⟩ := isG_true h
  refine ⟨?_, fun x hx => blkF_row l 0 [] 12 (fun y hy => by cases hy) (by omega) x hx⟩
  have := blkF_len l 0 [] h1
  have hle := topK_le l 0 h1
  have e : (blk l).length = topK 0 l := this
  omega

theorem len_sumLen {L : List (List Int)} {x : List Int} (h : x ∈ L) : x.length ≤ sumLen L := by
  induction L with
  | nil => cases h
  | cons y s ih =>
    have e : sumLen (y :: s) = y.length + sumLen s := rfl
    rcases List.mem_cons.1 h with rfl | h
    · omega
    · have := ih h; omega
/-- The numbers of one block get the block's number. -/
def fillR (n : Nat) (v : Int) : List Int → List Int → Option (List Int)
  | [], a => some a
  | i :: s, a => if inB i 0 ((n : Int) - 1) = true then fillR n v s (a.set i.toNat v) else none
/-- All blocks, from the one with number v on. -/
def fillB (n : Nat) : Int → List (List Int) → List Int → Option (List Int)
  | _, [], a => some a
  | v, r :: s, a => match fillR n v r a with
    | none => none
    | some a => fillB n (v + 1) s a
def finG (L : List (List Int)) (a : List Int) : List Int × Bool := if isG a = true ∧ blk a = L then (a, true) else ([], false)
def grwR (L : List (List Int)) : List Int × Bool :=
  if inB (sumLen L : Int) 1 12 = true then
    (match fillB (sumLen L) 0 L (List.replicate (sumLen L) 0) with
    | none => ([], false)
    | some a => finG L a)
  else ([], false)
theorem fillR_len (n : Nat) (v : Int) (s : List Int) : ∀ a b, fillR n v s a = some b → b.length = a.length := by
  induction s with
  | nil => intro a b h; simp only [fillR, Option.some.injEq] at h; rw [h]
  | cons i s ih =>
    intro a b h
    unfold fillR at h
    split at h
    · rw [ih _ _ h, List.length_set]
    · cases h
theorem fillB_len (n : Nat) (s : List (List Int)) : ∀ v a b, fillB n v s a = some b → b.length = a.length := by
  induction s with
  | nil => intro v a b h; simp only [fillB, Option.some.injEq] at h; rw [h]
  | cons r s ih =>
    intro v a b h
    unfold fillB at h
    split at h
    · cases h
    · rename_i c hc
      rw [ih _ _ _ h, fillR_len _ _ _ _ _ hc]
theorem grwR_few (L : List (List Int)) : (grwR L).1.length ≤ 12 := by
  unfold grwR
  by_cases h : inB (sumLen L : Int) 1 12 = true
  · have hx := inB_true.1 h
    rw [if_pos h]
    split
    · simp
    · rename_i a ha
      unfold finG
      split
      · have := fillB_len _ _ _ _ _ ha
        rw [List.length_replicate] at this
        show a.length ≤ 12
        omega
      · simp
  · rw [if_neg h]; simp

theorem slices_Equal_int_int_loop (s : List Int) : ∀ (p q t : List Int) (n i : Int), t.length = s.length → q.length = p.length → n = ((p ++ s).length : Int) → i = (p.length : Int) → (p ++ s).length ≤ 1000 →
    Ev (fun k => slices_Equal_int_int.l0 k (p ++ s) (q ++ t) n i) (decide (s = t)) := by
  induction s with
  | nil =>
    intro p q t n i ht hq hn hi hl
    have ht0 : t = [] := List.eq_nil_of_length_eq_zero ht
    subst ht0
    refine Ev.done fun k => ?_
    simp only [slices_Equal_int_int.l0]
    rw [if_neg (by rw [len_nil] at hn; omega)]
    simp
  | cons x s ih =>
    intro p q t n i ht hq hn hi hl
    cases t with
    | nil => simp at ht
    | cons y t =>
      have ht' : t.length = s.length := by simpa using ht
      have h1 := len_mid p s x
      have h2 := len_mid q t y
      by_cases hxy : x = y
      · have := ih (p ++ [x]) (q ++ [y]) t n (i + 1) ht' (by simp [hq]) (by rw [← snoc_mid]; exact hn) (by rw [len_snoc]; omega) (by rw [← snoc_mid]; exact hl)
        rw [← snoc_mid, ← snoc_mid] at this
        refine Ev.to (Ev.step' this fun k => ?_) (by simp [hxy])
        simp only [slices_Equal_int_int.l0]
        rw [if_pos (by omega), if_pos (by omega), if_pos (by omega), if_pos (by omega), rd_mid hi, rd_mid (by omega), if_pos hxy, w64 (by omega)]
      · refine Ev.to (Ev.done fun k => ?_) (show false = _ by simp [hxy])
        simp only [slices_Equal_int_int.l0]
        rw [if_pos (by omega), if_pos (by omega), if_pos (by omega), if_pos (by omega), rd_mid hi, rd_mid (by omega), if_neg hxy]
theorem slices_Equal_int_int_ev (l t : List Int) (hl : l.length ≤ 1000) : Ev (fun k => slices_Equal_int_int.f k l t) (decide (l = t)) := by
  by_cases h : l.length = t.length
  · have := slices_Equal_int_int_loop l [] [] t _ 0 h.symm rfl rfl (by simp) (by simpa using hl)
    simp only [List.nil_append] at this
    refine Ev.congr (fun k => ?_) this
    unfold slices_Equal_int_int.f
    rw [if_pos (by omega)]
  · refine Ev.to (Ev.congr (fun k => ?_) (Ev.now false)) (by rw [decide_eq_false]; exact fun e => h (by rw [e]))
    unfold slices_Equal_int_int.f
    rw [if_neg (by omega)]

theorem impl_within_eq (a b c : Int) : impl_within.f a b c = some (inB a b c) := inB_ite a b c

theorem impl_IsGrowth_loop (l : List Int) (s : List Int) : ∀ (p : List Int) (m n i : Int), -1 ≤ m → m + 1 ≤ p.length → n = ((p ++ s).length : Int) → i = (p.length : Int) → (p ++ s).length ≤ 1099511627776 →
    Ev (fun k => impl_IsGrowth.l0 k l m (p ++ s) n i) (growW m s && inB l.length 1 12) := by
  induction s with
  | nil =>
    intro p m n i hm hm' hn hi hl
    refine Ev.to (Ev.done fun k => ?_) (show inB l.length 1 12 = _ by unfold growW; simp)
    simp only [impl_IsGrowth.l0]
    rw [if_neg (by rw [len_nil] at hn; omega), impl_within_eq]
    rfl
  | cons x s ih =>
    intro p m n i hm hm' hn hi hl
    have h1 := len_mid p s x
    unfold growW
    cases hb : inB x 0 (m + 1) with
    | false =>
      refine Ev.to (Ev.done fun k => ?_) (show false = _ by simp)
      simp only [impl_IsGrowth.l0]
      rw [if_pos (by omega), if_pos (by omega), if_pos (by omega), rd_mid hi, w64 (n := m + 1) (by omega), impl_within_eq, hb]
      rfl
    | true =>
      have hx := inB_true.1 hb
      have := ih (p ++ [x]) (max m x) n (i + 1) (by omega) (by rw [len_snoc]; omega) (by rw [← snoc_mid]; exact hn) (by rw [len_snoc]; omega) (by rw [← snoc_mid]; exact hl)
      rw [← snoc_mid] at this
      refine Ev.to (Ev.step' this fun k => ?_) (by simp)
      simp only [impl_IsGrowth.l0]
      rw [if_pos (by omega), if_pos (by omega), if_pos (by omega), rd_mid hi, w64 (n := m + 1) (by omega), impl_within_eq, hb]
      simp only [obind, if_true, mx_max]
      rw [w64 (n := i + 1) (by omega)]
theorem impl_IsGrowth_ev (l : List Int) (hl : l.length ≤ 1099511627776) : Ev (fun k => impl_IsGrowth.f k l) (isG l) :=
  impl_IsGrowth_loop l l [] (-1) _ 0 (by omega) (by simp) rfl (by simp) (by simpa using hl)

theorem impl_EqualFunc_loop (s : List (List Int)) : ∀ (p q t : List (List Int)) (n i : Int), t.length = s.length → q.length = p.length → n = ((p ++ s).length : Int) → i = (p.length : Int) → (p ++ s).length ≤ 1048576 → (∀ x ∈ s, x.length ≤ 1000) →
    Ev (fun k => slices_EqualFunc_int_int_int_int.l0 k (q ++ t) (p ++ s) n i) (decide (s = t)) := by
  induction s with
  | nil =>
    intro p q t n i ht hq hn hi hl hs
    have ht0 : t = [] := List.eq_nil_of_length_eq_zero ht
    subst ht0
    refine Ev.done fun k => ?_
    simp only [slices_EqualFunc_int_int_int_int.l0]
    rw [if_neg (by rw [List.append_nil] at hn; omega)]
    simp
  | cons x s ih =>
    intro p q t n i ht hq hn hi hl hs
    cases t with
    | nil => simp at ht
    | cons y t =>
      have ht' : t.length = s.length := by simpa using ht
      have h1 : (((p ++ x :: s).length : Nat) : Int) = p.length + s.length + 1 := by simp; omega
      have h2 : (((q ++ y :: t).length : Nat) : Int) = q.length + t.length + 1 := by simp; omega
      have er : rd_L1 (p ++ x :: s) i = x := by subst hi; simp [rd_L1]
      have er2 : rd_L1 (q ++ y :: t) i = y := by subst hi; rw [← hq]; simp [rd_L1]
      have e2 : p ++ x :: s = (p ++ [x]) ++ s := by simp
      have e3 : q ++ y :: t = (q ++ [y]) ++ t := by simp
      have hx := hs x (List.mem_cons_self ..)
      refine Ev.succ ?_
      simp only [slices_EqualFunc_int_int_int_int.l0, if_pos (show i < n by omega), if_pos (show 0 ≤ i by omega), if_pos (show i < (((p ++ x :: s).length : Nat) : Int) by omega), if_pos (show i < (((q ++ y :: t).length : Nat) : Int) by omega), er, er2, show wrap64 (i + 1) = i + 1 from w64 (by omega)]
      refine Ev.bind (a := decide (x = y)) ?_ ?_
      · unfold impl_GrowthOf_f1.f
        exact Ev.bind (slices_Equal_int_int_ev x y hx) (Ev.now _)
      · by_cases hxy : x = y
        · have := ih (p ++ [x]) (q ++ [y]) t n (i + 1) ht' (by simp [hq]) (by rw [← e2]; exact hn) (by simp; omega) (by rw [← e2]; exact hl) (fun u hu => hs u (List.mem_cons_of_mem _ hu))
          rw [← e2, ← e3] at this
          simp only [decide_eq_true hxy, if_true]
          exact Ev.to this (by simp [hxy])
        · simp only [decide_eq_false hxy, Bool.false_eq_true, if_false]
          exact Ev.some_ (by simp [hxy])
theorem impl_EqualFunc_ev (l t : List (List Int)) (hl : l.length ≤ 1048576) (hs : ∀ x ∈ l, x.length ≤ 1000) : Ev (fun k => slices_EqualFunc_int_int_int_int.f k l t) (decide (l = t)) := by
  by_cases h : l.length = t.length
  · have := impl_EqualFunc_loop l [] [] t _ 0 h.symm rfl rfl (by simp) (by simpa using hl) hs
    simp only [List.nil_append] at this
    refine Ev.congr (fun k => ?_) this
    unfold slices_EqualFunc_int_int_int_int.f
    rw [if_pos (by omega)]
  · refine Ev.to (Ev.congr (fun k => ?_) (Ev.now false)) (by rw [decide_eq_false]; exact fun e => h (by rw [e]))
    unfold slices_EqualFunc_int_int_int_int.f
    rw [if_neg (by omega)]
theorem impl_GrowthOf_end (L : List (List Int)) (a : List Int) (ha : a.length ≤ 12) (hL : L.length ≤ 1048576) (hrows : ∀ x ∈ L, x.length ≤ 12) :
    Ev (fun k => (impl_IsGrowth.f k a).bind fun t => (if t = true then ((impl_blocks.f k a).bind fun u => ((slices_EqualFunc_int_int_int_int.f k u L).bind fun v => (if v = true then (some (a, true)) else (some (([] : List Int), false))))) else (some (([] : List Int), false)))) (finG L a) := by
  refine Ev.bind (impl_IsGrowth_ev a (by omega)) ?_
  unfold finG
  cases h : isG a with
  | false => simp only [Bool.false_eq_true, if_false, false_and]; exact Ev.now _
  | true =>
    obtain ⟨h1, h2⟩ := blk_len h
    simp only [if_true, true_and]
    refine Ev.bind (impl_blocks_ev a h) (Ev.bind (impl_EqualFunc_ev _ L (by omega) (fun x hx => Nat.le_trans (h2 x hx) (by omega))) ?_)
    by_cases hb : blk a = L
    · simp only [decide_eq_true hb, if_true, if_pos hb]; exact Ev.now _
    · simp only [decide_eq_false hb, Bool.false_eq_true, if_false, if_neg hb]; exact Ev.now _
theorem impl_GrowthOf_l2 (L : List (List Int)) (n : Nat) (hn : n ≤ 12) (v i0 : Int) (row : List Int) (hrow : row.length ≤ 12) (R : List Int → List Int × Bool)
    (hr : ∀ a, a.length = n → Ev (fun k => impl_GrowthOf.l1 k L (n : Int) a L (L.length : Int) (wrap64 (i0 + 1))) (R a)) (s : List Int) : ∀ (p a : List Int) (i : Int), row = p ++ s → i = (p.length : Int) → a.length = n →
    Ev (fun k => impl_GrowthOf.l2 k L (n : Int) a v L (L.length : Int) i0 row (row.length : Int) i) (match fillR n v s a with | none => ([], false) | some a' => R a') := by
  induction s with
  | nil =>
    intro p a i hp hi ha
    rw [List.append_nil] at hp
    refine Ev.succ ?_
    simp only [impl_GrowthOf.l2, if_neg (show ¬ i < (row.length : Int) by rw [hp]; omega), fillR]
    exact hr a ha
  | cons x s ih =>
    intro p a i hp hi ha
    have h1 : (row.length : Int) = p.length + s.length + 1 := by rw [hp]; simp; omega
    have er : rd row i = x := by rw [hp]; exact rd_mid hi
    have e2 : row = (p ++ [x]) ++ s := by rw [hp]; simp
    have ew : wrap64 ((n : Int) - 1) = (n : Int) - 1 := w64 (by omega)
    have ew2 : wrap64 (i + 1) = i + 1 := w64 (by omega)
    refine Ev.succ ?_
    simp only [impl_GrowthOf.l2, if_pos (show i < (row.length : Int) by omega), if_pos (show 0 ≤ i by omega), er, ew, ew2, impl_within_eq, obind, fillR]
    cases h : inB x 0 ((n : Int) - 1) with
    | false => simp only [Bool.false_eq_true, if_false]; exact Ev.now _
    | true =>
      have hx := inB_true.1 h
      simp only [if_true, if_pos hx.1, if_pos (show x < (a.length : Int) by omega)]
      exact ih (p ++ [x]) (a.set x.toNat v) (i + 1) e2 (by simp; omega) (by rw [List.length_set]; exact ha)
theorem impl_GrowthOf_l1 (L : List (List Int)) (n : Nat) (hn : n ≤ 12) (hL : L.length ≤ 1048576) (hrows : ∀ x ∈ L, x.length ≤ 12) (s : List (List Int)) : ∀ (p : List (List Int)) (a : List Int) (i : Int), L = p ++ s → i = (p.length : Int) → a.length = n →
    Ev (fun k => impl_GrowthOf.l1 k L (n : Int) a L (L.length : Int) i) (match fillB n i s a with | none => ([], false) | some a' => finG L a') := by
  induction s with
  | nil =>
    intro p a i hp hi ha
    rw [List.append_nil] at hp
    refine Ev.succ ?_
    simp only [impl_GrowthOf.l1, if_neg (show ¬ i < (L.length : Int) by rw [hp]; omega), fillB]
    exact impl_GrowthOf_end L a (by omega) hL hrows
  | cons x s ih =>
    intro p a i hp hi ha
    have h1 : (L.length : Int) = p.length + s.length + 1 := by rw [hp]; simp; omega
    have er : rd_L1 L i = x := by rw [hp]; subst hi; simp [rd_L1]
    have e2 : L = (p ++ [x]) ++ s := by rw [hp]; simp
    have ew2 : wrap64 (i + 1) = i + 1 := w64 (by omega)
    have hx : x ∈ L := by rw [hp]; simp
    have := impl_GrowthOf_l2 L n hn i i x (hrows x hx) (fun a => match fillB n (i + 1) s a with | none => ([], false) | some a' => finG L a')
      (fun a ha => by rw [ew2]; exact ih (p ++ [x]) a (i + 1) e2 (by simp; omega) ha) x [] a 0 rfl rfl ha
    refine Ev.succ ?_
    simp only [impl_GrowthOf.l1, if_pos (show i < (L.length : Int) by omega), if_pos (show 0 ≤ i by omega), er, fillB]
    refine Ev.to this ?_
    cases fillR n i x a <;> rfl
theorem impl_GrowthOf_l0 (L : List (List Int)) (hL : L.length + sumLen L ≤ 1048576) (s : List (List Int)) : ∀ (p : List (List Int)) (t : Nat) (i : Int), L = p ++ s → i = (p.length : Int) → t + sumLen s = sumLen L →
    Ev (fun k => impl_GrowthOf.l0 k L (t : Int) L (L.length : Int) i) (grwR L) := by
  induction s with
  | nil =>
    intro p t i hp hi ht
    rw [List.append_nil] at hp
    have ht : t = sumLen L := by simpa [sumLen] using ht
    subst ht
    refine Ev.succ ?_
    simp only [impl_GrowthOf.l0, if_neg (show ¬ i < (L.length : Int) by rw [hp]; omega), impl_within_eq, obind]
    unfold grwR
    cases h : inB (sumLen L : Int) 1 12 with
    | false => simp only [Bool.false_eq_true, if_false]; exact Ev.now _
    | true =>
      have hx := inB_true.1 h
      simp only [if_true, Int.toNat_natCast, if_pos (show (0 : Int) ≤ (sumLen L : Int) by omega), if_pos (show sumLen L ≤ 35184372088832 by omega)]
      exact impl_GrowthOf_l1 L (sumLen L) (by omega) (by omega) (fun x hx => by have := len_sumLen hx; omega) L [] _ 0 rfl rfl (by simp)
  | cons x s ih =>
    intro p t i hp hi ht
    have h1 : (L.length : Int) = p.length + s.length + 1 := by rw [hp]; simp; omega
    have er : rd_L1 L i = x := by rw [hp]; subst hi; simp [rd_L1]
    have e2 : L = (p ++ [x]) ++ s := by rw [hp]; simp
    have ew2 : wrap64 (i + 1) = i + 1 := w64 (by omega)
    have es : sumLen (x :: s) = x.length + sumLen s := rfl
    have ew : wrap64 ((t : Int) + (x.length : Int)) = ((t + x.length : Nat) : Int) := by rw [w64 (by omega)]; omega
    refine Ev.succ ?_
    simp only [impl_GrowthOf.l0, if_pos (show i < (L.length : Int) by omega), if_pos (show 0 ≤ i by omega), er, ew, ew2]
    exact ih (p ++ [x]) (t + x.length) (i + 1) e2 (by simp; omega) (by omega)
theorem impl_GrowthOf_ev (L : List (List Int)) (hL : L.length + sumLen L ≤ 1048576) : Ev (fun k => impl_GrowthOf.f k L) (grwR L) := by
  unfold impl_GrowthOf.f
  exact impl_GrowthOf_l0 L hL L [] 0 0 rfl rfl (by omega)

theorem spec_l1Same_loop (s : List Int) : ∀ (p q t : List Int) (n i : Int), t.length = s.length → q.length = p.length → n = ((p ++ s).length : Int) → i = (p.length : Int) → (p ++ s).length ≤ 1000 →
    Ev (fun k => spec_l1Same.l0 k (p ++ s) (q ++ t) n i) (decide (s = t)) := by
  induction s with
  | nil =>
    intro p q t n i ht hq hn hi hl
    have ht0 : t = [] := List.eq_nil_of_length_eq_zero ht
    subst ht0
    refine Ev.done fun k => ?_
    simp only [spec_l1Same.l0]
    rw [if_neg (by rw [len_nil] at hn; omega)]
    simp
  | cons x s ih =>
    intro p q t n i ht hq hn hi hl
    cases t with
    | nil => simp at ht
    | cons y t =>
      have ht' : t.length = s.length := by simpa using ht
      have h1 := len_mid p s x
      have h2 := len_mid q t y
      by_cases hxy : x = y
      · have := ih (p ++ [x]) (q ++ [y]) t n (i + 1) ht' (by simp [hq]) (by rw [← snoc_mid]; exact hn) (by rw [len_snoc]; omega) (by rw [← snoc_mid]; exact hl)
        rw [← snoc_mid, ← snoc_mid] at this
        refine Ev.to (Ev.step' this fun k => ?_) (by simp [hxy])
        simp only [spec_l1Same.l0]
        rw [if_pos (by omega), if_pos (by omega), if_pos (by omega), if_pos (by omega), rd_mid hi, rd_mid (by omega), if_pos hxy, w64 (by omega)]
      · refine Ev.to (Ev.done fun k => ?_) (show false = _ by simp [hxy])
        simp only [spec_l1Same.l0]
        rw [if_pos (by omega), if_pos (by omega), if_pos (by omega), if_pos (by omega), rd_mid hi, rd_mid (by omega), if_neg hxy]
theorem spec_l1Same_ev (l t : List Int) (hl : l.length ≤ 1000) : Ev (fun k => spec_l1Same.f k l t) (decide (l = t)) := by
  by_cases h : l.length = t.length
  · have := spec_l1Same_loop l [] [] t _ 0 h.symm rfl rfl (by simp) (by simpa using hl)
    simp only [List.nil_append] at this
    refine Ev.congr (fun k => ?_) this
    unfold spec_l1Same.f
    rw [if_pos (by omega)]
  · refine Ev.to (Ev.congr (fun k => ?_) (Ev.now false)) (by rw [decide_eq_false]; exact fun e => h (by rw [e]))
    unfold spec_l1Same.f
    rw [if_neg (by omega)]

theorem spec_l1In_eq (a b c : Int) : spec_l1In.f a b c = some (inB a b c) := inB_ite a b c

theorem spec_spGrowth_loop (l : List Int) (s : List Int) : ∀ (p : List Int) (m n i : Int), -1 ≤ m → m + 1 ≤ p.length → n = ((p ++ s).length : Int) → i = (p.length : Int) → (p ++ s).length ≤ 1099511627776 →
    Ev (fun k => spec_spGrowth.l0 k l m (p ++ s) n i) (growW m s && inB l.length 1 12) := by
  induction s with
  | nil =>
    intro p m n i hm hm' hn hi hl
    refine Ev.to (Ev.done fun k => ?_) (show inB l.length 1 12 = _ by unfold growW; simp)
    simp only [spec_spGrowth.l0]
    rw [if_neg (by rw [len_nil] at hn; omega), spec_l1In_eq]
    rfl
  | cons x s ih =>
    intro p m n i hm hm' hn hi hl
    have h1 := len_mid p s x
    unfold growW
    cases hb : inB x 0 (m + 1) with
    | false =>
      refine Ev.to (Ev.done fun k => ?_) (show false = _ by simp)
      simp only [spec_spGrowth.l0]
      rw [if_pos (by omega), if_pos (by omega), if_pos (by omega), rd_mid hi, w64 (n := m + 1) (by omega), spec_l1In_eq, hb]
      rfl
    | true =>
      have hx := inB_true.1 hb
      have := ih (p ++ [x]) (max m x) n (i + 1) (by omega) (by rw [len_snoc]; omega) (by rw [← snoc_mid]; exact hn) (by rw [len_snoc]; omega) (by rw [← snoc_mid]; exact hl)
      rw [← snoc_mid] at this
      refine Ev.to (Ev.step' this fun k => ?_) (by simp)
      simp only [spec_spGrowth.l0]
      rw [if_pos (by omega), if_pos (by omega), if_pos (by omega), rd_mid hi, w64 (n := m + 1) (by omega), spec_l1In_eq, hb]
      simp only [obind, if_true, spec_l1Most_eq, obind]
      rw [w64 (n := i + 1) (by omega)]
theorem spec_spGrowth_ev (l : List Int) (hl : l.length ≤ 1099511627776) : Ev (fun k => spec_spGrowth.f k l) (isG l) :=
  spec_spGrowth_loop l l [] (-1) _ 0 (by omega) (by simp) rfl (by simp) (by simpa using hl)

theorem spec_GrowthOf_l3 (a : List Int) (s : List (List Int)) : ∀ (p q t : List (List Int)) (n i : Int), t.length = s.length → q.length = p.length → n = ((p ++ s).length : Int) → i = (p.length : Int) → (p ++ s).length ≤ 1048576 → (∀ x ∈ s, x.length ≤ 1000) →
    Ev (fun k => spec_GrowthOf.l3 k a (q ++ t) (p ++ s) n i) (if t = s then (a, true) else ([], false)) := by
  induction s with
  | nil =>
    intro p q t n i ht hq hn hi hl hs
    have ht0 : t = [] := List.eq_nil_of_length_eq_zero ht
    subst ht0
    refine Ev.done fun k => ?_
    simp only [spec_GrowthOf.l3, if_true]
    rw [if_neg (by rw [List.append_nil] at hn; omega)]
  | cons x s ih =>
    intro p q t n i ht hq hn hi hl hs
    cases t with
    | nil => simp at ht
    | cons y t =>
      have ht' : t.length = s.length := by simpa using ht
      have h1 : (((p ++ x :: s).length : Nat) : Int) = p.length + s.length + 1 := by simp; omega
      have h2 : (((q ++ y :: t).length : Nat) : Int) = q.length + t.length + 1 := by simp; omega
      have er : rd_L1 (p ++ x :: s) i = x := by subst hi; simp [rd_L1]
      have er2 : rd_L1 (q ++ y :: t) i = y := by subst hi; rw [← hq]; simp [rd_L1]
      have e2 : p ++ x :: s = (p ++ [x]) ++ s := by simp
      have e3 : q ++ y :: t = (q ++ [y]) ++ t := by simp
      have hx := hs x (List.mem_cons_self ..)
      refine Ev.succ ?_
      simp only [spec_GrowthOf.l3, if_pos (show i < n by omega), if_pos (show 0 ≤ i by omega), if_pos (show i < (((p ++ x :: s).length : Nat) : Int) by omega), if_pos (show i < (((q ++ y :: t).length : Nat) : Int) by omega), er, er2, show wrap64 (i + 1) = i + 1 from w64 (by omega)]
      refine Ev.bind (spec_l1Same_ev x y hx) ?_
      by_cases hxy : x = y
      · have := ih (p ++ [x]) (q ++ [y]) t n (i + 1) ht' (by simp [hq]) (by rw [← e2]; exact hn) (by simp; omega) (by rw [← e2]; exact hl) (fun u hu => hs u (List.mem_cons_of_mem _ hu))
        rw [← e2, ← e3] at this
        simp only [decide_eq_true hxy, if_true]
        refine Ev.to this ?_
        by_cases hts : t = s
        · rw [if_pos hts, if_pos (by rw [hxy, hts])]
        · rw [if_neg hts, if_neg (fun e => hts (by injection e))]
      · simp only [decide_eq_false hxy, Bool.false_eq_true, if_false]
        rw [if_neg (fun e => hxy (by injection e with e1 _; exact e1.symm))]
        exact Ev.now _
theorem spec_GrowthOf_end (L : List (List Int)) (a : List Int) (ha : a.length ≤ 12) (hL : L.length ≤ 1048576) (hrows : ∀ x ∈ L, x.length ≤ 12) :
    Ev (fun k => (spec_spGrowth.f k a).bind fun t => (if t = true then ((spec_spBlocks.f k a).bind fun u => (if (u.length : Int) = (L.length : Int) then (spec_GrowthOf.l3 k a u L (L.length : Int) 0) else (some (([] : List Int), false)))) else (some (([] : List Int), false)))) (finG L a) := by
  refine Ev.bind (spec_spGrowth_ev a (by omega)) ?_
  unfold finG
  cases h : isG a with
  | false => simp only [Bool.false_eq_true, if_false, false_and]; exact Ev.now _
  | true =>
    simp only [if_true, true_and]
    refine Ev.bind (spec_spBlocks_ev a h) ?_
    by_cases hb : (blk a).length = L.length
    · simp only [if_pos (show ((blk a).length : Int) = (L.length : Int) by omega)]
      have := spec_GrowthOf_l3 a L [] [] (blk a) _ 0 hb rfl rfl (by simp) (by simpa using hL) (fun x hx => Nat.le_trans (hrows x hx) (by omega))
      exact this
    · simp only [if_neg (show ¬ ((blk a).length : Int) = (L.length : Int) by omega)]
      rw [if_neg (fun e => hb (by rw [e]))]
      exact Ev.now _
theorem spec_GrowthOf_l2 (L : List (List Int)) (n : Nat) (hn : n ≤ 12) (v i0 : Int) (row : List Int) (hrow : row.length ≤ 12) (R : List Int → List Int × Bool)
    (hr : ∀ a, a.length = n → Ev (fun k => spec_GrowthOf.l1 k L (n : Int) a L (L.length : Int) (wrap64 (i0 + 1))) (R a)) (s : List Int) : ∀ (p a : List Int) (i : Int), row = p ++ s → i = (p.length : Int) → a.length = n →
    Ev (fun k => spec_GrowthOf.l2 k L (n : Int) a v L (L.length : Int) i0 row (row.length : Int) i) (match fillR n v s a with | none => ([], false) | some a' => R a') := by
  induction s with
  | nil =>
    intro p a i hp hi ha
    rw [List.append_nil] at hp
    refine Ev.succ ?_
    simp only [spec_GrowthOf.l2, if_neg (show ¬ i < (row.length : Int) by rw [hp]; omega), fillR]
    exact hr a ha
  | cons x s ih =>
    intro p a i hp hi ha
    have h1 : (row.length : Int) = p.length + s.length + 1 := by rw [hp]; simp; omega
    have er : rd row i = x := by rw [hp]; exact rd_mid hi
    have e2 : row = (p ++ [x]) ++ s := by rw [hp]; simp
    have ew : wrap64 ((n : Int) - 1) = (n : Int) - 1 := w64 (by omega)
    have ew2 : wrap64 (i + 1) = i + 1 := w64 (by omega)
    refine Ev.succ ?_
    simp only [spec_GrowthOf.l2, if_pos (show i < (row.length : Int) by omega), if_pos (show 0 ≤ i by omega), er, ew, ew2, spec_l1In_eq, obind, fillR]
    cases h : inB x 0 ((n : Int) - 1) with
    | false => simp only [Bool.false_eq_true, if_false]; exact Ev.now _
    | true =>
      have hx := inB_true.1 h
      simp only [if_true, if_pos hx.1, if_pos (show x < (a.length : Int) by omega)]
      exact ih (p ++ [x]) (a.set x.toNat v) (i + 1) e2 (by simp; omega) (by rw [List.length_set]; exact ha)
theorem spec_GrowthOf_l1 (L : List (List Int)) (n : Nat) (hn : n ≤ 12) (hL : L.length ≤ 1048576) (hrows : ∀ x ∈ L, x.length ≤ 12) (s : List (List Int)) : ∀ (p : List (List Int)) (a : List Int) (i : Int), L = p ++ s → i = (p.length : Int) → a.length = n →
    Ev (fun k => spec_GrowthOf.l1 k L (n : Int) a L (L.length : Int) i) (match fillB n i s a with | none => ([], false) | some a' => finG L a') := by
  induction s with
  | nil =>
    intro p a i hp hi ha
    rw [List.append_nil] at hp
    refine Ev.succ ?_
    simp only [spec_GrowthOf.l1, if_neg (show ¬ i < (L.length : Int) by rw [hp]; omega), fillB]
    exact spec_GrowthOf_end L a (by omega) hL hrows
  | cons x s ih =>
    intro p a i hp hi ha
    have h1 : (L.length : Int) = p.length + s.length + 1 := by rw [hp]; simp; omega
    have er : rd_L1 L i = x := by rw [hp]; subst hi; simp [rd_L1]
    have e2 : L = (p ++ [x]) ++ s := by rw [hp]; simp
    have ew2 : wrap64 (i + 1) = i + 1 := w64 (by omega)
    have hx : x ∈ L := by rw [hp]; simp
    have := spec_GrowthOf_l2 L n hn i i x (hrows x hx) (fun a => match fillB n (i + 1) s a with | none => ([], false) | some a' => finG L a')
      (fun a ha => by rw [ew2]; exact ih (p ++ [x]) a (i + 1) e2 (by simp; omega) ha) x [] a 0 rfl rfl ha
    refine Ev.succ ?_
    simp only [spec_GrowthOf.l1, if_pos (show i < (L.length : Int) by omega), if_pos (show 0 ≤ i by omega), er, fillB]
    refine Ev.to this ?_
    cases fillR n i x a <;> rfl
theorem spec_GrowthOf_l0 (L : List (List Int)) (hL : L.length + sumLen L ≤ 1048576) (s : List (List Int)) : ∀ (p : List (List Int)) (t : Nat) (i : Int), L = p ++ s → i = (p.length : Int) → t + sumLen s = sumLen L →
    Ev (fun k => spec_GrowthOf.l0 k L (t : Int) L (L.length : Int) i) (grwR L) := by
  induction s with
  | nil =>
    intro p t i hp hi ht
    rw [List.append_nil] at hp
    have ht : t = sumLen L := by simpa [sumLen] using ht
    subst ht
    refine Ev.succ ?_
    simp only [spec_GrowthOf.l0, if_neg (show ¬ i < (L.length : Int) by rw [hp]; omega), spec_l1In_eq, obind]
    unfold grwR
    cases h : inB (sumLen L : Int) 1 12 with
    | false => simp only [Bool.false_eq_true, if_false]; exact Ev.now _
    | true =>
      have hx := inB_true.1 h
      simp only [if_true, Int.toNat_natCast, if_pos (show (0 : Int) ≤ (sumLen L : Int) by omega), if_pos (show sumLen L ≤ 35184372088832 by omega)]
      exact spec_GrowthOf_l1 L (sumLen L) (by omega) (by omega) (fun x hx => by have := len_sumLen hx; omega) L [] _ 0 rfl rfl (by simp)
  | cons x s ih =>
    intro p t i hp hi ht
    have h1 : (L.length : Int) = p.length + s.length + 1 := by rw [hp]; simp; omega
    have er : rd_L1 L i = x := by rw [hp]; subst hi; simp [rd_L1]
    have e2 : L = (p ++ [x]) ++ s := by rw [hp]; simp
    have ew2 : wrap64 (i + 1) = i + 1 := w64 (by omega)
    have es : sumLen (x :: s) = x.length + sumLen s := rfl
    have ew : wrap64 ((t : Int) + (x.length : Int)) = ((t + x.length : Nat) : Int) := by rw [w64 (by omega)]; omega
    refine Ev.succ ?_
    simp only [spec_GrowthOf.l0, if_pos (show i < (L.length : Int) by omega), if_pos (show 0 ≤ i by omega), er, ew, ew2]
    exact ih (p ++ [x]) (t + x.length) (i + 1) e2 (by simp; omega) (by omega)
theorem spec_GrowthOf_ev (L : List (List Int)) (hL : L.length + sumLen L ≤ 1048576) : Ev (fun k => spec_GrowthOf.f k L) (grwR L) := by
  unfold spec_GrowthOf.f
  exact spec_GrowthOf_l0 L hL L [] 0 0 rfl rfl (by omega)

theorem FnExactGrowthOf_facts (l : List (List Int)) (hl : l.length ≤ maxLen) (hm : ∀ x ∈ l, x.length ≤ maxLen) :
    ∃ k left, laws_szIntSS.f k l 1048576 = some left ∧ (left < 0 ∨ ∃ L M b m mx X, laws_FnExactGrowthOf.Facts k l left L M b m mx X) := by
  obtain ⟨left, ⟨k0, h0⟩, h⟩ := laws_szIntSS_ev l hl hm
  rcases h with h | ⟨h1, h2⟩
  · exact ⟨k0, left, h0 _ (Nat.le_refl _), .inl h⟩
  have hs := spec_GrowthOf_ev l h2
  have hi := impl_GrowthOf_ev l h2
  have hf := grwR_few l
  generalize grwR l = R at hs hi hf
  obtain ⟨L, b⟩ := R
  simp only at hf
  have hrow : ∀ x ∈ l, x.length ≤ 1048576 := fun x hx => by have := len_sumLen hx; omega
  have hx := laws_eqIntS_ev L L (by omega)
  rw [decide_eq_true rfl] at hx
  obtain ⟨k1, hs⟩ := hs
  obtain ⟨k2, hi⟩ := hi
  obtain ⟨k3, he⟩ := laws_eqIntSS_self l (by omega) (fun x hx => Nat.le_trans (hrow x hx) (by omega))
  obtain ⟨k4, hmk⟩ := laws_markIntSS_ev l (by omega) (by omega)
  obtain ⟨k5, ht⟩ := laws_toIntSS_ev l (by omega) (fun x hx => Nat.le_trans (hrow x hx) (by omega))
  obtain ⟨k6, hx⟩ := hx
  obtain ⟨k7, hml⟩ := laws_markIntS_ev L (by omega)
  obtain ⟨k8, hh⟩ := laws_heldIntS_ev L.length (by omega)
  refine ⟨k0 + k1 + k2 + k3 + k4 + k5 + k6 + k7 + k8, left, h0 _ (by omega), .inr ⟨L, upFrom 1 L.length, b, 1 + (L.length : Int), ((1 + sumLen l : Nat) : Int), upRows 1 l, by omega, ht _ (by omega), hs _ (by omega), hi _ (by omega), hx _ (by omega), he _ (by omega), hmk _ (by omega), by omega, hml _ (by omega), upFrom_len _ _, hh _ (by omega), by omega⟩⟩
theorem FnExactGrowthOf_walk (A0 : Option Addr) (c0 : Nat) (l0 : List (List Int)) (w : World) (hr0 : Kd.C (Kd.slice 3 (Kd.int .i64)) w A0 l0.length l0) (hc0 : l0.length ≤ c0) (hm0 : l0.length ≤ maxLen) (hm1 : ∀ x ∈ l0, x.length ≤ maxLen) :
    Calls Try.prog 6 #[.slice A0 l0.length c0] w fun e w' => e = .returned (.bool true) ∧ Below w.heap.size w w' :=
  laws_FnExactGrowthOf.walk FnExactGrowthOf_facts A0 c0 l0 w hr0 hc0 hm0 hm1

end Go.Proofs.Ytoledgkfohkfkaa.Pure
