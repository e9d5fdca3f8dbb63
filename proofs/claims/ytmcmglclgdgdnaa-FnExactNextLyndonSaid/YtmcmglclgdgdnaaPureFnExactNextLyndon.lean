/- The program's NextLyndon returns what the reference's returns, for every list of whole numbers that takes at most 2^47 - 4096 bytes, and every pair of whole numbers. -/
import Derived.Test.YtmcmglclgdgdnaaHFnExactNextLyndonx6
import Derived.Test.YtmcmglclgdgdnaaCoreA
import Derived.Test.YtmcmglclgdgdnaaCoreL
import Derived.Test.YtmcmglclgdgdnaaCoreM
namespace Go.Proofs.Ytmcmglclgdgdnaa.Pure
open Go.RowKit Go.Proofs.Ytmcmglclgdgdnaa.HFnExactNextLyndon Go.Proofs.YtmcmglclgdgdnaaW.PrintWords Go.Proofs.YtmcmglclgdgdnaaW.PrintLast Go.Proofs.YtmcmglclgdgdnaaW.PrintMore Go.Proofs.Ytmcmglclgdgdnaa.Core
set_option linter.unusedVariables false
set_option linter.unusedSimpArgs false

theorem laws_toIntS_loop (s : List Int) : ∀ (p q : List Int) (i : Int), q.length = s.length → i = (p.length : Int) → (p ++ s).length ≤ 1099511627776 →
    Ev (fun k => laws_toIntS.l0 k (p ++ s) (p ++ q) i) (p ++ s) := by
  induction s with
  | nil =>
    intro p q i hq hi hl
    have hq0 : q = [] := List.eq_nil_of_length_eq_zero hq
    subst hq0
    refine Ev.done fun k => ?_
    simp only [laws_toIntS.l0]
    rw [if_neg (by rw [len_nil]; omega)]
  | cons x s ih =>
    intro p q i hq hi hl
    cases q with
    | nil => simp at hq
    | cons y q =>
      have hq' : q.length = s.length := by simpa using hq
      have h1 := len_mid p s x
      have h2 := len_mid p q y
      have := ih (p ++ [x]) q (i + 1) hq' (by rw [len_snoc]; omega) (by rw [← snoc_mid]; exact hl)
      rw [← snoc_mid, ← snoc_mid] at this
      refine Ev.step' this fun k => ?_
      simp only [laws_toIntS.l0]
      rw [if_pos (by omega), if_pos (by omega), if_pos (by omega), rd_mid hi, set_mid hi, w64 (by omega)]
theorem laws_toIntS_ev (l : List Int) (hl : l.length ≤ 1099511627776) : Ev (fun k => laws_toIntS.f k l) l := by
  have := laws_toIntS_loop l [] (List.replicate l.length 0) 0 (by simp) (by simp) (by simpa using hl)
  simp only [List.nil_append] at this
  refine Ev.congr (fun k => ?_) this
  unfold laws_toIntS.f
  rw [if_pos (by omega), if_pos (by omega)]
  simp only [Int.toNat_natCast]

theorem laws_eqIntS_loop (s : List Int) : ∀ (p q t : List Int) (i : Int), t.length = s.length → q.length = p.length → i = (p.length : Int) → (p ++ s).length ≤ 1099511627776 →
    Ev (fun k => laws_eqIntS.l0 k (p ++ s) (q ++ t) i) (decide (s = t)) := by
  induction s with
  | nil =>
    intro p q t i ht hq hi hl
    have ht0 : t = [] := List.eq_nil_of_length_eq_zero ht
    subst ht0
    refine Ev.done fun k => ?_
    simp only [laws_eqIntS.l0]
    rw [if_neg (by rw [len_nil]; omega)]
    simp
  | cons x s ih =>
    intro p q t i ht hq hi hl
    cases t with
    | nil => simp at ht
    | cons y t =>
      have ht' : t.length = s.length := by simpa using ht
      have h1 := len_mid p s x
      have h2 := len_mid q t y
      by_cases hxy : x = y
      · have := ih (p ++ [x]) (q ++ [y]) t (i + 1) ht' (by simp [hq]) (by rw [len_snoc]; omega) (by rw [← snoc_mid]; exact hl)
        rw [← snoc_mid, ← snoc_mid] at this
        refine Ev.to (Ev.step' this fun k => ?_) (by simp [hxy])
        simp only [laws_eqIntS.l0]
        rw [if_pos (by omega), if_pos (by omega), if_pos (by omega), rd_mid hi, rd_mid (by omega), if_pos hxy, w64 (by omega)]
      · refine Ev.to (Ev.done fun k => ?_) (show false = _ by simp [hxy])
        simp only [laws_eqIntS.l0]
        rw [if_pos (by omega), if_pos (by omega), if_pos (by omega), rd_mid hi, rd_mid (by omega), if_neg hxy]
theorem laws_eqIntS_ev (l t : List Int) (hl : l.length ≤ 1099511627776) : Ev (fun k => laws_eqIntS.f k l t) (decide (l = t)) := by
  by_cases h : l.length = t.length
  · have := laws_eqIntS_loop l [] [] t 0 h.symm rfl (by simp) (by simpa using hl)
    simp only [List.nil_append] at this
    refine Ev.congr (fun k => ?_) this
    unfold laws_eqIntS.f
    rw [if_pos (by omega)]
  · refine Ev.to (Ev.congr (fun k => ?_) (Ev.now false)) (by rw [decide_eq_false]; exact fun e => h (by rw [e]))
    unfold laws_eqIntS.f
    rw [if_neg (by omega)]

theorem laws_markIntS_loop (s : List Int) : ∀ (p : List Int) (m i : Int), 0 ≤ m → m + s.length ≤ 1099511627776 → i = (p.length : Int) → (p ++ s).length ≤ 1099511627776 →
    Ev (fun k => laws_markIntS.l0 k (p ++ s) m i) (m + s.length, p ++ upFrom m s.length) := by
  induction s with
  | nil =>
    intro p m i hm hm' hi hl
    refine Ev.to (Ev.done fun k => ?_) (show (m, p ++ []) = _ by simp [upFrom])
    simp only [laws_markIntS.l0]
    rw [if_neg (by rw [len_nil]; omega)]
  | cons x s ih =>
    intro p m i hm hm' hi hl
    have h1 := len_mid p s x
    have h2 : (((x :: s).length : Nat) : Int) = s.length + 1 := by simp
    have h3 : (p ++ m :: s).length = (p ++ x :: s).length := by simp
    have := ih (p ++ [m]) (m + 1) (i + 1) (by omega) (by omega) (by rw [len_snoc]; omega) (by rw [← snoc_mid, h3]; exact hl)
    rw [← snoc_mid] at this
    refine Ev.to (Ev.step' this fun k => ?_) (by rw [h2, ← snoc_mid]; simp only [List.length_cons, upFrom]; congr 1; omega)
    simp only [laws_markIntS.l0]
    rw [if_pos (by omega), if_pos (by omega), set_mid hi, w64 (by omega), w64 (by omega)]
theorem laws_markIntS_ev (l : List Int) (hl : l.length ≤ 109951162777) : Ev (fun k => laws_markIntS.f k l 1) (1 + l.length, upFrom 1 l.length) :=
  laws_markIntS_loop l [] 1 0 (by omega) (by omega) (by simp) (by simp; omega)

theorem laws_heldIntS_loop (n : Nat) : ∀ (p : List Int) (m i : Int), 0 ≤ m → m + n ≤ 1099511627776 → i = (p.length : Int) → p.length + n ≤ 1099511627776 →
    Ev (fun k => laws_heldIntS.l0 k (p ++ upFrom m n) m i) (m + n) := by
  induction n with
  | zero =>
    intro p m i hm hm' hi hl
    show Ev (fun k => laws_heldIntS.l0 k (p ++ []) m i) _
    refine Ev.to (Ev.done fun k => ?_) (show m = _ by simp)
    simp only [laws_heldIntS.l0]
    rw [if_neg (by rw [len_nil]; omega)]
  | succ n ih =>
    intro p m i hm hm' hi hl
    have h1 := len_mid p (upFrom (m + 1) n) m
    have := ih (p ++ [m]) (m + 1) (i + 1) (by omega) (by omega) (by rw [len_snoc]; omega) (by rw [List.length_append]; simp; omega)
    rw [← snoc_mid] at this
    show Ev (fun k => laws_heldIntS.l0 k (p ++ m :: upFrom (m + 1) n) m i) _
    refine Ev.to (Ev.step' this fun k => ?_) (by omega)
    simp only [laws_heldIntS.l0]
    rw [if_pos (by omega), if_pos (by omega), rd_mid hi, if_pos rfl, w64 (by omega), w64 (by omega)]
theorem laws_heldIntS_ev (n : Nat) (hn : n ≤ 109951162777) : Ev (fun k => laws_heldIntS.f k (upFrom 1 n) 1) (1 + n) :=
  laws_heldIntS_loop n [] 1 0 (by omega) (by omega) (by simp) (by simp; omega)

theorem spec_l1In_eq (a b c : Int) : spec_l1In.f a b c = some (inB a b c) := inB_ite a b c

theorem spec_l1All_loop (lo hi : Int) (s : List Int) : ∀ (p : List Int) (n i : Int), n = ((p ++ s).length : Int) → i = (p.length : Int) → (p ++ s).length ≤ 1099511627776 →
    Ev (fun k => spec_l1All.l0 k lo hi (p ++ s) n i) (s.all fun x => inB x lo hi) := by
  induction s with
  | nil =>
    intro p n i hn hx hl
    refine Ev.done fun k => ?_
    simp only [spec_l1All.l0]
    rw [if_neg (by rw [len_nil] at hn; omega)]
    rfl
  | cons x s ih =>
    intro p n i hn hx hl
    have h1 := len_mid p s x
    cases hb : inB x lo hi with
    | true =>
      have := ih (p ++ [x]) n (i + 1) (by rw [← snoc_mid]; exact hn) (by rw [len_snoc]; omega) (by rw [← snoc_mid]; exact hl)
      rw [← snoc_mid] at this
      refine Ev.to (Ev.step' this fun k => ?_) (by simp [hb])
      simp only [spec_l1All.l0]
      rw [if_pos (by omega), if_pos (by omega), if_pos (by omega), rd_mid hx, spec_l1In_eq, hb, w64 (by omega)]
      rfl
    | false =>
      refine Ev.to (Ev.done fun k => ?_) (show false = _ by simp [hb])
      simp only [spec_l1All.l0]
      rw [if_pos (by omega), if_pos (by omega), if_pos (by omega), rd_mid hx, spec_l1In_eq, hb]
      rfl
theorem spec_l1All_ev (l : List Int) (lo hi : Int) (hl : l.length ≤ 1099511627776) : Ev (fun k => spec_l1All.f k l lo hi) (l.all fun x => inB x lo hi) :=
  spec_l1All_loop lo hi l [] _ 0 rfl (by simp) (by simpa using hl)

theorem spec_lyWord_ev (l : List Int) (hl : l.length ≤ 1099511627776) : Ev (fun k => spec_lyWord.f k l) (isW l) := by
  unfold spec_lyWord.f isW
  simp only [spec_l1In_eq, obind]
  cases h : inB (l.length : Int) 1 24 with
  | true => simpa using spec_l1All_ev l 0 5 hl
  | false => exact Ev.now _

theorem impl_within_eq (a b c : Int) : impl_within.f a b c = some (inB a b c) := inB_ite a b c

theorem impl_allWithin_loop (lo hi : Int) (s : List Int) : ∀ (p : List Int) (n i : Int), n = ((p ++ s).length : Int) → i = (p.length : Int) → (p ++ s).length ≤ 1099511627776 →
    Ev (fun k => impl_allWithin.l0 k lo hi (p ++ s) n i) (s.all fun x => inB x lo hi) := by
  induction s with
  | nil =>
    intro p n i hn hx hl
    refine Ev.done fun k => ?_
    simp only [impl_allWithin.l0]
    rw [if_neg (by rw [len_nil] at hn; omega)]
    rfl
  | cons x s ih =>
    intro p n i hn hx hl
    have h1 := len_mid p s x
    cases hb : inB x lo hi with
    | true =>
      have := ih (p ++ [x]) n (i + 1) (by rw [← snoc_mid]; exact hn) (by rw [len_snoc]; omega) (by rw [← snoc_mid]; exact hl)
      rw [← snoc_mid] at this
      refine Ev.to (Ev.step' this fun k => ?_) (by simp [hb])
      simp only [impl_allWithin.l0]
      rw [if_pos (by omega), if_pos (by omega), if_pos (by omega), rd_mid hx, impl_within_eq, hb, w64 (by omega)]
      rfl
    | false =>
      refine Ev.to (Ev.done fun k => ?_) (show false = _ by simp [hb])
      simp only [impl_allWithin.l0]
      rw [if_pos (by omega), if_pos (by omega), if_pos (by omega), rd_mid hx, impl_within_eq, hb]
      rfl
theorem impl_allWithin_ev (l : List Int) (lo hi : Int) (hl : l.length ≤ 1099511627776) : Ev (fun k => impl_allWithin.f k l lo hi) (l.all fun x => inB x lo hi) :=
  impl_allWithin_loop lo hi l [] _ 0 rfl (by simp) (by simpa using hl)

theorem impl_IsWord_ev (l : List Int) (hl : l.length ≤ 1099511627776) : Ev (fun k => impl_IsWord.f k l) (isW l) := by
  unfold impl_IsWord.f isW
  simp only [impl_within_eq, obind]
  cases h : inB (l.length : Int) 1 24 with
  | true => simpa using impl_allWithin_ev l 0 5 hl
  | false => exact Ev.now _

theorem spec_lyRotate_loop (w : List Int) (h : 0 < w.length) (hl : w.length ≤ 1000) (b : Nat) (hb : b ≤ 100000) (d : Nat) : ∀ i : Nat, i + d = w.length →
    Ev (fun k => spec_lyRotate.l0 k w (b : Int) ((List.range i).map fun t => w.getD ((t + b) % w.length) 0) (w.length : Int) (i : Int)) ((List.range w.length).map fun t => w.getD ((t + b) % w.length) 0) := by
  induction d with
  | zero =>
    intro i hi
    have : i = w.length := by omega
    subst this
    refine Ev.succ ?_
    simp only [spec_lyRotate.l0]
    simp only [if_neg (show ¬ (w.length : Int) < (w.length : Int) by omega)]
    exact Ev.now _
  | succ d ih =>
    intro i hi
    have hm := Nat.mod_lt (i + b) h
    have c1 : (i : Int) < (w.length : Int) := by omega
    have c2 : ¬ (w.length : Int) = 0 := by omega
    have e0 : Int.tmod ((i + b : Nat) : Int) (w.length : Int) = (((i + b) % w.length : Nat) : Int) := rfl
    have c3 : 0 ≤ (((i + b) % w.length : Nat) : Int) := by omega
    have c4 : (((i + b) % w.length : Nat) : Int) < (w.length : Int) := by omega
    have c5 : ((List.range i).map fun t => w.getD ((t + b) % w.length) 0).length < 17592186044416 := by simp; omega
    have b1 : i + b ≤ 9007199254740992 := by omega
    have b2 : i ≤ 1099511627776 := by omega
    have hih := ih (i + 1) (by omega)
    rw [List.range_succ, List.map_append, List.map_singleton] at hih
    refine Ev.succ ?_
    simp only [spec_lyRotate.l0]
    simp only [if_pos c1, if_neg c2, i_plus b1, e0, if_pos c3, if_pos c4, if_pos c5, i_up b2]
    exact hih
theorem spec_lyRotate_ev (w : List Int) (h : 0 < w.length) (hl : w.length ≤ 1000) (b : Nat) (hb : b ≤ 100000) : Ev (fun k => spec_lyRotate.f k w (b : Int)) (rotW w (b % w.length)) := by
  rw [← rot_eq w b h]
  exact spec_lyRotate_loop w h hl b hb w.length 0 (by omega)

theorem spec_l1Sign_eq (a : Int) : spec_l1Sign.f a = some (if a > 0 then 1 else if a < 0 then -1 else 0) := by
  unfold spec_l1Sign.f
  split
  · rfl
  · split <;> rfl
theorem spec_lyCompare_loop (s : List Int) : ∀ (t p q : List Int), p.length = q.length → (∀ x ∈ s, 0 ≤ x ∧ x ≤ 5) → (∀ x ∈ t, 0 ≤ x ∧ x ≤ 5) → (p ++ s).length ≤ 1000 → (q ++ t).length ≤ 1000 →
    Ev (fun k => spec_lyCompare.l0 k (p ++ s) (q ++ t) (p.length : Int)) (cmpW s t) := by
  induction s with
  | nil =>
    intro t p q hpq hs ht hl1 hl2
    have c1 : ¬ (p.length : Int) < ((p ++ ([] : List Int)).length : Int) := by rw [len_nil]; omega
    refine Ev.succ ?_
    simp only [spec_lyCompare.l0]
    simp only [if_neg c1]
    refine Ev.succ ?_
    simp only [spec_lyCompare.j1, Bool.false_eq_true, if_false]
    have e : ((p ++ ([] : List Int)).length : Int) - ((q ++ t).length : Int) = -(t.length : Int) := by rw [len_nil, len_app]; omega
    have hw : wrap64 (-(t.length : Int)) = -(t.length : Int) := by rw [List.length_append] at hl2; exact w64 (by omega)
    simp only [e, hw, spec_l1Sign_eq, obind]
    refine Ev.some_ ?_
    cases t with
    | nil => rfl
    | cons y t =>
      have h1 : ((y :: t).length : Int) = t.length + 1 := by simp
      simp only [cmpW, h1]
      rw [if_neg (by omega), if_pos (by omega)]
  | cons x s ih =>
    intro t p q hpq hs ht hl1 hl2
    have h1 := len_mid p s x
    have c1 : (p.length : Int) < ((p ++ x :: s).length : Int) := by omega
    refine Ev.succ ?_
    simp only [spec_lyCompare.l0]
    simp only [if_pos c1]
    cases t with
    | nil =>
      have c2 : decide ((p.length : Int) < ((q ++ ([] : List Int)).length : Int)) = false := decide_eq_false (by rw [len_nil]; omega)
      simp only [c2]
      refine Ev.succ ?_
      simp only [spec_lyCompare.j1, Bool.false_eq_true, if_false]
      have e : ((p ++ x :: s).length : Int) - ((q ++ ([] : List Int)).length : Int) = (s.length : Int) + 1 := by rw [len_nil]; omega
      have hw : wrap64 ((s.length : Int) + 1) = (s.length : Int) + 1 := by exact w64 (by omega)
      simp only [e, hw, spec_l1Sign_eq, obind]
      refine Ev.some_ ?_
      simp only [cmpW]
      rw [if_pos (by omega)]
    | cons y t =>
      have h2 := len_mid q t y
      have c2 : decide ((p.length : Int) < ((q ++ y :: t).length : Int)) = true := decide_eq_true (by omega)
      have c3 : 0 ≤ (p.length : Int) := by omega
      have c4 : (p.length : Int) < ((q ++ y :: t).length : Int) := by omega
      have e0 : rd (p ++ x :: s) (p.length : Int) = x := rd_mid rfl
      have e1 : rd (q ++ y :: t) (p.length : Int) = y := rd_mid (by omega)
      have c5 : p.length ≤ 1099511627776 := by omega
      have hx := hs x (List.mem_cons_self ..)
      have hy := ht y (List.mem_cons_self ..)
      simp only [c2]
      refine Ev.succ ?_
      simp only [spec_lyCompare.j1, if_true]
      simp only [if_pos c3, if_pos c1, if_pos c4, e0, e1]
      by_cases hxy : x = y
      · simp only [if_pos hxy, i_succ (out := p) (x := x) c5]
        have := ih t (p ++ [x]) (q ++ [y]) (by simp [hpq]) (fun z hz => hs z (List.mem_cons_of_mem _ hz)) (fun z hz => ht z (List.mem_cons_of_mem _ hz)) (by rw [← snoc_mid]; exact hl1) (by rw [← snoc_mid]; exact hl2)
        rw [← snoc_mid, ← snoc_mid] at this
        refine Ev.to this ?_
        simp [cmpW, hxy]
      · have hw : wrap64 (x - y) = x - y := w64 (by omega)
        simp only [if_neg hxy, hw, spec_l1Sign_eq, obind]
        refine Ev.some_ ?_
        simp only [cmpW, if_neg hxy]
        by_cases hlt : x < y
        · rw [if_neg (by omega), if_pos (by omega), if_pos hlt]
        · rw [if_pos (by omega), if_neg hlt]
theorem spec_lyCompare_ev (a b : List Int) (ha : ∀ x ∈ a, 0 ≤ x ∧ x ≤ 5) (hb : ∀ x ∈ b, 0 ≤ x ∧ x ≤ 5) (h1 : a.length ≤ 1000) (h2 : b.length ≤ 1000) : Ev (fun k => spec_lyCompare.f k a b) (cmpW a b) :=
  spec_lyCompare_loop a b [] [] rfl ha hb h1 h2

theorem spec_lyLeast_loop (w : List Int) (h : 0 < w.length) (hl : w.length ≤ 100) (hin : ∀ x ∈ w, 0 ≤ x ∧ x ≤ 5) (d : Nat) : ∀ b best : Nat, b + d = w.length → best < w.length →
    Ev (fun k => spec_lyLeast.l0 k w (best : Int) (b : Int)) ((leastF w d b best : Nat) : Int) := by
  induction d with
  | zero =>
    intro b best hb hbest
    have c1 : ¬ (b : Int) < (w.length : Int) := by omega
    refine Ev.done fun k => ?_
    simp only [spec_lyLeast.l0]
    rw [if_neg c1]
    rfl
  | succ d ih =>
    intro b best hb hbest
    have c1 : (b : Int) < (w.length : Int) := by omega
    have b1 : b ≤ 1099511627776 := by omega
    have hr1 := spec_lyRotate_ev w h (by omega) b (by omega)
    have hr2 := spec_lyRotate_ev w h (by omega) best (by omega)
    rw [Nat.mod_eq_of_lt (by omega)] at hr1
    rw [Nat.mod_eq_of_lt hbest] at hr2
    have hc := spec_lyCompare_ev (rotW w b) (rotW w best) (rotW_in hin b) (rotW_in hin best) (by rw [rotW_len]; omega) (by rw [rotW_len]; omega)
    refine Ev.succ ?_
    simp only [spec_lyLeast.l0]
    simp only [if_pos c1, i_up b1]
    refine Ev.bind hr1 (Ev.bind hr2 (Ev.bind hc ?_))
    unfold leastF
    by_cases hlt : cmpW (rotW w b) (rotW w best) < 0
    · simp only [if_pos hlt]
      exact ih (b + 1) b (by omega) (by omega)
    · simp only [if_neg hlt]
      exact ih (b + 1) best (by omega) hbest
theorem spec_lyLeast_ev (w : List Int) (h : 0 < w.length) (hl : w.length ≤ 100) (hin : ∀ x ∈ w, 0 ≤ x ∧ x ≤ 5) : Ev (fun k => spec_lyLeast.f k w) ((leastW w : Nat) : Int) :=
  spec_lyLeast_loop w h hl hin (w.length - 1) 1 0 (by omega) h

theorem beq_nat_zero (n : Nat) : (((n : Nat) : Int) == 0) = decide (n = 0) := by
  rw [Bool.eq_iff_iff, decide_eq_true_iff, beq_iff_eq]; omega
theorem spec_lyNecklace_ev (w : List Int) (h : 0 < w.length) (hl : w.length ≤ 100) (hin : ∀ x ∈ w, 0 ≤ x ∧ x ≤ 5) : Ev (fun k => spec_lyNecklace.f k w) (neckW w) := by
  unfold spec_lyNecklace.f
  refine Ev.bind (spec_lyLeast_ev w h hl hin) ?_
  exact Ev.some_ (beq_nat_zero _)

theorem spec_l1Same_loop (s : List Int) : ∀ (p q t : List Int) (n i : Int), t.length = s.length → q.length = p.length → n = ((p ++ s).length : Int) → i = (p.length : Int) → (p ++ s).length ≤ 1000 →
    Ev (fun k => spec_l1Same.l0 k (p ++ s) (q ++ t) n i) (decide (s = t)) := by
  induction s with
  | nil =>
    intro p q t n i ht hq hn hi hl
    have ht0 : t = [] := List.eq_nil_of_length_eq_zero ht
    subst ht0
    refine Ev.done fun k => ?_
    simp only [spec_l1Same.l0]
    rw [if_neg (by rw [len_nil] at hn; omega)]
    simp
  | cons x s ih =>
    intro p q t n i ht hq hn hi hl
    cases t with
    | nil => simp at ht
    | cons y t =>
      have ht' : t.length = s.length := by simpa using ht
      have h1 := len_mid p s x
      have h2 := len_mid q t y
      by_cases hxy : x = y
      · have := ih (p ++ [x]) (q ++ [y]) t n (i + 1) ht' (by simp [hq]) (by rw [← snoc_mid]; exact hn) (by rw [len_snoc]; omega) (by rw [← snoc_mid]; exact hl)
        rw [← snoc_mid, ← snoc_mid] at this
        refine Ev.to (Ev.step' this fun k => ?_) (by simp [hxy])
        simp only [spec_l1Same.l0]
        rw [if_pos (by omega), if_pos (by omega), if_pos (by omega), if_pos (by omega), rd_mid hi, rd_mid (by omega), if_pos hxy, w64 (by omega)]
      · refine Ev.to (Ev.done fun k => ?_) (show false = _ by simp [hxy])
        simp only [spec_l1Same.l0]
        rw [if_pos (by omega), if_pos (by omega), if_pos (by omega), if_pos (by omega), rd_mid hi, rd_mid (by omega), if_neg hxy]
theorem spec_l1Same_ev (l t : List Int) (hl : l.length ≤ 1000) : Ev (fun k => spec_l1Same.f k l t) (decide (l = t)) := by
  by_cases h : l.length = t.length
  · have := spec_l1Same_loop l [] [] t _ 0 h.symm rfl rfl (by simp) (by simpa using hl)
    simp only [List.nil_append] at this
    refine Ev.congr (fun k => ?_) this
    unfold spec_l1Same.f
    rw [if_pos (by omega)]
  · refine Ev.to (Ev.congr (fun k => ?_) (Ev.now false)) (by rw [decide_eq_false]; exact fun e => h (by rw [e]))
    unfold spec_l1Same.f
    rw [if_neg (by omega)]

theorem spec_lyRoot_loop (w : List Int) (h : 0 < w.length) (hl : w.length ≤ 100) (d : Nat) : ∀ p : Nat, 0 < p → p + d = w.length →
    Ev (fun k => spec_lyRoot.l0 k w (p : Int)) ((rootF w d p : Nat) : Int) := by
  induction d with
  | zero =>
    intro p hp hd
    have hpe : p = w.length := by omega
    have c1 : ¬ (p : Int) = 0 := by omega
    have c2 : (w.length : Int) % (p : Int) = 0 := by rw [hpe]; exact Int.emod_self
    have hr := spec_lyRotate_ev w h (by omega) p (by omega)
    rw [hpe, Nat.mod_self, rotW_zero, ← hpe] at hr
    have hq := spec_l1Same_ev w w (by omega)
    refine Ev.succ ?_
    simp only [spec_lyRoot.l0]
    simp only [if_neg c1, if_pos c2]
    refine Ev.bind hr (Ev.bind hq ?_)
    simp only [decide_true, if_true]
    exact Ev.now _
  | succ d ih =>
    intro p hp hd
    have c1 : ¬ (p : Int) = 0 := by omega
    have b1 : p ≤ 1099511627776 := by omega
    have hr := spec_lyRotate_ev w h (by omega) p (by omega)
    have hq := spec_l1Same_ev (rotW w (p % w.length)) w (by rw [rotW_len]; omega)
    have em : (w.length : Int) % (p : Int) = ((w.length % p : Nat) : Int) := rfl
    refine Ev.succ ?_
    simp only [spec_lyRoot.l0]
    simp only [if_neg c1, em, i_up b1]
    unfold rootF
    by_cases c2 : w.length % p = 0
    · have c3 : ((w.length % p : Nat) : Int) = 0 := by omega
      simp only [if_pos c3]
      refine Ev.bind hr (Ev.bind hq ?_)
      by_cases c4 : rotW w (p % w.length) = w
      · simp only [decide_eq_true c4, if_true, if_pos (show w.length % p = 0 ∧ rotW w (p % w.length) = w from ⟨c2, c4⟩)]
        exact Ev.now _
      · simp only [decide_eq_false c4, Bool.false_eq_true, if_false, if_neg (show ¬ (w.length % p = 0 ∧ rotW w (p % w.length) = w) from fun e => c4 e.2)]
        exact ih (p + 1) (by omega) (by omega)
    · have c3 : ¬ ((w.length % p : Nat) : Int) = 0 := by omega
      simp only [if_neg c3, if_neg (show ¬ (w.length % p = 0 ∧ rotW w (p % w.length) = w) from fun e => c2 e.1)]
      exact ih (p + 1) (by omega) (by omega)
theorem spec_lyRoot_ev (w : List Int) (h : 0 < w.length) (hl : w.length ≤ 100) : Ev (fun k => spec_lyRoot.f k w) ((rootW w : Nat) : Int) :=
  spec_lyRoot_loop w h hl (w.length - 1) 1 (by omega) (by omega)

theorem beq_nat_nat (n m : Nat) : (((n : Nat) : Int) == ((m : Nat) : Int)) = decide (n = m) := by
  rw [Bool.eq_iff_iff, decide_eq_true_iff, beq_iff_eq]; omega
theorem spec_lyLyndon_ev (w : List Int) (h : 0 < w.length) (hl : w.length ≤ 100) (hin : ∀ x ∈ w, 0 ≤ x ∧ x ≤ 5) : Ev (fun k => spec_lyLyndon.f k w) (lynW w) := by
  unfold spec_lyLyndon.f lynW
  refine Ev.bind (spec_lyNecklace_ev w h hl hin) ?_
  cases neckW w with
  | false => simp only [Bool.false_eq_true, if_false, Bool.false_and]; exact Ev.now _
  | true =>
    simp only [if_true, Bool.true_and]
    refine Ev.bind (spec_lyRoot_ev w h hl) ?_
    exact Ev.some_ (beq_nat_nat _ _)

theorem slices_Grow_some (n : Int) (h : 0 < n) (h' : n ≤ 1000000) : slices_Grow_int_int.f n = some [] := by
  unfold slices_Grow_int_int.f
  rw [if_pos h, if_pos (by omega)]
theorem slices_Concat_two (a b : List Int) (h : 0 < a.length + b.length) (hl : a.length + b.length ≤ 1000) : Ev (fun k => slices_Concat_int_int.f k [a, b]) (a ++ b) := by
  have e0 : rd_L1 [a, b] 0 = a := rfl
  have e1 : rd_L1 [a, b] 1 = b := rfl
  have w1 : wrap64 (0 + (a.length : Int)) = (a.length : Int) := by rw [w64 (by omega)]; omega
  have w2 : wrap64 ((a.length : Int) + (b.length : Int)) = ((a.length + b.length : Nat) : Int) := i_plus (by omega)
  have w3 : wrap64 ((0 : Int) + 1) = 1 := w64 (by omega)
  have w4 : wrap64 ((1 : Int) + 1) = 2 := w64 (by omega)
  have hg := slices_Grow_some ((a.length + b.length : Nat) : Int) (by omega) (by omega)
  have n1 : ¬ (a.length : Int) < 0 := by omega
  have n2 : ¬ ((a.length + b.length : Nat) : Int) < 0 := by omega
  have n3 : ([] : List Int).length + a.length < 17592186044416 := by simp; omega
  have n4 : ([] ++ a).length + b.length < 17592186044416 := by simp; omega
  have hlen : (([a, b] : List (List Int)).length : Int) = 2 := rfl
  unfold slices_Concat_int_int.f
  refine Ev.succ ?_
  simp only [slices_Concat_int_int.l0]
  simp only [hlen, if_pos (show (0 : Int) < 2 by decide), if_pos (show (0 : Int) ≤ 0 by decide), e0, w1, if_neg n1, w3]
  refine Ev.succ ?_
  simp only [slices_Concat_int_int.l0]
  simp only [hlen, if_pos (show (1 : Int) < 2 by decide), if_pos (show (0 : Int) ≤ 1 by decide), e1, w2, if_neg n2, w4]
  refine Ev.succ ?_
  simp only [slices_Concat_int_int.l0]
  simp only [hlen, if_neg (show ¬ (2 : Int) < 2 by decide), hg, obind]
  refine Ev.succ ?_
  simp only [slices_Concat_int_int.l1]
  simp only [hlen, if_pos (show (0 : Int) < 2 by decide), if_pos (show (0 : Int) ≤ 0 by decide), e0, if_pos n3, w3]
  refine Ev.succ ?_
  simp only [slices_Concat_int_int.l1]
  simp only [hlen, if_pos (show (1 : Int) < 2 by decide), if_pos (show (0 : Int) ≤ 1 by decide), e1, if_pos n4, w4]
  refine Ev.succ ?_
  simp only [slices_Concat_int_int.l1]
  simp only [hlen, if_neg (show ¬ (2 : Int) < 2 by decide)]
  exact Ev.some_ (by simp)
theorem impl_rotated_ev (w : List Int) (h : 0 < w.length) (hl : w.length ≤ 1000) (b : Int) : Ev (fun k => impl_rotated.f k w b) (rotW w (turnN b w.length % w.length)) := by
  have hp := turnN_pos (b := b) h
  have ht : Int.tmod b (w.length : Int) + (w.length : Int) = ((turnN b w.length : Nat) : Int) := by unfold turnN; omega
  have hm := Nat.mod_lt (turnN b w.length) h
  have e0 : Int.tmod ((turnN b w.length : Nat) : Int) (w.length : Int) = ((turnN b w.length % w.length : Nat) : Int) := rfl
  have hw : wrap64 ((turnN b w.length : Nat) : Int) = ((turnN b w.length : Nat) : Int) := w64 (by omega)
  unfold impl_rotated.f
  generalize turnN b w.length % w.length = j at hm e0
  have c1 : ¬ (w.length : Int) = 0 := by omega
  have c2 : 0 ≤ (j : Int) := by omega
  have c3 : (j : Int) ≤ (w.length : Int) := by omega
  have hc := slices_Concat_two (w.drop j) (w.take j) (by simp; omega) (by simp; omega)
  simp only [if_neg c1, ht, hw, e0, if_pos c2, if_pos c3, Int.toNat_natCast]
  refine Ev.bind hc ?_
  exact Ev.now _

theorem cmp_Compare_eq (a b : Int) : cmp_Compare_int.f a b = some (if a < b then -1 else if a > b then 1 else 0) := by
  unfold cmp_Compare_int.f cmp_isNaN_int.f
  simp only [bne_self_eq_false, obind, Bool.false_eq_true, if_false]
  split
  · rfl
  · split <;> rfl
theorem slices_Compare_loop (s : List Int) : ∀ (t p q : List Int), p.length = q.length → (p ++ s).length ≤ 1000 → (q ++ t).length ≤ 1000 →
    Ev (fun k => slices_Compare_int_int.l0 k (p ++ s) (q ++ t) (p ++ s) ((p ++ s).length : Int) (p.length : Int)) (cmpW s t) := by
  induction s with
  | nil =>
    intro t p q hpq hl1 hl2
    have c1 : ¬ (p.length : Int) < ((p ++ ([] : List Int)).length : Int) := by rw [len_nil]; omega
    refine Ev.succ ?_
    simp only [slices_Compare_int_int.l0]
    simp only [if_neg c1]
    cases t with
    | nil =>
      have c2 : ¬ ((p ++ ([] : List Int)).length : Int) < ((q ++ ([] : List Int)).length : Int) := by rw [len_nil, len_nil]; omega
      simp only [if_neg c2]
      exact Ev.now _
    | cons y t =>
      have c2 : ((p ++ ([] : List Int)).length : Int) < ((q ++ y :: t).length : Int) := by rw [len_nil, len_mid]; omega
      simp only [if_pos c2]
      exact Ev.now _
  | cons x s ih =>
    intro t p q hpq hl1 hl2
    have h1 := len_mid p s x
    have c1 : (p.length : Int) < ((p ++ x :: s).length : Int) := by omega
    have c3 : 0 ≤ (p.length : Int) := by omega
    have e0 : rd (p ++ x :: s) (p.length : Int) = x := rd_mid rfl
    have c5 : p.length ≤ 1099511627776 := by omega
    refine Ev.succ ?_
    simp only [slices_Compare_int_int.l0]
    simp only [if_pos c1, if_pos c3]
    cases t with
    | nil =>
      have c2 : (p.length : Int) ≥ ((q ++ ([] : List Int)).length : Int) := by rw [len_nil]; omega
      simp only [if_pos c2]
      exact Ev.now _
    | cons y t =>
      have h2 := len_mid q t y
      have c2 : ¬ (p.length : Int) ≥ ((q ++ y :: t).length : Int) := by omega
      have c4 : (p.length : Int) < ((q ++ y :: t).length : Int) := by omega
      have e1 : rd (q ++ y :: t) (p.length : Int) = y := rd_mid (by omega)
      simp only [if_neg c2, if_pos c4, e0, e1, cmp_Compare_eq, obind]
      by_cases hxy : x = y
      · have hc : (if x < y then (-1 : Int) else if x > y then 1 else 0) = 0 := by rw [if_neg (by omega), if_neg (by omega)]
        simp only [hc, if_true, i_succ (out := p) (x := x) c5]
        have := ih t (p ++ [x]) (q ++ [y]) (by simp [hpq]) (by rw [← snoc_mid]; exact hl1) (by rw [← snoc_mid]; exact hl2)
        rw [← snoc_mid, ← snoc_mid] at this
        refine Ev.to this ?_
        simp [cmpW, hxy]
      · by_cases hlt : x < y
        · simp only [if_pos hlt, if_neg (show ¬ (-1 : Int) = 0 by decide)]
          exact Ev.some_ (by simp only [cmpW, if_neg hxy, if_pos hlt])
        · have hgt : x > y := by omega
          simp only [if_neg hlt, if_pos hgt, if_neg (show ¬ (1 : Int) = 0 by decide)]
          exact Ev.some_ (by simp only [cmpW, if_neg hxy, if_neg hlt])
theorem slices_Compare_ev (a b : List Int) (h1 : a.length ≤ 1000) (h2 : b.length ≤ 1000) : Ev (fun k => slices_Compare_int_int.f k a b) (cmpW a b) :=
  slices_Compare_loop a b [] [] rfl h1 h2

theorem impl_leastRotation_loop (w : List Int) (h : 0 < w.length) (hl : w.length ≤ 100) (d : Nat) : ∀ b best : Nat, b + d = w.length → best < w.length →
    Ev (fun k => impl_leastRotation.l0 k w (best : Int) (rotW w best) (b : Int)) (((leastF w d b best : Nat) : Int), rotW w (leastF w d b best)) := by
  induction d with
  | zero =>
    intro b best hb hbest
    have c1 : ¬ (b : Int) < (w.length : Int) := by omega
    refine Ev.done fun k => ?_
    simp only [impl_leastRotation.l0]
    rw [if_neg c1]
    rfl
  | succ d ih =>
    intro b best hb hbest
    have c1 : (b : Int) < (w.length : Int) := by omega
    have b1 : b ≤ 1099511627776 := by omega
    have hr1 := impl_rotated_ev w h (by omega) (b : Int)
    rw [turnN_nat h, Nat.mod_eq_of_lt (by omega)] at hr1
    have hc := slices_Compare_ev (rotW w b) (rotW w best) (by rw [rotW_len]; omega) (by rw [rotW_len]; omega)
    refine Ev.succ ?_
    simp only [impl_leastRotation.l0]
    simp only [if_pos c1, i_up b1]
    refine Ev.bind hr1 (Ev.bind hc ?_)
    unfold leastF
    by_cases hlt : cmpW (rotW w b) (rotW w best) < 0
    · simp only [if_pos hlt]
      exact ih (b + 1) b (by omega) (by omega)
    · simp only [if_neg hlt]
      exact ih (b + 1) best (by omega) hbest
theorem impl_copied_eq (l : List Int) (hl : l.length ≤ 1000000) : impl_copied.f l = some l := by
  unfold impl_copied.f
  rw [obind, if_pos (by simp; omega), List.nil_append]
theorem impl_leastRotation_ev (w : List Int) (h : 0 < w.length) (hl : w.length ≤ 100) : Ev (fun k => impl_leastRotation.f k w) (((leastW w : Nat) : Int), rotW w (leastW w)) := by
  unfold impl_leastRotation.f
  have hc := impl_copied_eq w (by omega)
  simp only [hc, obind]
  have := impl_leastRotation_loop w h hl (w.length - 1) 1 0 (by omega) h
  rw [rotW_zero] at this
  exact this

theorem impl_isNecklace_ev (w : List Int) (h : 0 < w.length) (hl : w.length ≤ 100) : Ev (fun k => impl_isNecklace.f k w) (neckW w) := by
  unfold impl_isNecklace.f
  refine Ev.bind (impl_leastRotation_ev w h hl) ?_
  exact Ev.some_ (beq_nat_zero _)

theorem slices_Equal_int_int_loop (s : List Int) : ∀ (p q t : List Int) (n i : Int), t.length = s.length → q.length = p.length → n = ((p ++ s).length : Int) → i = (p.length : Int) → (p ++ s).length ≤ 1000 →
    Ev (fun k => slices_Equal_int_int.l0 k (p ++ s) (q ++ t) n i) (decide (s = t)) := by
  induction s with
  | nil =>
    intro p q t n i ht hq hn hi hl
    have ht0 : t = [] := List.eq_nil_of_length_eq_zero ht
    subst ht0
    refine Ev.done fun k => ?_
    simp only [slices_Equal_int_int.l0]
    rw [if_neg (by rw [len_nil] at hn; omega)]
    simp
  | cons x s ih =>
    intro p q t n i ht hq hn hi hl
    cases t with
    | nil => simp at ht
    | cons y t =>
      have ht' : t.length = s.length := by simpa using ht
      have h1 := len_mid p s x
      have h2 := len_mid q t y
      by_cases hxy : x = y
      · have := ih (p ++ [x]) (q ++ [y]) t n (i + 1) ht' (by simp [hq]) (by rw [← snoc_mid]; exact hn) (by rw [len_snoc]; omega) (by rw [← snoc_mid]; exact hl)
        rw [← snoc_mid, ← snoc_mid] at this
        refine Ev.to (Ev.step' this fun k => ?_) (by simp [hxy])
        simp only [slices_Equal_int_int.l0]
        rw [if_pos (by omega), if_pos (by omega), if_pos (by omega), if_pos (by omega), rd_mid hi, rd_mid (by omega), if_pos hxy, w64 (by omega)]
      · refine Ev.to (Ev.done fun k => ?_) (show false = _ by simp [hxy])
        simp only [slices_Equal_int_int.l0]
        rw [if_pos (by omega), if_pos (by omega), if_pos (by omega), if_pos (by omega), rd_mid hi, rd_mid (by omega), if_neg hxy]
theorem slices_Equal_int_int_ev (l t : List Int) (hl : l.length ≤ 1000) : Ev (fun k => slices_Equal_int_int.f k l t) (decide (l = t)) := by
  by_cases h : l.length = t.length
  · have := slices_Equal_int_int_loop l [] [] t _ 0 h.symm rfl rfl (by simp) (by simpa using hl)
    simp only [List.nil_append] at this
    refine Ev.congr (fun k => ?_) this
    unfold slices_Equal_int_int.f
    rw [if_pos (by omega)]
  · refine Ev.to (Ev.congr (fun k => ?_) (Ev.now false)) (by rw [decide_eq_false]; exact fun e => h (by rw [e]))
    unfold slices_Equal_int_int.f
    rw [if_neg (by omega)]

theorem impl_rootLength_loop (w : List Int) (h : 0 < w.length) (hl : w.length ≤ 100) (d : Nat) : ∀ p : Nat, 0 < p → p + d = w.length →
    Ev (fun k => impl_rootLength.l0 k w (p : Int)) ((rootF w d p : Nat) : Int) := by
  induction d with
  | zero =>
    intro p hp hd
    have hpe : p = w.length := by omega
    have c1 : ¬ (p : Int) = 0 := by omega
    have c2 : (w.length : Int) % (p : Int) = 0 := by rw [hpe]; exact Int.emod_self
    have hr := impl_rotated_ev w h (by omega) (p : Int)
    rw [turnN_nat h] at hr
    rw [hpe, Nat.mod_self, rotW_zero, ← hpe] at hr
    have hq := slices_Equal_int_int_ev w w (by omega)
    refine Ev.succ ?_
    simp only [impl_rootLength.l0]
    simp only [if_neg c1, if_pos c2]
    refine Ev.bind hr (Ev.bind hq ?_)
    simp only [decide_true, if_true]
    exact Ev.now _
  | succ d ih =>
    intro p hp hd
    have c1 : ¬ (p : Int) = 0 := by omega
    have b1 : p ≤ 1099511627776 := by omega
    have hr := impl_rotated_ev w h (by omega) (p : Int)
    rw [turnN_nat h] at hr
    have hq := slices_Equal_int_int_ev (rotW w (p % w.length)) w (by rw [rotW_len]; omega)
    have em : (w.length : Int) % (p : Int) = ((w.length % p : Nat) : Int) := rfl
    refine Ev.succ ?_
    simp only [impl_rootLength.l0]
    simp only [if_neg c1, em, i_up b1]
    unfold rootF
    by_cases c2 : w.length % p = 0
    · have c3 : ((w.length % p : Nat) : Int) = 0 := by omega
      simp only [if_pos c3]
      refine Ev.bind hr (Ev.bind hq ?_)
      by_cases c4 : rotW w (p % w.length) = w
      · simp only [decide_eq_true c4, if_true, if_pos (show w.length % p = 0 ∧ rotW w (p % w.length) = w from ⟨c2, c4⟩)]
        exact Ev.now _
      · simp only [decide_eq_false c4, Bool.false_eq_true, if_false, if_neg (show ¬ (w.length % p = 0 ∧ rotW w (p % w.length) = w) from fun e => c4 e.2)]
        exact ih (p + 1) (by omega) (by omega)
    · have c3 : ¬ ((w.length % p : Nat) : Int) = 0 := by omega
      simp only [if_neg c3, if_neg (show ¬ (w.length % p = 0 ∧ rotW w (p % w.length) = w) from fun e => c2 e.1)]
      exact ih (p + 1) (by omega) (by omega)
theorem impl_rootLength_ev (w : List Int) (h : 0 < w.length) (hl : w.length ≤ 100) : Ev (fun k => impl_rootLength.f k w) ((rootW w : Nat) : Int) :=
  impl_rootLength_loop w h hl (w.length - 1) 1 (by omega) (by omega)

theorem impl_isLyndon_ev (w : List Int) (h : 0 < w.length) (hl : w.length ≤ 100) : Ev (fun k => impl_isLyndon.f k w) (lynW w) := by
  unfold impl_isLyndon.f lynW
  refine Ev.bind (impl_isNecklace_ev w h hl) ?_
  cases neckW w with
  | false => simp only [Bool.false_eq_true, if_false, Bool.false_and]; exact Ev.now _
  | true =>
    simp only [if_true, Bool.true_and]
    refine Ev.bind (impl_rootLength_ev w h hl) ?_
    exact Ev.some_ (beq_nat_nat _ _)

theorem spec_lyNext_l1 (k : Int) (hk : -1000 ≤ k ∧ k ≤ 1000) (r : List Int) : (∀ x ∈ r, 0 ≤ x ∧ x ≤ 5) → r.length ≤ 1000 → Ev (fun f => spec_lyNext.l1 f k r.reverse) (incR k r).reverse := by
  induction r with
  | nil => intro _ _; refine Ev.done fun f => ?_; simp only [spec_lyNext.l1]; rw [if_neg (by simp)]; rfl
  | cons x s ih =>
    intro hin hl
    have hx := hin x (List.mem_cons_self ..)
    have hl' : s.length + 1 ≤ 1000 := hl
    have e : (x :: s).reverse = s.reverse ++ x :: [] := by simp
    have el : (((s.reverse ++ x :: []).length : Nat) : Int) = (s.length : Int) + 1 := by simp
    have w1 : wrap64 ((s.length : Int) + 1 - 1) = (s.length : Int) := by rw [w64 (by omega)]; omega
    have w2 : wrap64 (k - 1) = k - 1 := w64 (by omega)
    have er : rd (s.reverse ++ x :: []) (s.length : Int) = x := rd_mid (by simp)
    have w3 : wrap64 (x + 1) = x + 1 := w64 (by omega)
    have et : (s.reverse ++ x :: []).take ((s.length : Int)).toNat = s.reverse := by
      rw [Int.toNat_natCast]; exact List.take_left' (by simp)
    have es : (s.reverse ++ x :: []).set ((s.length : Int)).toNat (x + 1) = s.reverse ++ (x + 1) :: [] := set_mid (by simp)
    rw [e]
    refine Ev.succ ?_
    simp only [spec_lyNext.l1]
    simp only [el, w1, w2, er, w3, et, es, if_pos (show (s.length : Int) + 1 > 0 by omega), if_pos (show 0 ≤ (s.length : Int) by omega), if_pos (show (s.length : Int) < (s.length : Int) + 1 by omega), if_pos (show (s.length : Int) ≤ (s.length : Int) + 1 by omega)]
    unfold incR
    by_cases h : x = k - 1
    · simp only [if_pos h]; exact ih (fun y hy => hin y (List.mem_cons_of_mem _ hy)) (by omega)
    · simp only [if_neg h]; exact Ev.some_ (by simp)
theorem spec_lyNext_l0 (w : List Int) (k : Int) (n : Nat) (h0 : 0 < w.length) (hl : w.length ≤ 1000) (hin : ∀ x ∈ w, 0 ≤ x ∧ x ≤ 5) (hk : -1000 ≤ k ∧ k ≤ 1000) (hn : n ≤ 1000) (d : Nat) : ∀ j, j + d = n →
    Ev (fun f => spec_lyNext.l0 f w (n : Int) k (repW w j)) (nxtW w n k) := by
  induction d with
  | zero =>
    intro j hj
    have e : j = n := by omega
    subst e
    have c1 : ¬ (((repW w j).length : Nat) : Int) < (j : Int) := by rw [repW_len]; omega
    refine Ev.succ ?_
    simp only [spec_lyNext.l0, if_neg c1]
    have := spec_lyNext_l1 k hk (repW w j).reverse (fun x hx => repW_in h0 hin j x (List.mem_reverse.1 hx)) (by rw [List.length_reverse, repW_len]; omega)
    rw [List.reverse_reverse] at this
    exact this
  | succ d ih =>
    intro j hj
    have hm : j % w.length < w.length := Nat.mod_lt _ h0
    have em : ((j : Nat) : Int) % ((w.length : Nat) : Int) = ((j % w.length : Nat) : Int) := rfl
    have er : rd w ((j % w.length : Nat) : Int) = w.getD (j % w.length) 0 := by unfold rd; rw [Int.toNat_natCast]
    have c0 : ¬ (w.length : Int) = 0 := by omega
    have c1 : (j : Int) < (n : Int) := by omega
    have c2 : 0 ≤ ((j % w.length : Nat) : Int) := by omega
    have c3 : ((j % w.length : Nat) : Int) < (w.length : Int) := by omega
    have c4 : j < 17592186044416 := by omega
    refine Ev.succ ?_
    simp only [spec_lyNext.l0]
    simp only [repW_len, if_pos c1, if_neg c0, em, if_pos c2, if_pos c3, er, if_pos c4, ← repW_succ]
    exact ih (j + 1) (by omega)
theorem spec_lyNext_ev (w : List Int) (k : Int) (n : Nat) (h0 : 0 < w.length) (hl : w.length ≤ 1000) (hin : ∀ x ∈ w, 0 ≤ x ∧ x ≤ 5) (hk : -1000 ≤ k ∧ k ≤ 1000) (hn : n ≤ 1000) :
    Ev (fun f => spec_lyNext.f f w (n : Int) k) (nxtW w n k) := spec_lyNext_l0 w k n h0 hl hin hk hn n 0 (by omega)

theorem impl_nextLyndon_l1 (k : Int) (hk : -1000 ≤ k ∧ k ≤ 1000) (r : List Int) : (∀ x ∈ r, 0 ≤ x ∧ x ≤ 5) → r.length ≤ 1000 → Ev (fun f => impl_nextLyndon.l1 f k r.reverse) (incR k r).reverse := by
  induction r with
  | nil => intro _ _; refine Ev.done fun f => ?_; simp only [impl_nextLyndon.l1]; rw [if_neg (by simp)]; rfl
  | cons x s ih =>
    intro hin hl
    have hx := hin x (List.mem_cons_self ..)
    have hl' : s.length + 1 ≤ 1000 := hl
    have e : (x :: s).reverse = s.reverse ++ x :: [] := by simp
    have el : (((s.reverse ++ x :: []).length : Nat) : Int) = (s.length : Int) + 1 := by simp
    have w1 : wrap64 ((s.length : Int) + 1 - 1) = (s.length : Int) := by rw [w64 (by omega)]; omega
    have w2 : wrap64 (k - 1) = k - 1 := w64 (by omega)
    have er : rd (s.reverse ++ x :: []) (s.length : Int) = x := rd_mid (by simp)
    have w3 : wrap64 (x + 1) = x + 1 := w64 (by omega)
    have et : (s.reverse ++ x :: []).take ((s.length : Int)).toNat = s.reverse := by
      rw [Int.toNat_natCast]; exact List.take_left' (by simp)
    have es : (s.reverse ++ x :: []).set ((s.length : Int)).toNat (x + 1) = s.reverse ++ (x + 1) :: [] := set_mid (by simp)
    rw [e]
    refine Ev.succ ?_
    simp only [impl_nextLyndon.l1]
    simp only [el, w1, w2, er, w3, et, es, if_pos (show (s.length : Int) + 1 > 0 by omega), if_pos (show 0 ≤ (s.length : Int) by omega), if_pos (show (s.length : Int) < (s.length : Int) + 1 by omega), if_pos (show (s.length : Int) ≤ (s.length : Int) + 1 by omega)]
    unfold incR
    by_cases h : x = k - 1
    · simp only [if_pos h]; exact ih (fun y hy => hin y (List.mem_cons_of_mem _ hy)) (by omega)
    · simp only [if_neg h]; exact Ev.some_ (by simp)
theorem impl_nextLyndon_l0 (w : List Int) (k : Int) (n : Nat) (h0 : 0 < w.length) (hl : w.length ≤ 1000) (hin : ∀ x ∈ w, 0 ≤ x ∧ x ≤ 5) (hk : -1000 ≤ k ∧ k ≤ 1000) (hn : n ≤ 1000) (d : Nat) : ∀ j : Nat, j + d = n →
    Ev (fun f => impl_nextLyndon.l0 f w k (repW w j) (n : Int) (j : Int)) (nxtW w n k) := by
  induction d with
  | zero =>
    intro j hj
    have e : j = n := by omega
    subst e
    have c1 : ¬ (j : Int) < (j : Int) := by omega
    refine Ev.succ ?_
    simp only [impl_nextLyndon.l0, if_neg c1]
    have := impl_nextLyndon_l1 k hk (repW w j).reverse (fun x hx => repW_in h0 hin j x (List.mem_reverse.1 hx)) (by rw [List.length_reverse, repW_len]; omega)
    rw [List.reverse_reverse] at this
    exact this
  | succ d ih =>
    intro j hj
    have hm : j % w.length < w.length := Nat.mod_lt _ h0
    have em : Int.tmod ((j : Nat) : Int) ((w.length : Nat) : Int) = ((j % w.length : Nat) : Int) := rfl
    have er : rd w ((j % w.length : Nat) : Int) = w.getD (j % w.length) 0 := by unfold rd; rw [Int.toNat_natCast]
    have c0 : ¬ (w.length : Int) = 0 := by omega
    have c1 : (j : Int) < (n : Int) := by omega
    have c2 : 0 ≤ ((j % w.length : Nat) : Int) := by omega
    have c3 : ((j % w.length : Nat) : Int) < (w.length : Int) := by omega
    have c4 : (repW w j).length < 17592186044416 := by rw [repW_len]; omega
    have b1 : j ≤ 1099511627776 := by omega
    refine Ev.succ ?_
    simp only [impl_nextLyndon.l0]
    simp only [if_pos c1, if_neg c0, em, if_pos c2, if_pos c3, er, if_pos c4, i_up b1, ← repW_succ]
    exact ih (j + 1) (by omega)
theorem impl_nextLyndon_ev (w : List Int) (k : Int) (n : Nat) (h0 : 0 < w.length) (hl : w.length ≤ 1000) (hin : ∀ x ∈ w, 0 ≤ x ∧ x ≤ 5) (hk : -1000 ≤ k ∧ k ≤ 1000) (hn : n ≤ 1000) :
    Ev (fun f => impl_nextLyndon.f f w (n : Int) k) (nxtW w n k) := by
  unfold impl_nextLyndon.f
  exact impl_nextLyndon_l0 w k n h0 hl hin hk hn n 0 (by omega)

def isKind (a b : Int) : Bool := inB a 1 12 && inB b 1 6
theorem spec_lyKind_eq (a b : Int) : spec_lyKind.f a b = some (isKind a b) := by
  unfold spec_lyKind.f isKind
  simp only [spec_l1In_eq, obind]
  cases inB a 1 12 <;> simp
theorem impl_isOver_eq (a b : Int) : impl_isOver.f a b = some (isKind a b) := by
  unfold impl_isOver.f isKind
  simp only [impl_within_eq, obind]
  cases inB a 1 12 <;> simp

def nextR (l : List Int) (a1 a2 : Int) : List Int × Bool :=
  if (((isKind a1 a2 && isW l) && (decide ((l.length : Int) ≤ a1) && l.all fun x => inB x 0 (a2 - 1))) && lynW l) = true ∧ 0 < (nxtW l a1.toNat a2).length then (nxtW l a1.toNat a2, true) else ([], false)
theorem isKind_true {a b : Int} (h : isKind a b = true) : (1 ≤ a ∧ a ≤ 12) ∧ 1 ≤ b ∧ b ≤ 6 := by
  unfold isKind at h; rw [Bool.and_eq_true, inB_true, inB_true] at h; exact h
theorem spec_NextLyndon_ev (l : List Int) (a1 a2 : Int) (hl : l.length ≤ 1099511627776) : Ev (fun k => spec_NextLyndon.f k l a1 a2) (nextR l a1 a2) := by
  unfold spec_NextLyndon.f nextR
  simp only [spec_lyKind_eq, obind]
  cases hk : isKind a1 a2 with
  | false => simp only [Bool.false_eq_true, if_false, Bool.false_and, false_and]; exact Ev.now _
  | true =>
    obtain ⟨⟨k1, k2⟩, k3, k4⟩ := isKind_true hk
    simp only [if_true, Bool.true_and]
    refine Ev.bind (spec_lyWord_ev l hl) ?_
    cases hw : isW l with
    | false => simp only [Bool.false_eq_true, if_false, Bool.false_and, false_and]; exact Ev.now _
    | true =>
      obtain ⟨⟨w1, w2⟩, w3⟩ := isW_true hw
      simp only [if_true, Bool.true_and]
      by_cases hc : (l.length : Int) > a1
      · simp only [if_pos hc, decide_eq_false (show ¬ (l.length : Int) ≤ a1 by omega), Bool.false_eq_true, if_false, Bool.false_and, false_and]; exact Ev.now _
      · simp only [if_neg hc, decide_eq_true (show (l.length : Int) ≤ a1 by omega), Bool.true_and]
        rw [show wrap64 (a2 - 1) = a2 - 1 from w64 (by omega)]
        refine Ev.bind (spec_l1All_ev l 0 (a2 - 1) hl) ?_
        cases ha : (l.all fun x => inB x 0 (a2 - 1)) with
        | false => simp only [Bool.false_eq_true, if_false, Bool.false_and, false_and]; exact Ev.now _
        | true =>
          simp only [if_true, Bool.true_and]
          refine Ev.bind (spec_lyLyndon_ev l (by omega) (by omega) w3) ?_
          cases hy : lynW l with
          | false => simp only [Bool.false_eq_true, if_false, false_and]; exact Ev.now _
          | true =>
            simp only [if_true, true_and]
            obtain ⟨n, rfl⟩ : ∃ n : Nat, a1 = (n : Int) := ⟨a1.toNat, by omega⟩
            rw [Int.toNat_natCast]
            have hn := spec_lyNext_ev l a2 n (by omega) (by omega) w3 (by omega) (by omega)
            refine Ev.bind hn ?_
            by_cases h0 : (nxtW l n a2).length = 0
            · simp only [if_neg (show ¬ 0 < (nxtW l n a2).length by omega), if_pos (show (((nxtW l n a2).length : Nat) : Int) = 0 by omega)]; exact Ev.now _
            · simp only [if_pos (show 0 < (nxtW l n a2).length by omega), if_neg (show ¬ (((nxtW l n a2).length : Nat) : Int) = 0 by omega)]
              refine Ev.bind hn ?_
              exact Ev.now _
theorem impl_NextLyndon_ev (l : List Int) (a1 a2 : Int) (hl : l.length ≤ 1099511627776) : Ev (fun k => impl_NextLyndon.f k l a1 a2) (nextR l a1 a2) := by
  unfold impl_NextLyndon.f nextR
  simp only [impl_isOver_eq, obind]
  cases hk : isKind a1 a2 with
  | false => simp only [Bool.false_eq_true, if_false, Bool.false_and, false_and]; exact Ev.now _
  | true =>
    obtain ⟨⟨k1, k2⟩, k3, k4⟩ := isKind_true hk
    simp only [if_true, Bool.true_and]
    refine Ev.bind (impl_IsWord_ev l hl) ?_
    cases hw : isW l with
    | false => simp only [Bool.false_eq_true, if_false, Bool.false_and, false_and]; exact Ev.now _
    | true =>
      obtain ⟨⟨w1, w2⟩, w3⟩ := isW_true hw
      simp only [if_true, Bool.true_and]
      by_cases hc : (l.length : Int) > a1
      · simp only [if_pos hc, decide_eq_false (show ¬ (l.length : Int) ≤ a1 by omega), Bool.false_eq_true, if_false, Bool.false_and, false_and]; exact Ev.now _
      · simp only [if_neg hc, decide_eq_true (show (l.length : Int) ≤ a1 by omega), Bool.true_and]
        rw [show wrap64 (a2 - 1) = a2 - 1 from w64 (by omega)]
        refine Ev.bind (impl_allWithin_ev l 0 (a2 - 1) hl) ?_
        cases ha : (l.all fun x => inB x 0 (a2 - 1)) with
        | false => simp only [Bool.false_eq_true, if_false, Bool.false_and, false_and]; exact Ev.now _
        | true =>
          simp only [if_true, Bool.true_and]
          refine Ev.bind (impl_isLyndon_ev l (by omega) (by omega)) ?_
          cases hy : lynW l with
          | false => simp only [Bool.false_eq_true, if_false, false_and]; exact Ev.now _
          | true =>
            simp only [if_true, true_and]
            obtain ⟨n, rfl⟩ : ∃ n : Nat, a1 = (n : Int) := ⟨a1.toNat, by omega⟩
            rw [Int.toNat_natCast]
            have hn := impl_nextLyndon_ev l a2 n (by omega) (by omega) w3 (by omega) (by omega)
            refine Ev.bind hn ?_
            by_cases h0 : (nxtW l n a2).length = 0
            · rw [if_neg (show ¬ 0 < (nxtW l n a2).length by omega), decide_eq_false (show ¬ (((nxtW l n a2).length : Nat) : Int) > 0 by omega), List.eq_nil_of_length_eq_zero h0]; exact Ev.now _
            · rw [if_pos (show 0 < (nxtW l n a2).length by omega), decide_eq_true (show (((nxtW l n a2).length : Nat) : Int) > 0 by omega)]
              exact Ev.now _
theorem nextR_len (l : List Int) (a1 a2 : Int) : (nextR l a1 a2).1.length ≤ 12 := by
  unfold nextR
  split
  · rename_i h
    have h1 := h.1
    simp only [Bool.and_eq_true] at h1
    have := isKind_true h1.1.1.1
    exact Nat.le_trans (nxtW_len _ _ _) (by omega)
  · simp

theorem FnExactNextLyndon : laws_FnExactNextLyndon.Pure := by
  intro l a1 a2 _ hl _ _ _
  unfold laws_FnExactNextLyndon.f
  by_cases hbig : (l.length : Int) > 1048576
  · exact ⟨0, by rw [if_pos hbig]⟩
  simp only [if_neg hbig]
  have hl' : l.length ≤ 1048576 := by omega
  have ht := laws_toIntS_ev l (by omega)
  have het := laws_eqIntS_ev l l (by omega)
  have hmt := laws_markIntS_ev l (by omega)
  have hs := spec_NextLyndon_ev l a1 a2 (by omega)
  have hi := impl_NextLyndon_ev l a1 a2 (by omega)
  have hlen := nextR_len l a1 a2
  generalize nextR l a1 a2 = R at hs hi hlen
  obtain ⟨o, b⟩ := R
  simp only at hlen
  have he := laws_eqIntS_ev o o (by omega)
  have hm := laws_markIntS_ev o (by omega)
  have hh := laws_heldIntS_ev o.length (by omega)
  refine (Ev.bind ht (Ev.bind hs (Ev.bind ht (Ev.bind hi (Ev.bind he ?_))))).rounds
  simp only [decide_true, if_true, bne_self_eq_false]
  refine Ev.succ ?_
  simp only [laws_FnExactNextLyndon.j0, Bool.false_eq_true, if_false]
  refine Ev.bind ht (Ev.bind het ?_)
  simp only [decide_true, if_true]
  refine Ev.bind hmt ?_
  simp only [if_neg (show ¬ (1 + (l.length : Int)) < 0 by omega)]
  refine Ev.bind he ?_
  simp only [decide_true, if_true, bne_self_eq_false]
  refine Ev.succ ?_
  simp only [laws_FnExactNextLyndon.j1, Bool.false_eq_true, if_false]
  refine Ev.bind hm (Ev.bind hh ?_)
  simp only [if_neg (show ¬ (1 + (o.length : Int)) < 0 by omega), if_true]
  refine Ev.bind ht (Ev.bind hi (Ev.bind he ?_))
  simp only [decide_true, if_true, bne_self_eq_false]
  refine Ev.succ ?_
  simp only [laws_FnExactNextLyndon.j2, Bool.false_eq_true, if_false]
  refine Ev.bind hh ?_
  simp only [if_neg (show ¬ (1 + (o.length : Int)) < 0 by omega), if_true]
  exact Ev.now _

end Go.Proofs.Ytmcmglclgdgdnaa.Pure
