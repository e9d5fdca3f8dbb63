/- The program's BracketText returns what the reference's returns, for every list of whole numbers that takes at most 2^47 - 4096 bytes. -/
import Derived.Test.YtmcmglclgdgdnaaHFnExactBracketTextx6
import Derived.Test.YtmcmglclgdgdnaaCoreA
import Derived.Test.YtmcmglclgdgdnaaCoreL
import Derived.Test.YtmcmglclgdgdnaaCoreM
namespace Go.Proofs.Ytmcmglclgdgdnaa.Pure
open Go.RowKit Go.Proofs.Ytmcmglclgdgdnaa.HFnExactBracketText Go.Proofs.YtmcmglclgdgdnaaW.PrintWords Go.Proofs.YtmcmglclgdgdnaaW.PrintLast Go.Proofs.YtmcmglclgdgdnaaW.PrintMore Go.Proofs.Ytmcmglclgdgdnaa.Core
set_option linter.unusedVariables false
set_option linter.unusedSimpArgs false

theorem laws_toIntS_loop (s : List Int) : ∀ (p q : List Int) (i : Int), q.length = s.length → i = (p.length : Int) → (p ++ s).length ≤ 1099511627776 →
    Ev (fun k => laws_toIntS.l0 k (p ++ s) (p ++ q) i) (p ++ s) := by
  induction s with
  | nil =>
    intro p q i hq hi hl
    have hq0 : q = [] := List.eq_nil_of_length_eq_zero hq
    subst hq0
    refine Ev.done fun k => ?_
    simp only [laws_toIntS.l0]
    rw [if_neg (by rw [len_nil]; omega)]
  | cons x s ih =>
    intro p q i hq hi hl
    cases q with
    | nil => simp at hq
    | cons y q =>
      have hq' : q.length = s.length := by simpa using hq
      have h1 := len_mid p s x
      have h2 := len_mid p q y
      have := ih (p ++ [x]) q (i + 1) hq' (by rw [len_snoc]; omega) (by rw [← snoc_mid]; exact hl)
      rw [← snoc_mid, ← snoc_mid] at this
      refine Ev.step' this fun k => ?_
      simp only [laws_toIntS.l0]
      rw [if_pos (by omega), if_pos (by omega), if_pos (by omega), rd_mid hi, set_mid hi, w64 (by omega)]
theorem laws_toIntS_ev (l : List Int) (hl : l.length ≤ 1099511627776) : Ev (fun k => laws_toIntS.f k l) l := by
  have := laws_toIntS_loop l [] (List.replicate l.length 0) 0 (by simp) (by simp) (by simpa using hl)
  simp only [List.nil_append] at this
  refine Ev.congr (fun k => ?_) this
  unfold laws_toIntS.f
  rw [if_pos (by omega), if_pos (by omega)]
  simp only [Int.toNat_natCast]

theorem laws_eqIntS_loop (s : List Int) : ∀ (p q t : List Int) (i : Int), t.length = s.length → q.length = p.length → i = (p.length : Int) → (p ++ s).length ≤ 1099511627776 →
    Ev (fun k => laws_eqIntS.l0 k (p ++ s) (q ++ t) i) (decide (s = t)) := by
  induction s with
  | nil =>
    intro p q t i ht hq hi hl
    have ht0 : t = [] := List.eq_nil_of_length_eq_zero ht
    subst ht0
    refine Ev.done fun k => ?_
    simp only [laws_eqIntS.l0]
    rw [if_neg (by rw [len_nil]; omega)]
    simp
  | cons x s ih =>
    intro p q t i ht hq hi hl
    cases t with
    | nil => simp at ht
    | cons y t =>
      have ht' : t.length = s.length := by simpa using ht
      have h1 := len_mid p s x
      have h2 := len_mid q t y
      by_cases hxy : x = y
      · have := ih (p ++ [x]) (q ++ [y]) t (i + 1) ht' (by simp [hq]) (by rw [len_snoc]; omega) (by rw [← snoc_mid]; exact hl)
        rw [← snoc_mid, ← snoc_mid] at this
        refine Ev.to (Ev.step' this fun k => ?_) (by simp [hxy])
        simp only [laws_eqIntS.l0]
        rw [if_pos (by omega), if_pos (by omega), if_pos (by omega), rd_mid hi, rd_mid (by omega), if_pos hxy, w64 (by omega)]
      · refine Ev.to (Ev.done fun k => ?_) (show false = _ by simp [hxy])
        simp only [laws_eqIntS.l0]
        rw [if_pos (by omega), if_pos (by omega), if_pos (by omega), rd_mid hi, rd_mid (by omega), if_neg hxy]
theorem laws_eqIntS_ev (l t : List Int) (hl : l.length ≤ 1099511627776) : Ev (fun k => laws_eqIntS.f k l t) (decide (l = t)) := by
  by_cases h : l.length = t.length
  · have := laws_eqIntS_loop l [] [] t 0 h.symm rfl (by simp) (by simpa using hl)
    simp only [List.nil_append] at this
    refine Ev.congr (fun k => ?_) this
    unfold laws_eqIntS.f
    rw [if_pos (by omega)]
  · refine Ev.to (Ev.congr (fun k => ?_) (Ev.now false)) (by rw [decide_eq_false]; exact fun e => h (by rw [e]))
    unfold laws_eqIntS.f
    rw [if_neg (by omega)]

theorem spec_l1In_eq (a b c : Int) : spec_l1In.f a b c = some (inB a b c) := inB_ite a b c

theorem spec_l1All_loop (lo hi : Int) (s : List Int) : ∀ (p : List Int) (n i : Int), n = ((p ++ s).length : Int) → i = (p.length : Int) → (p ++ s).length ≤ 1099511627776 →
    Ev (fun k => spec_l1All.l0 k lo hi (p ++ s) n i) (s.all fun x => inB x lo hi) := by
  induction s with
  | nil =>
    intro p n i hn hx hl
    refine Ev.done fun k => ?_
    simp only [spec_l1All.l0]
    rw [if_neg (by rw [len_nil] at hn; omega)]
    rfl
  | cons x s ih =>
    intro p n i hn hx hl
    have h1 := len_mid p s x
    cases hb : inB x lo hi with
    | true =>
      have := ih (p ++ [x]) n (i + 1) (by rw [← snoc_mid]; exact hn) (by rw [len_snoc]; omega) (by rw [← snoc_mid]; exact hl)
      rw [← snoc_mid] at this
      refine Ev.to (Ev.step' this fun k => ?_) (by simp [hb])
      simp only [spec_l1All.l0]
      rw [if_pos (by omega), if_pos (by omega), if_pos (by omega), rd_mid hx, spec_l1In_eq, hb, w64 (by omega)]
      rfl
    | false =>
      refine Ev.to (Ev.done fun k => ?_) (show false = _ by simp [hb])
      simp only [spec_l1All.l0]
      rw [if_pos (by omega), if_pos (by omega), if_pos (by omega), rd_mid hx, spec_l1In_eq, hb]
      rfl
theorem spec_l1All_ev (l : List Int) (lo hi : Int) (hl : l.length ≤ 1099511627776) : Ev (fun k => spec_l1All.f k l lo hi) (l.all fun x => inB x lo hi) :=
  spec_l1All_loop lo hi l [] _ 0 rfl (by simp) (by simpa using hl)

theorem spec_lyWord_ev (l : List Int) (hl : l.length ≤ 1099511627776) : Ev (fun k => spec_lyWord.f k l) (isW l) := by
  unfold spec_lyWord.f isW
  simp only [spec_l1In_eq, obind]
  cases h : inB (l.length : Int) 1 24 with
  | true => simpa using spec_l1All_ev l 0 5 hl
  | false => exact Ev.now _

theorem impl_within_eq (a b c : Int) : impl_within.f a b c = some (inB a b c) := inB_ite a b c

theorem impl_allWithin_loop (lo hi : Int) (s : List Int) : ∀ (p : List Int) (n i : Int), n = ((p ++ s).length : Int) → i = (p.length : Int) → (p ++ s).length ≤ 1099511627776 →
    Ev (fun k => impl_allWithin.l0 k lo hi (p ++ s) n i) (s.all fun x => inB x lo hi) := by
  induction s with
  | nil =>
    intro p n i hn hx hl
    refine Ev.done fun k => ?_
    simp only [impl_allWithin.l0]
    rw [if_neg (by rw [len_nil] at hn; omega)]
    rfl
  | cons x s ih =>
    intro p n i hn hx hl
    have h1 := len_mid p s x
    cases hb : inB x lo hi with
    | true =>
      have := ih (p ++ [x]) n (i + 1) (by rw [← snoc_mid]; exact hn) (by rw [len_snoc]; omega) (by rw [← snoc_mid]; exact hl)
      rw [← snoc_mid] at this
      refine Ev.to (Ev.step' this fun k => ?_) (by simp [hb])
      simp only [impl_allWithin.l0]
      rw [if_pos (by omega), if_pos (by omega), if_pos (by omega), rd_mid hx, impl_within_eq, hb, w64 (by omega)]
      rfl
    | false =>
      refine Ev.to (Ev.done fun k => ?_) (show false = _ by simp [hb])
      simp only [impl_allWithin.l0]
      rw [if_pos (by omega), if_pos (by omega), if_pos (by omega), rd_mid hx, impl_within_eq, hb]
      rfl
theorem impl_allWithin_ev (l : List Int) (lo hi : Int) (hl : l.length ≤ 1099511627776) : Ev (fun k => impl_allWithin.f k l lo hi) (l.all fun x => inB x lo hi) :=
  impl_allWithin_loop lo hi l [] _ 0 rfl (by simp) (by simpa using hl)

theorem impl_IsWord_ev (l : List Int) (hl : l.length ≤ 1099511627776) : Ev (fun k => impl_IsWord.f k l) (isW l) := by
  unfold impl_IsWord.f isW
  simp only [impl_within_eq, obind]
  cases h : inB (l.length : Int) 1 24 with
  | true => simpa using impl_allWithin_ev l 0 5 hl
  | false => exact Ev.now _

theorem spec_lyRotate_loop (w : List Int) (h : 0 < w.length) (hl : w.length ≤ 1000) (b : Nat) (hb : b ≤ 100000) (d : Nat) : ∀ i : Nat, i + d = w.length →
    Ev (fun k => spec_lyRotate.l0 k w (b : Int) ((List.range i).map fun t => w.getD ((t + b) % w.length) 0) (w.length : Int) (i : Int)) ((List.range w.length).map fun t => w.getD ((t + b) % w.length) 0) := by
  induction d with
  | zero =>
    intro i hi
    have : i = w.length := by omega
    subst this
    refine Ev.succ ?_
    simp only [spec_lyRotate.l0]
    simp only [if_neg (show ¬ (w.length : Int) < (w.length : Int) by omega)]
    exact Ev.now _
  | succ d ih =>
    intro i hi
    have hm := Nat.mod_lt (i + b) h
    have c1 : (i : Int) < (w.length : Int) := by omega
    have c2 : ¬ (w.length : Int) = 0 := by omega
    have e0 : Int.tmod ((i + b : Nat) : Int) (w.length : Int) = (((i + b) % w.length : Nat) : Int) := rfl
    have c3 : 0 ≤ (((i + b) % w.length : Nat) : Int) := by omega
    have c4 : (((i + b) % w.length : Nat) : Int) < (w.length : Int) := by omega
    have c5 : ((List.range i).map fun t => w.getD ((t + b) % w.length) 0).length < 17592186044416 := by simp; omega
    have b1 : i + b ≤ 9007199254740992 := by omega
    have b2 : i ≤ 1099511627776 := by omega
    have hih := ih (i + 1) (by omega)
    rw [List.range_succ, List.map_append, List.map_singleton] at hih
    refine Ev.succ ?_
    simp only [spec_lyRotate.l0]
    simp only [if_pos c1, if_neg c2, i_plus b1, e0, if_pos c3, if_pos c4, if_pos c5, i_up b2]
    exact hih
theorem spec_lyRotate_ev (w : List Int) (h : 0 < w.length) (hl : w.length ≤ 1000) (b : Nat) (hb : b ≤ 100000) : Ev (fun k => spec_lyRotate.f k w (b : Int)) (rotW w (b % w.length)) := by
  rw [← rot_eq w b h]
  exact spec_lyRotate_loop w h hl b hb w.length 0 (by omega)

theorem spec_l1Sign_eq (a : Int) : spec_l1Sign.f a = some (if a > 0 then 1 else if a < 0 then -1 else 0) := by
  unfold spec_l1Sign.f
  split
  · rfl
  · split <;> rfl
theorem spec_lyCompare_loop (s : List Int) : ∀ (t p q : List Int), p.length = q.length → (∀ x ∈ s, 0 ≤ x ∧ x ≤ 5) → (∀ x ∈ t, 0 ≤ x ∧ x ≤ 5) → (p ++ s).length ≤ 1000 → (q ++ t).length ≤ 1000 →
    Ev (fun k => spec_lyCompare.l0 k (p ++ s) (q ++ t) (p.length : Int)) (cmpW s t) := by
  induction s with
  | nil =>
    intro t p q hpq hs ht hl1 hl2
    have c1 : ¬ (p.length : Int) < ((p ++ ([] : List Int)).length : Int) := by rw [len_nil]; omega
    refine Ev.succ ?_
    simp only [spec_lyCompare.l0]
    simp only [if_neg c1]
    refine Ev.succ ?_
    simp only [spec_lyCompare.j1, Bool.false_eq_true, if_false]
    have e : ((p ++ ([] : List Int)).length : Int) - ((q ++ t).length : Int) = -(t.length : Int) := by rw [len_nil, len_app]; omega
    have hw : wrap64 (-(t.length : Int)) = -(t.length : Int) := by rw [List.length_append] at hl2; exact w64 (by omega)
    simp only [e, hw, spec_l1Sign_eq, obind]
    refine Ev.some_ ?_
    cases t with
    | nil => rfl
    | cons y t =>
      have h1 : ((y :: t).length : Int) = t.length + 1 := by simp
      simp only [cmpW, h1]
      rw [if_neg (by omega), if_pos (by omega)]
  | cons x s ih =>
    intro t p q hpq hs ht hl1 hl2
    have h1 := len_mid p s x
    have c1 : (p.length : Int) < ((p ++ x :: s).length : Int) := by omega
    refine Ev.succ ?_
    simp only [spec_lyCompare.l0]
    simp only [if_pos c1]
    cases t with
    | nil =>
      have c2 : decide ((p.length : Int) < ((q ++ ([] : List Int)).length : Int)) = false := decide_eq_false (by rw [len_nil]; omega)
      simp only [c2]
      refine Ev.succ ?_
      simp only [spec_lyCompare.j1, Bool.false_eq_true, if_false]
      have e : ((p ++ x :: s).length : Int) - ((q ++ ([] : List Int)).length : Int) = (s.length : Int) + 1 := by rw [len_nil]; omega
      have hw : wrap64 ((s.length : Int) + 1) = (s.length : Int) + 1 := by exact w64 (by omega)
      simp only [e, hw, spec_l1Sign_eq, obind]
      refine Ev.some_ ?_
      simp only [cmpW]
      rw [if_pos (by omega)]
    | cons y t =>
      have h2 := len_mid q t y
      have c2 : decide ((p.length : Int) < ((q ++ y :: t).length : Int)) = true := decide_eq_true (by omega)
      have c3 : 0 ≤ (p.length : Int) := by omega
      have c4 : (p.length : Int) < ((q ++ y :: t).length : Int) := by omega
      have e0 : rd (p ++ x :: s) (p.length : Int) = x := rd_mid rfl
      have e1 : rd (q ++ y :: t) (p.length : Int) = y := rd_mid (by omega)
      have c5 : p.length ≤ 1099511627776 := by omega
      have hx := hs x (List.mem_cons_self ..)
      have hy := ht y (List.mem_cons_self ..)
      simp only [c2]
      refine Ev.succ ?_
      simp only [spec_lyCompare.j1, if_true]
      simp only [if_pos c3, if_pos c1, if_pos c4, e0, e1]
      by_cases hxy : x = y
      · simp only [if_pos hxy, i_succ (out := p) (x := x) c5]
        have := ih t (p ++ [x]) (q ++ [y]) (by simp [hpq]) (fun z hz => hs z (List.mem_cons_of_mem _ hz)) (fun z hz => ht z (List.mem_cons_of_mem _ hz)) (by rw [← snoc_mid]; exact hl1) (by rw [← snoc_mid]; exact hl2)
        rw [← snoc_mid, ← snoc_mid] at this
        refine Ev.to this ?_
        simp [cmpW, hxy]
      · have hw : wrap64 (x - y) = x - y := w64 (by omega)
        simp only [if_neg hxy, hw, spec_l1Sign_eq, obind]
        refine Ev.some_ ?_
        simp only [cmpW, if_neg hxy]
        by_cases hlt : x < y
        · rw [if_neg (by omega), if_pos (by omega), if_pos hlt]
        · rw [if_pos (by omega), if_neg hlt]
theorem spec_lyCompare_ev (a b : List Int) (ha : ∀ x ∈ a, 0 ≤ x ∧ x ≤ 5) (hb : ∀ x ∈ b, 0 ≤ x ∧ x ≤ 5) (h1 : a.length ≤ 1000) (h2 : b.length ≤ 1000) : Ev (fun k => spec_lyCompare.f k a b) (cmpW a b) :=
  spec_lyCompare_loop a b [] [] rfl ha hb h1 h2

theorem spec_lyLeast_loop (w : List Int) (h : 0 < w.length) (hl : w.length ≤ 100) (hin : ∀ x ∈ w, 0 ≤ x ∧ x ≤ 5) (d : Nat) : ∀ b best : Nat, b + d = w.length → best < w.length →
    Ev (fun k => spec_lyLeast.l0 k w (best : Int) (b : Int)) ((leastF w d b best : Nat) : Int) := by
  induction d with
  | zero =>
    intro b best hb hbest
    have c1 : ¬ (b : Int) < (w.length : Int) := by omega
    refine Ev.done fun k => ?_
    simp only [spec_lyLeast.l0]
    rw [if_neg c1]
    rfl
  | succ d ih =>
    intro b best hb hbest
    have c1 : (b : Int) < (w.length : Int) := by omega
    have b1 : b ≤ 1099511627776 := by omega
    have hr1 := spec_lyRotate_ev w h (by omega) b (by omega)
    have hr2 := spec_lyRotate_ev w h (by omega) best (by omega)
    rw [Nat.mod_eq_of_lt (by omega)] at hr1
    rw [Nat.mod_eq_of_lt hbest] at hr2
    have hc := spec_lyCompare_ev (rotW w b) (rotW w best) (rotW_in hin b) (rotW_in hin best) (by rw [rotW_len]; omega) (by rw [rotW_len]; omega)
    refine Ev.succ ?_
    simp only [spec_lyLeast.l0]
    simp only [if_pos c1, i_up b1]
    refine Ev.bind hr1 (Ev.bind hr2 (Ev.bind hc ?_))
    unfold leastF
    by_cases hlt : cmpW (rotW w b) (rotW w best) < 0
    · simp only [if_pos hlt]
      exact ih (b + 1) b (by omega) (by omega)
    · simp only [if_neg hlt]
      exact ih (b + 1) best (by omega) hbest
theorem spec_lyLeast_ev (w : List Int) (h : 0 < w.length) (hl : w.length ≤ 100) (hin : ∀ x ∈ w, 0 ≤ x ∧ x ≤ 5) : Ev (fun k => spec_lyLeast.f k w) ((leastW w : Nat) : Int) :=
  spec_lyLeast_loop w h hl hin (w.length - 1) 1 0 (by omega) h

theorem beq_nat_zero (n : Nat) : (((n : Nat) : Int) == 0) = decide (n = 0) := by
  rw [Bool.eq_iff_iff, decide_eq_true_iff, beq_iff_eq]; omega
theorem spec_lyNecklace_ev (w : List Int) (h : 0 < w.length) (hl : w.length ≤ 100) (hin : ∀ x ∈ w, 0 ≤ x ∧ x ≤ 5) : Ev (fun k => spec_lyNecklace.f k w) (neckW w) := by
  unfold spec_lyNecklace.f
  refine Ev.bind (spec_lyLeast_ev w h hl hin) ?_
  exact Ev.some_ (beq_nat_zero _)

theorem spec_l1Same_loop (s : List Int) : ∀ (p q t : List Int) (n i : Int), t.length = s.length → q.length = p.length → n = ((p ++ s).length : Int) → i = (p.length : Int) → (p ++ s).length ≤ 1000 →
    Ev (fun k => spec_l1Same.l0 k (p ++ s) (q ++ t) n i) (decide (s = t)) := by
  induction s with
  | nil =>
    intro p q t n i ht hq hn hi hl
    have ht0 : t = [] := List.eq_nil_of_length_eq_zero ht
    subst ht0
    refine Ev.done fun k => ?_
    simp only [spec_l1Same.l0]
    rw [if_neg (by rw [len_nil] at hn; omega)]
    simp
  | cons x s ih =>
    intro p q t n i ht hq hn hi hl
    cases t with
    | nil => simp at ht
    | cons y t =>
      have ht' : t.length = s.length := by simpa using ht
      have h1 := len_mid p s x
      have h2 := len_mid q t y
      by_cases hxy : x = y
      · have := ih (p ++ [x]) (q ++ [y]) t n (i + 1) ht' (by simp [hq]) (by rw [← snoc_mid]; exact hn) (by rw [len_snoc]; omega) (by rw [← snoc_mid]; exact hl)
        rw [← snoc_mid, ← snoc_mid] at this
        refine Ev.to (Ev.step' this fun k => ?_) (by simp [hxy])
        simp only [spec_l1Same.l0]
        rw [if_pos (by omega), if_pos (by omega), if_pos (by omega), if_pos (by omega), rd_mid hi, rd_mid (by omega), if_pos hxy, w64 (by omega)]
      · refine Ev.to (Ev.done fun k => ?_) (show false = _ by simp [hxy])
        simp only [spec_l1Same.l0]
        rw [if_pos (by omega), if_pos (by omega), if_pos (by omega), if_pos (by omega), rd_mid hi, rd_mid (by omega), if_neg hxy]
theorem spec_l1Same_ev (l t : List Int) (hl : l.length ≤ 1000) : Ev (fun k => spec_l1Same.f k l t) (decide (l = t)) := by
  by_cases h : l.length = t.length
  · have := spec_l1Same_loop l [] [] t _ 0 h.symm rfl rfl (by simp) (by simpa using hl)
    simp only [List.nil_append] at this
    refine Ev.congr (fun k => ?_) this
    unfold spec_l1Same.f
    rw [if_pos (by omega)]
  · refine Ev.to (Ev.congr (fun k => ?_) (Ev.now false)) (by rw [decide_eq_false]; exact fun e => h (by rw [e]))
    unfold spec_l1Same.f
    rw [if_neg (by omega)]

theorem spec_lyRoot_loop (w : List Int) (h : 0 < w.length) (hl : w.length ≤ 100) (d : Nat) : ∀ p : Nat, 0 < p → p + d = w.length →
    Ev (fun k => spec_lyRoot.l0 k w (p : Int)) ((rootF w d p : Nat) : Int) := by
  induction d with
  | zero =>
    intro p hp hd
    have hpe : p = w.length := by omega
    have c1 : ¬ (p : Int) = 0 := by omega
    have c2 : (w.length : Int) % (p : Int) = 0 := by rw [hpe]; exact Int.emod_self
    have hr := spec_lyRotate_ev w h (by omega) p (by omega)
    rw [hpe, Nat.mod_self, rotW_zero, ← hpe] at hr
    have hq := spec_l1Same_ev w w (by omega)
    refine Ev.succ ?_
    simp only [spec_lyRoot.l0]
    simp only [if_neg c1, if_pos c2]
    refine Ev.bind hr (Ev.bind hq ?_)
    simp only [decide_true, if_true]
    exact Ev.now _
  | succ d ih =>
    intro p hp hd
    have c1 : ¬ (p : Int) = 0 := by omega
    have b1 : p ≤ 1099511627776 := by omega
    have hr := spec_lyRotate_ev w h (by omega) p (by omega)
    have hq := spec_l1Same_ev (rotW w (p % w.length)) w (by rw [rotW_len]; omega)
    have em : (w.length : Int) % (p : Int) = ((w.length % p : Nat) : Int) := rfl
    refine Ev.succ ?_
    simp only [spec_lyRoot.l0]
    simp only [if_neg c1, em, i_up b1]
    unfold rootF
    by_cases c2 : w.length % p = 0
    · have c3 : ((w.length % p : Nat) : Int) = 0 := by omega
      simp only [if_pos c3]
      refine Ev.bind hr (Ev.bind hq ?_)
      by_cases c4 : rotW w (p % w.length) = w
      · simp only [decide_eq_true c4, if_true, if_pos (show w.length % p = 0 ∧ rotW w (p % w.length) = w from ⟨c2, c4⟩)]
        exact Ev.now _
      · simp only [decide_eq_false c4, Bool.false_eq_true, if_false, if_neg (show ¬ (w.length % p = 0 ∧ rotW w (p % w.length) = w) from fun e => c4 e.2)]
        exact ih (p + 1) (by omega) (by omega)
    · have c3 : ¬ ((w.length % p : Nat) : Int) = 0 := by omega
      simp only [if_neg c3, if_neg (show ¬ (w.length % p = 0 ∧ rotW w (p % w.length) = w) from fun e => c2 e.1)]
      exact ih (p + 1) (by omega) (by omega)
theorem spec_lyRoot_ev (w : List Int) (h : 0 < w.length) (hl : w.length ≤ 100) : Ev (fun k => spec_lyRoot.f k w) ((rootW w : Nat) : Int) :=
  spec_lyRoot_loop w h hl (w.length - 1) 1 (by omega) (by omega)

theorem beq_nat_nat (n m : Nat) : (((n : Nat) : Int) == ((m : Nat) : Int)) = decide (n = m) := by
  rw [Bool.eq_iff_iff, decide_eq_true_iff, beq_iff_eq]; omega
theorem spec_lyLyndon_ev (w : List Int) (h : 0 < w.length) (hl : w.length ≤ 100) (hin : ∀ x ∈ w, 0 ≤ x ∧ x ≤ 5) : Ev (fun k => spec_lyLyndon.f k w) (lynW w) := by
  unfold spec_lyLyndon.f lynW
  refine Ev.bind (spec_lyNecklace_ev w h hl hin) ?_
  cases neckW w with
  | false => simp only [Bool.false_eq_true, if_false, Bool.false_and]; exact Ev.now _
  | true =>
    simp only [if_true, Bool.true_and]
    refine Ev.bind (spec_lyRoot_ev w h hl) ?_
    exact Ev.some_ (beq_nat_nat _ _)

theorem slices_Grow_some (n : Int) (h : 0 < n) (h' : n ≤ 1000000) : slices_Grow_int_int.f n = some [] := by
  unfold slices_Grow_int_int.f
  rw [if_pos h, if_pos (by omega)]
theorem slices_Concat_two (a b : List Int) (h : 0 < a.length + b.length) (hl : a.length + b.length ≤ 1000) : Ev (fun k => slices_Concat_int_int.f k [a, b]) (a ++ b) := by
  have e0 : rd_L2 [a, b] 0 = a := rfl
  have e1 : rd_L2 [a, b] 1 = b := rfl
  have w1 : wrap64 (0 + (a.length : Int)) = (a.length : Int) := by rw [w64 (by omega)]; omega
  have w2 : wrap64 ((a.length : Int) + (b.length : Int)) = ((a.length + b.length : Nat) : Int) := i_plus (by omega)
  have w3 : wrap64 ((0 : Int) + 1) = 1 := w64 (by omega)
  have w4 : wrap64 ((1 : Int) + 1) = 2 := w64 (by omega)
  have hg := slices_Grow_some ((a.length + b.length : Nat) : Int) (by omega) (by omega)
  have n1 : ¬ (a.length : Int) < 0 := by omega
  have n2 : ¬ ((a.length + b.length : Nat) : Int) < 0 := by omega
  have n3 : ([] : List Int).length + a.length < 17592186044416 := by simp; omega
  have n4 : ([] ++ a).length + b.length < 17592186044416 := by simp; omega
  have hlen : (([a, b] : List (List Int)).length : Int) = 2 := rfl
  unfold slices_Concat_int_int.f
  refine Ev.succ ?_
  simp only [slices_Concat_int_int.l0]
  simp only [hlen, if_pos (show (0 : Int) < 2 by decide), if_pos (show (0 : Int) ≤ 0 by decide), e0, w1, if_neg n1, w3]
  refine Ev.succ ?_
  simp only [slices_Concat_int_int.l0]
  simp only [hlen, if_pos (show (1 : Int) < 2 by decide), if_pos (show (0 : Int) ≤ 1 by decide), e1, w2, if_neg n2, w4]
  refine Ev.succ ?_
  simp only [slices_Concat_int_int.l0]
  simp only [hlen, if_neg (show ¬ (2 : Int) < 2 by decide), hg, obind]
  refine Ev.succ ?_
  simp only [slices_Concat_int_int.l1]
  simp only [hlen, if_pos (show (0 : Int) < 2 by decide), if_pos (show (0 : Int) ≤ 0 by decide), e0, if_pos n3, w3]
  refine Ev.succ ?_
  simp only [slices_Concat_int_int.l1]
  simp only [hlen, if_pos (show (1 : Int) < 2 by decide), if_pos (show (0 : Int) ≤ 1 by decide), e1, if_pos n4, w4]
  refine Ev.succ ?_
  simp only [slices_Concat_int_int.l1]
  simp only [hlen, if_neg (show ¬ (2 : Int) < 2 by decide)]
  exact Ev.some_ (by simp)
theorem impl_rotated_ev (w : List Int) (h : 0 < w.length) (hl : w.length ≤ 1000) (b : Int) : Ev (fun k => impl_rotated.f k w b) (rotW w (turnN b w.length % w.length)) := by
  have hp := turnN_pos (b := b) h
  have ht : Int.tmod b (w.length : Int) + (w.length : Int) = ((turnN b w.length : Nat) : Int) := by unfold turnN; omega
  have hm := Nat.mod_lt (turnN b w.length) h
  have e0 : Int.tmod ((turnN b w.length : Nat) : Int) (w.length : Int) = ((turnN b w.length % w.length : Nat) : Int) := rfl
  have hw : wrap64 ((turnN b w.length : Nat) : Int) = ((turnN b w.length : Nat) : Int) := w64 (by omega)
  unfold impl_rotated.f
  generalize turnN b w.length % w.length = j at hm e0
  have c1 : ¬ (w.length : Int) = 0 := by omega
  have c2 : 0 ≤ (j : Int) := by omega
  have c3 : (j : Int) ≤ (w.length : Int) := by omega
  have hc := slices_Concat_two (w.drop j) (w.take j) (by simp; omega) (by simp; omega)
  simp only [if_neg c1, ht, hw, e0, if_pos c2, if_pos c3, Int.toNat_natCast]
  refine Ev.bind hc ?_
  exact Ev.now _

theorem cmp_Compare_eq (a b : Int) : cmp_Compare_int.f a b = some (if a < b then -1 else if a > b then 1 else 0) := by
  unfold cmp_Compare_int.f cmp_isNaN_int.f
  simp only [bne_self_eq_false, obind, Bool.false_eq_true, if_false]
  split
  · rfl
  · split <;> rfl
theorem slices_Compare_loop (s : List Int) : ∀ (t p q : List Int), p.length = q.length → (p ++ s).length ≤ 1000 → (q ++ t).length ≤ 1000 →
    Ev (fun k => slices_Compare_int_int.l0 k (p ++ s) (q ++ t) (p ++ s) ((p ++ s).length : Int) (p.length : Int)) (cmpW s t) := by
  induction s with
  | nil =>
    intro t p q hpq hl1 hl2
    have c1 : ¬ (p.length : Int) < ((p ++ ([] : List Int)).length : Int) := by rw [len_nil]; omega
    refine Ev.succ ?_
    simp only [slices_Compare_int_int.l0]
    simp only [if_neg c1]
    cases t with
    | nil =>
      have c2 : ¬ ((p ++ ([] : List Int)).length : Int) < ((q ++ ([] : List Int)).length : Int) := by rw [len_nil, len_nil]; omega
      simp only [if_neg c2]
      exact Ev.now _
    | cons y t =>
      have c2 : ((p ++ ([] : List Int)).length : Int) < ((q ++ y :: t).length : Int) := by rw [len_nil, len_mid]; omega
      simp only [if_pos c2]
      exact Ev.now _
  | cons x s ih =>
    intro t p q hpq hl1 hl2
    have h1 := len_mid p s x
    have c1 : (p.length : Int) < ((p ++ x :: s).length : Int) := by omega
    have c3 : 0 ≤ (p.length : Int) := by omega
    have e0 : rd (p ++ x :: s) (p.length : Int) = x := rd_mid rfl
    have c5 : p.length ≤ 1099511627776 := by omega
    refine Ev.succ ?_
    simp only [slices_Compare_int_int.l0]
    simp only [if_pos c1, if_pos c3]
    cases t with
    | nil =>
      have c2 : (p.length : Int) ≥ ((q ++ ([] : List Int)).length : Int) := by rw [len_nil]; omega
      simp only [if_pos c2]
      exact Ev.now _
    | cons y t =>
      have h2 := len_mid q t y
      have c2 : ¬ (p.length : Int) ≥ ((q ++ y :: t).length : Int) := by omega
      have c4 : (p.length : Int) < ((q ++ y :: t).length : Int) := by omega
      have e1 : rd (q ++ y :: t) (p.length : Int) = y := rd_mid (by omega)
      simp only [if_neg c2, if_pos c4, e0, e1, cmp_Compare_eq, obind]
      by_cases hxy : x = y
      · have hc : (if x < y then (-1 : Int) else if x > y then 1 else 0) = 0 := by rw [if_neg (by omega), if_neg (by omega)]
        simp only [hc, if_true, i_succ (out := p) (x := x) c5]
        have := ih t (p ++ [x]) (q ++ [y]) (by simp [hpq]) (by rw [← snoc_mid]; exact hl1) (by rw [← snoc_mid]; exact hl2)
        rw [← snoc_mid, ← snoc_mid] at this
        refine Ev.to this ?_
        simp [cmpW, hxy]
      · by_cases hlt : x < y
        · simp only [if_pos hlt, if_neg (show ¬ (-1 : Int) = 0 by decide)]
          exact Ev.some_ (by simp only [cmpW, if_neg hxy, if_pos hlt])
        · have hgt : x > y := by omega
          simp only [if_neg hlt, if_pos hgt, if_neg (show ¬ (1 : Int) = 0 by decide)]
          exact Ev.some_ (by simp only [cmpW, if_neg hxy, if_neg hlt])
theorem slices_Compare_ev (a b : List Int) (h1 : a.length ≤ 1000) (h2 : b.length ≤ 1000) : Ev (fun k => slices_Compare_int_int.f k a b) (cmpW a b) :=
  slices_Compare_loop a b [] [] rfl h1 h2

theorem impl_leastRotation_loop (w : List Int) (h : 0 < w.length) (hl : w.length ≤ 100) (d : Nat) : ∀ b best : Nat, b + d = w.length → best < w.length →
    Ev (fun k => impl_leastRotation.l0 k w (best : Int) (rotW w best) (b : Int)) (((leastF w d b best : Nat) : Int), rotW w (leastF w d b best)) := by
  induction d with
  | zero =>
    intro b best hb hbest
    have c1 : ¬ (b : Int) < (w.length : Int) := by omega
    refine Ev.done fun k => ?_
    simp only [impl_leastRotation.l0]
    rw [if_neg c1]
    rfl
  | succ d ih =>
    intro b best hb hbest
    have c1 : (b : Int) < (w.length : Int) := by omega
    have b1 : b ≤ 1099511627776 := by omega
    have hr1 := impl_rotated_ev w h (by omega) (b : Int)
    rw [turnN_nat h, Nat.mod_eq_of_lt (by omega)] at hr1
    have hc := slices_Compare_ev (rotW w b) (rotW w best) (by rw [rotW_len]; omega) (by rw [rotW_len]; omega)
    refine Ev.succ ?_
    simp only [impl_leastRotation.l0]
    simp only [if_pos c1, i_up b1]
    refine Ev.bind hr1 (Ev.bind hc ?_)
    unfold leastF
    by_cases hlt : cmpW (rotW w b) (rotW w best) < 0
    · simp only [if_pos hlt]
      exact ih (b + 1) b (by omega) (by omega)
    · simp only [if_neg hlt]
      exact ih (b + 1) best (by omega) hbest
theorem impl_copied_eq (l : List Int) (hl : l.length ≤ 1000000) : impl_copied.f l = some l := by
  unfold impl_copied.f
  rw [obind, if_pos (by simp; omega), List.nil_append]
theorem impl_leastRotation_ev (w : List Int) (h : 0 < w.length) (hl : w.length ≤ 100) : Ev (fun k => impl_leastRotation.f k w) (((leastW w : Nat) : Int), rotW w (leastW w)) := by
  unfold impl_leastRotation.f
  have hc := impl_copied_eq w (by omega)
  simp only [hc, obind]
  have := impl_leastRotation_loop w h hl (w.length - 1) 1 0 (by omega) h
  rw [rotW_zero] at this
  exact this

theorem impl_isNecklace_ev (w : List Int) (h : 0 < w.length) (hl : w.length ≤ 100) : Ev (fun k => impl_isNecklace.f k w) (neckW w) := by
  unfold impl_isNecklace.f
  refine Ev.bind (impl_leastRotation_ev w h hl) ?_
  exact Ev.some_ (beq_nat_zero _)

theorem slices_Equal_int_int_loop (s : List Int) : ∀ (p q t : List Int) (n i : Int), t.length = s.length → q.length = p.length → n = ((p ++ s).length : Int) → i = (p.length : Int) → (p ++ s).length ≤ 1000 →
    Ev (fun k => slices_Equal_int_int.l0 k (p ++ s) (q ++ t) n i) (decide (s = t)) := by
  induction s with
  | nil =>
    intro p q t n i ht hq hn hi hl
    have ht0 : t = [] := List.eq_nil_of_length_eq_zero ht
    subst ht0
    refine Ev.done fun k => ?_
    simp only [slices_Equal_int_int.l0]
    rw [if_neg (by rw [len_nil] at hn; omega)]
    simp
  | cons x s ih =>
    intro p q t n i ht hq hn hi hl
    cases t with
    | nil => simp at ht
    | cons y t =>
      have ht' : t.length = s.length := by simpa using ht
      have h1 := len_mid p s x
      have h2 := len_mid q t y
      by_cases hxy : x = y
      · have := ih (p ++ [x]) (q ++ [y]) t n (i + 1) ht' (by simp [hq]) (by rw [← snoc_mid]; exact hn) (by rw [len_snoc]; omega) (by rw [← snoc_mid]; exact hl)
        rw [← snoc_mid, ← snoc_mid] at this
        refine Ev.to (Ev.step' this fun k => ?_) (by simp [hxy])
        simp only [slices_Equal_int_int.l0]
        rw [if_pos (by omega), if_pos (by omega), if_pos (by omega), if_pos (by omega), rd_mid hi, rd_mid (by omega), if_pos hxy, w64 (by omega)]
      · refine Ev.to (Ev.done fun k => ?_) (show false = _ by simp [hxy])
        simp only [slices_Equal_int_int.l0]
        rw [if_pos (by omega), if_pos (by omega), if_pos (by omega), if_pos (by omega), rd_mid hi, rd_mid (by omega), if_neg hxy]
theorem slices_Equal_int_int_ev (l t : List Int) (hl : l.length ≤ 1000) : Ev (fun k => slices_Equal_int_int.f k l t) (decide (l = t)) := by
  by_cases h : l.length = t.length
  · have := slices_Equal_int_int_loop l [] [] t _ 0 h.symm rfl rfl (by simp) (by simpa using hl)
    simp only [List.nil_append] at this
    refine Ev.congr (fun k => ?_) this
    unfold slices_Equal_int_int.f
    rw [if_pos (by omega)]
  · refine Ev.to (Ev.congr (fun k => ?_) (Ev.now false)) (by rw [decide_eq_false]; exact fun e => h (by rw [e]))
    unfold slices_Equal_int_int.f
    rw [if_neg (by omega)]

theorem impl_rootLength_loop (w : List Int) (h : 0 < w.length) (hl : w.length ≤ 100) (d : Nat) : ∀ p : Nat, 0 < p → p + d = w.length →
    Ev (fun k => impl_rootLength.l0 k w (p : Int)) ((rootF w d p : Nat) : Int) := by
  induction d with
  | zero =>
    intro p hp hd
    have hpe : p = w.length := by omega
    have c1 : ¬ (p : Int) = 0 := by omega
    have c2 : (w.length : Int) % (p : Int) = 0 := by rw [hpe]; exact Int.emod_self
    have hr := impl_rotated_ev w h (by omega) (p : Int)
    rw [turnN_nat h] at hr
    rw [hpe, Nat.mod_self, rotW_zero, ← hpe] at hr
    have hq := slices_Equal_int_int_ev w w (by omega)
    refine Ev.succ ?_
    simp only [impl_rootLength.l0]
    simp only [if_neg c1, if_pos c2]
    refine Ev.bind hr (Ev.bind hq ?_)
    simp only [decide_true, if_true]
    exact Ev.now _
  | succ d ih =>
    intro p hp hd
    have c1 : ¬ (p : Int) = 0 := by omega
    have b1 : p ≤ 1099511627776 := by omega
    have hr := impl_rotated_ev w h (by omega) (p : Int)
    rw [turnN_nat h] at hr
    have hq := slices_Equal_int_int_ev (rotW w (p % w.length)) w (by rw [rotW_len]; omega)
    have em : (w.length : Int) % (p : Int) = ((w.length % p : Nat) : Int) := rfl
    refine Ev.succ ?_
    simp only [impl_rootLength.l0]
    simp only [if_neg c1, em, i_up b1]
    unfold rootF
    by_cases c2 : w.length % p = 0
    · have c3 : ((w.length % p : Nat) : Int) = 0 := by omega
      simp only [if_pos c3]
      refine Ev.bind hr (Ev.bind hq ?_)
      by_cases c4 : rotW w (p % w.length) = w
      · simp only [decide_eq_true c4, if_true, if_pos (show w.length % p = 0 ∧ rotW w (p % w.length) = w from ⟨c2, c4⟩)]
        exact Ev.now _
      · simp only [decide_eq_false c4, Bool.false_eq_true, if_false, if_neg (show ¬ (w.length % p = 0 ∧ rotW w (p % w.length) = w) from fun e => c4 e.2)]
        exact ih (p + 1) (by omega) (by omega)
    · have c3 : ¬ ((w.length % p : Nat) : Int) = 0 := by omega
      simp only [if_neg c3, if_neg (show ¬ (w.length % p = 0 ∧ rotW w (p % w.length) = w) from fun e => c2 e.1)]
      exact ih (p + 1) (by omega) (by omega)
theorem impl_rootLength_ev (w : List Int) (h : 0 < w.length) (hl : w.length ≤ 100) : Ev (fun k => impl_rootLength.f k w) ((rootW w : Nat) : Int) :=
  impl_rootLength_loop w h hl (w.length - 1) 1 (by omega) (by omega)

theorem impl_isLyndon_ev (w : List Int) (h : 0 < w.length) (hl : w.length ≤ 100) : Ev (fun k => impl_isLyndon.f k w) (lynW w) := by
  unfold impl_isLyndon.f lynW
  refine Ev.bind (impl_isNecklace_ev w h hl) ?_
  cases neckW w with
  | false => simp only [Bool.false_eq_true, if_false, Bool.false_and]; exact Ev.now _
  | true =>
    simp only [if_true, Bool.true_and]
    refine Ev.bind (impl_rootLength_ev w h hl) ?_
    exact Ev.some_ (beq_nat_nat _ _)

theorem lynW_last {w : List Int} {n : Nat} (h : n + 1 = w.length) : lynW (w.drop n) = true := by
  obtain ⟨x, hx⟩ : ∃ x, w.drop n = [x] := List.length_eq_one_iff.1 (by simp; omega)
  rw [hx]; exact lynW_one x
theorem spec_lyHalf_loop (w : List Int) (hl : w.length ≤ 100) (hin : ∀ x ∈ w, 0 ≤ x ∧ x ≤ 5) (d : Nat) : ∀ n : Nat, n + d + 1 = w.length →
    Ev (fun k => spec_lyHalf.l0 k w (n : Int)) ((halfF w d n : Nat) : Int) := by
  induction d with
  | zero =>
    intro n hn
    have hy := spec_lyLyndon_ev (w.drop n) (by simp; omega) (by simp; omega) (fun x hx => hin x (List.mem_of_mem_drop hx))
    rw [lynW_last (by omega)] at hy
    refine Ev.succ ?_
    simp only [spec_lyHalf.l0]
    simp only [if_pos (show 0 ≤ (n : Int) by omega), if_pos (show (n : Int) ≤ (w.length : Int) by omega), Int.toNat_natCast]
    refine Ev.bind hy ?_
    exact Ev.now _
  | succ d ih =>
    intro n hn
    have hy := spec_lyLyndon_ev (w.drop n) (by simp; omega) (by simp; omega) (fun x hx => hin x (List.mem_of_mem_drop hx))
    refine Ev.succ ?_
    simp only [spec_lyHalf.l0]
    simp only [if_pos (show 0 ≤ (n : Int) by omega), if_pos (show (n : Int) ≤ (w.length : Int) by omega), Int.toNat_natCast]
    refine Ev.bind hy ?_
    unfold halfF
    cases lynW (w.drop n) with
    | true => simp only [if_true]; exact Ev.now _
    | false =>
      simp only [Bool.false_eq_true, if_false, i_up (show n ≤ 1099511627776 by omega)]
      exact ih (n + 1) (by omega)
theorem spec_lyHalf_ev (w : List Int) (h : 2 ≤ w.length) (hl : w.length ≤ 100) (hin : ∀ x ∈ w, 0 ≤ x ∧ x ≤ 5) : Ev (fun k => spec_lyHalf.f k w) ((halfW w : Nat) : Int) := by
  unfold spec_lyHalf.f halfW
  exact spec_lyHalf_loop w hl hin _ 1 (by omega)

theorem impl_standard_loop (w : List Int) (hl : w.length ≤ 100) (d : Nat) : ∀ n : Nat, n + d + 1 = w.length →
    Ev (fun k => impl_standard.l0 k w (n : Int)) ((halfF w d n : Nat) : Int) := by
  induction d with
  | zero =>
    intro n hn
    have hy := impl_isLyndon_ev (w.drop n) (by simp; omega) (by simp; omega)
    rw [lynW_last (by omega)] at hy
    refine Ev.succ ?_
    simp only [impl_standard.l0]
    simp only [if_pos (show 0 ≤ (n : Int) by omega), if_pos (show (n : Int) ≤ (w.length : Int) by omega), Int.toNat_natCast]
    refine Ev.bind hy ?_
    exact Ev.now _
  | succ d ih =>
    intro n hn
    have hy := impl_isLyndon_ev (w.drop n) (by simp; omega) (by simp; omega)
    refine Ev.succ ?_
    simp only [impl_standard.l0]
    simp only [if_pos (show 0 ≤ (n : Int) by omega), if_pos (show (n : Int) ≤ (w.length : Int) by omega), Int.toNat_natCast]
    refine Ev.bind hy ?_
    unfold halfF
    cases lynW (w.drop n) with
    | true => simp only [if_true]; exact Ev.now _
    | false =>
      simp only [Bool.false_eq_true, if_false, i_up (show n ≤ 1099511627776 by omega)]
      exact ih (n + 1) (by omega)
theorem impl_standard_ev (w : List Int) (h : 2 ≤ w.length) (hl : w.length ≤ 100) : Ev (fun k => impl_standard.f k w) ((halfW w : Nat) : Int) := by
  unfold impl_standard.f halfW
  exact impl_standard_loop w hl _ 1 (by omega)

theorem impl_wordText_loop (s : List Int) : ∀ (p out : List Int) (n i : Int), (∀ x ∈ s, 0 ≤ x ∧ x ≤ 5) → out.length = p.length → n = ((p ++ s).length : Int) → i = (p.length : Int) → (p ++ s).length ≤ 1073741824 →
    Ev (fun k => impl_wordText.l0 k out (p ++ s) n i) (strOfNums (out ++ s.map fun x => 48 + x)) := by
  induction s with
  | nil =>
    intro p out n i hs ho hn hi hl
    refine Ev.to (Ev.done fun k => ?_) (show strOfNums out = _ by simp)
    simp only [impl_wordText.l0]
    rw [if_neg (by rw [len_nil] at hn; omega)]
  | cons x s ih =>
    intro p out n i hs ho hn hi hl
    have h1 := len_mid p s x
    have hx := hs x (List.mem_cons_self ..)
    have := ih (p ++ [x]) (out ++ [48 + x]) n (i + 1) (fun y hy => hs y (List.mem_cons_of_mem _ hy)) (by simp [ho]) (by rw [← snoc_mid]; exact hn) (by rw [len_snoc]; omega) (by rw [← snoc_mid]; exact hl)
    rw [← snoc_mid] at this
    refine Ev.to (Ev.step' this fun k => ?_) (by simp)
    simp only [impl_wordText.l0]
    rw [if_pos (by omega), if_pos (by omega), if_pos (by omega), if_pos (by omega), rd_mid hi, w64 (n := i + 1) (by omega), show (48 + x) % 256 = 48 + x by omega]
theorem impl_wordText_ev (l : List Int) (hs : ∀ x ∈ l, 0 ≤ x ∧ x ≤ 5) (hl : l.length ≤ 1073741824) : Ev (fun k => impl_wordText.f k l) (strOfNums (l.map fun x => 48 + x)) :=
  Ev.to (impl_wordText_loop l [] [] _ 0 hs rfl rfl (by simp) (by simpa using hl)) (by simp)

theorem spec_l1Num_digit (x : Int) (h : 0 ≤ x ∧ x ≤ 5) (k : Nat) : spec_l1Num.f (k + 1) x = some (strOfNums [48 + x]) := by
  simp only [spec_l1Num.f]
  rw [if_pos (by omega), w64 (by omega), show (48 + x) % 256 = 48 + x by omega]
theorem spec_lyBrackets_ev (d : Nat) : ∀ w : List Int, 1 ≤ w.length → w.length ≤ d → w.length ≤ 100 → (∀ x ∈ w, 0 ≤ x ∧ x ≤ 5) → Ev (fun k => spec_lyBrackets.f k w) (brkF d w) := by
  induction d with
  | zero => intro w h1 h2; omega
  | succ d ih =>
    intro w h1 h2 hl hin
    refine Ev.succ ?_
    simp only [spec_lyBrackets.f]
    unfold brkF
    by_cases h : w.length = 1
    · obtain ⟨x, rfl⟩ := List.length_eq_one_iff.1 h
      have hx := hin x (List.mem_singleton.2 rfl)
      have c1 : ((([x] : List Int).length : Nat) : Int) = 1 := rfl
      have c2 : (0 : Int) < 1 := by decide
      have e : rd [x] 0 = x := rfl
      rw [if_pos h]
      simp only [c1, if_true, if_pos c2, e]
      refine Ev.done fun k => ?_
      rw [spec_l1Num_digit x hx, obind]
      rfl
    · have c1 : ¬ (w.length : Int) = 1 := by omega
      obtain ⟨a1, a2⟩ := halfW_in (w := w) (by omega)
      have hh := spec_lyHalf_ev w (by omega) hl hin
      have e1 := ih (w.take (halfW w)) (by simp; omega) (by simp; omega) (by simp; omega) (fun x hx => hin x (List.mem_of_mem_take hx))
      have e2 := ih (w.drop (halfW w)) (by simp; omega) (by simp; omega) (by simp; omega) (fun x hx => hin x (List.mem_of_mem_drop hx))
      have s1 := brkF_size d (w.take (halfW w)) (by simp; omega) (by simp; omega)
      have s2 := brkF_size d (w.drop (halfW w)) (by simp; omega) (by simp; omega)
      simp only [List.length_take, List.length_drop] at s1 s2
      rw [if_neg h]
      simp only [if_neg c1]
      refine Ev.bind hh ?_
      simp only [if_pos (show 0 ≤ ((halfW w : Nat) : Int) by omega), if_pos (show ((halfW w : Nat) : Int) ≤ (w.length : Int) by omega), Int.toNat_natCast]
      refine Ev.bind e1 ?_
      generalize brkF d (w.take (halfW w)) = t at s1
      simp only [if_pos (show 1 + t.size ≤ 9223372036854775807 by omega), if_pos (show 1 + t.size + 1 ≤ 9223372036854775807 by omega)]
      refine Ev.bind e2 ?_
      generalize brkF d (w.drop (halfW w)) = u at s2
      simp only [if_pos (show 1 + t.size + 1 + u.size ≤ 9223372036854775807 by omega), if_pos (show 1 + t.size + 1 + u.size + 1 ≤ 9223372036854775807 by omega)]
      exact Ev.now _
theorem impl_bracketText_ev (d : Nat) : ∀ w : List Int, 1 ≤ w.length → w.length ≤ d → w.length ≤ 100 → (∀ x ∈ w, 0 ≤ x ∧ x ≤ 5) → Ev (fun k => impl_bracketText.f k w) (brkF d w) := by
  induction d with
  | zero => intro w h1 h2; omega
  | succ d ih =>
    intro w h1 h2 hl hin
    refine Ev.succ ?_
    simp only [impl_bracketText.f]
    unfold brkF
    by_cases h : w.length = 1
    · have c1 : (w.length : Int) = 1 := by omega
      rw [if_pos h]
      simp only [if_pos c1]
      refine Ev.bind (impl_wordText_ev w hin (by omega)) ?_
      exact Ev.now _
    · have c1 : ¬ (w.length : Int) = 1 := by omega
      obtain ⟨a1, a2⟩ := halfW_in (w := w) (by omega)
      have hh := impl_standard_ev w (by omega) hl
      have e1 := ih (w.take (halfW w)) (by simp; omega) (by simp; omega) (by simp; omega) (fun x hx => hin x (List.mem_of_mem_take hx))
      have e2 := ih (w.drop (halfW w)) (by simp; omega) (by simp; omega) (by simp; omega) (fun x hx => hin x (List.mem_of_mem_drop hx))
      have s1 := brkF_size d (w.take (halfW w)) (by simp; omega) (by simp; omega)
      have s2 := brkF_size d (w.drop (halfW w)) (by simp; omega) (by simp; omega)
      simp only [List.length_take, List.length_drop] at s1 s2
      rw [if_neg h]
      simp only [if_neg c1]
      refine Ev.bind hh ?_
      simp only [if_pos (show 0 ≤ ((halfW w : Nat) : Int) by omega), if_pos (show ((halfW w : Nat) : Int) ≤ (w.length : Int) by omega), Int.toNat_natCast]
      refine Ev.bind e1 ?_
      generalize brkF d (w.take (halfW w)) = t at s1
      simp only [if_pos (show 1 + t.size ≤ 9223372036854775807 by omega), if_pos (show 1 + t.size + 1 ≤ 9223372036854775807 by omega)]
      refine Ev.bind e2 ?_
      generalize brkF d (w.drop (halfW w)) = u at s2
      simp only [if_pos (show 1 + t.size + 1 + u.size ≤ 9223372036854775807 by omega), if_pos (show 1 + t.size + 1 + u.size + 1 ≤ 9223372036854775807 by omega)]
      exact Ev.now _
def brkR (l : List Int) : ByteArray × Bool := if (isW l && lynW l) = true then (brkW l, true) else (⟨#[]⟩, false)
theorem spec_BracketText_ev (l : List Int) (hl : l.length ≤ 1099511627776) : Ev (fun k => spec_BracketText.f k l) (brkR l) := by
  unfold spec_BracketText.f brkR
  refine Ev.bind (spec_lyWord_ev l hl) ?_
  cases hw : isW l with
  | false => simp only [Bool.false_eq_true, if_false, Bool.false_and]; exact Ev.now _
  | true =>
    obtain ⟨⟨w1, w2⟩, w3⟩ := isW_true hw
    simp only [if_true, Bool.true_and]
    refine Ev.bind (spec_lyLyndon_ev l (by omega) (by omega) w3) ?_
    cases hy : lynW l with
    | false => simp only [Bool.false_eq_true, if_false]; exact Ev.now _
    | true =>
      simp only [if_true]
      refine Ev.bind (spec_lyBrackets_ev l.length l (by omega) (Nat.le_refl _) (by omega) w3) ?_
      exact Ev.now _
theorem impl_BracketText_ev (l : List Int) (hl : l.length ≤ 1099511627776) : Ev (fun k => impl_BracketText.f k l) (brkR l) := by
  unfold impl_BracketText.f brkR
  refine Ev.bind (impl_IsWord_ev l hl) ?_
  cases hw : isW l with
  | false => simp only [Bool.false_eq_true, if_false, Bool.false_and]; exact Ev.now _
  | true =>
    obtain ⟨⟨w1, w2⟩, w3⟩ := isW_true hw
    simp only [if_true, Bool.true_and]
    refine Ev.bind (impl_isLyndon_ev l (by omega) (by omega)) ?_
    cases hy : lynW l with
    | false => simp only [Bool.false_eq_true, if_false]; exact Ev.now _
    | true =>
      simp only [if_true]
      refine Ev.bind (impl_bracketText_ev l.length l (by omega) (Nat.le_refl _) (by omega) w3) ?_
      exact Ev.now _

theorem FnExactBracketText : laws_FnExactBracketText.Pure := by
  intro l _ hl _
  unfold laws_FnExactBracketText.f
  by_cases hbig : (l.length : Int) > 1048576
  · exact ⟨0, by rw [if_pos hbig]⟩
  simp only [if_neg hbig]
  have hl' : l.length ≤ 1099511627776 := by omega
  have ht := laws_toIntS_ev l hl'
  have he := laws_eqIntS_ev l l hl'
  have hs := spec_BracketText_ev l hl'
  have hi := impl_BracketText_ev l hl'
  refine (Ev.bind ht (Ev.bind hs (Ev.bind ht (Ev.bind hi ?_)))).rounds
  simp only [bne_self_eq_false, if_true]
  refine Ev.succ ?_
  simp only [laws_FnExactBracketText.j0, Bool.false_eq_true, if_false]
  refine Ev.bind ht (Ev.bind he ?_)
  simp only [decide_true, if_true]
  exact Ev.now _

end Go.Proofs.Ytmcmglclgdgdnaa.Pure
