/- The program's GrowthOfWord returns what the reference's returns, for every list of whole numbers that takes at most 2^47 - 4096 bytes. -/
import Derived.Test.YtlondmhiccikpaaHFnExactGrowthOfWordx4
import Derived.Test.YtlondmhiccikpaaCoreA
import Derived.Test.YtlondmhiccikpaaCoreB
import Derived.Test.YtlondmhiccikpaaCoreGw
namespace Go.Proofs.Ytlondmhiccikpaa.Pure
open Go.RowKit Go.Proofs.Ytlondmhiccikpaa.HFnExactGrowthOfWord Go.Proofs.YtlondmhiccikpaaW.PrintWords Go.Proofs.YtlondmhiccikpaaW.PrintLast Go.Proofs.YtlondmhiccikpaaW.PrintMore Go.Proofs.Ytlondmhiccikpaa.Core
set_option linter.unusedVariables false
set_option linter.unusedSimpArgs false

theorem laws_toIntS_loop (s : List Int) : ∀ (p q : List Int) (i : Int), q.length = s.length → i = (p.length : Int) → (p ++ s).length ≤ 1099511627776 →
    Ev (fun k => laws_toIntS.l0 k (p ++ s) (p ++ q) i) (p ++ s) := by
  induction s with
  | nil =>
    intro p q i hq hi hl
    have hq0 : q = [] := List.eq_nil_of_length_eq_zero hq
    subst hq0
    refine Ev.done fun k => ?_
    simp only [laws_toIntS.l0]
    rw [if_neg (by rw [len_nil]; omega)]
  | cons x s ih =>
    intro p q i hq hi hl
    cases q with
    | nil => simp at hq
    | cons y q =>
      have hq' : q.length = s.length := by simpa using hq
      have h1 := len_mid p s x
      have h2 := len_mid p q y
      have := ih (p ++ [x]) q (i + 1) hq' (by rw [len_snoc]; omega) (by rw [← snoc_mid]; exact hl)
      rw [← snoc_mid, ← snoc_mid] at this
      refine Ev.step' this fun k => ?_
      simp only [laws_toIntS.l0]
      rw [if_pos (by omega), if_pos (by omega), if_pos (by omega), rd_mid hi, set_mid hi, w64 (by omega)]
theorem laws_toIntS_ev (l : List Int) (hl : l.length ≤ 1099511627776) : Ev (fun k => laws_toIntS.f k l) l := by
  have := laws_toIntS_loop l [] (List.replicate l.length 0) 0 (by simp) (by simp) (by simpa using hl)
  simp only [List.nil_append] at this
  refine Ev.congr (fun k => ?_) this
  unfold laws_toIntS.f
  rw [if_pos (by omega), if_pos (by omega)]
  simp only [Int.toNat_natCast]

theorem laws_eqIntS_loop (s : List Int) : ∀ (p q t : List Int) (i : Int), t.length = s.length → q.length = p.length → i = (p.length : Int) → (p ++ s).length ≤ 1099511627776 →
    Ev (fun k => laws_eqIntS.l0 k (p ++ s) (q ++ t) i) (decide (s = t)) := by
  induction s with
  | nil =>
    intro p q t i ht hq hi hl
    have ht0 : t = [] := List.eq_nil_of_length_eq_zero ht
    subst ht0
    refine Ev.done fun k => ?_
    simp only [laws_eqIntS.l0]
    rw [if_neg (by rw [len_nil]; omega)]
    simp
  | cons x s ih =>
    intro p q t i ht hq hi hl
    cases t with
    | nil => simp at ht
    | cons y t =>
      have ht' : t.length = s.length := by simpa using ht
      have h1 := len_mid p s x
      have h2 := len_mid q t y
      by_cases hxy : x = y
      · have := ih (p ++ [x]) (q ++ [y]) t (i + 1) ht' (by simp [hq]) (by rw [len_snoc]; omega) (by rw [← snoc_mid]; exact hl)
        rw [← snoc_mid, ← snoc_mid] at this
        refine Ev.to (Ev.step' this fun k => ?_) (by simp [hxy])
        simp only [laws_eqIntS.l0]
        rw [if_pos (by omega), if_pos (by omega), if_pos (by omega), rd_mid hi, rd_mid (by omega), if_pos hxy, w64 (by omega)]
      · refine Ev.to (Ev.done fun k => ?_) (show false = _ by simp [hxy])
        simp only [laws_eqIntS.l0]
        rw [if_pos (by omega), if_pos (by omega), if_pos (by omega), rd_mid hi, rd_mid (by omega), if_neg hxy]
theorem laws_eqIntS_ev (l t : List Int) (hl : l.length ≤ 1099511627776) : Ev (fun k => laws_eqIntS.f k l t) (decide (l = t)) := by
  by_cases h : l.length = t.length
  · have := laws_eqIntS_loop l [] [] t 0 h.symm rfl (by simp) (by simpa using hl)
    simp only [List.nil_append] at this
    refine Ev.congr (fun k => ?_) this
    unfold laws_eqIntS.f
    rw [if_pos (by omega)]
  · refine Ev.to (Ev.congr (fun k => ?_) (Ev.now false)) (by rw [decide_eq_false]; exact fun e => h (by rw [e]))
    unfold laws_eqIntS.f
    rw [if_neg (by omega)]

theorem laws_markIntS_loop (s : List Int) : ∀ (p : List Int) (m i : Int), 0 ≤ m → m + s.length ≤ 1099511627776 → i = (p.length : Int) → (p ++ s).length ≤ 1099511627776 →
    Ev (fun k => laws_markIntS.l0 k (p ++ s) m i) (m + s.length, p ++ upFrom m s.length) := by
  induction s with
  | nil =>
    intro p m i hm hm' hi hl
    refine Ev.to (Ev.done fun k => ?_) (show (m, p ++ []) = _ by simp [upFrom])
    simp only [laws_markIntS.l0]
    rw [if_neg (by rw [len_nil]; omega)]
  | cons x s ih =>
    intro p m i hm hm' hi hl
    have h1 := len_mid p s x
    have h2 : (((x :: s).length : Nat) : Int) = s.length + 1 := by simp
    have h3 : (p ++ m :: s).length = (p ++ x :: s).length := by simp
    have := ih (p ++ [m]) (m + 1) (i + 1) (by omega) (by omega) (by rw [len_snoc]; omega) (by rw [← snoc_mid, h3]; exact hl)
    rw [← snoc_mid] at this
    refine Ev.to (Ev.step' this fun k => ?_) (by rw [h2, ← snoc_mid]; simp only [List.length_cons, upFrom]; congr 1; omega)
    simp only [laws_markIntS.l0]
    rw [if_pos (by omega), if_pos (by omega), set_mid hi, w64 (by omega), w64 (by omega)]
theorem laws_markIntS_ev (l : List Int) (hl : l.length ≤ 109951162777) : Ev (fun k => laws_markIntS.f k l 1) (1 + l.length, upFrom 1 l.length) :=
  laws_markIntS_loop l [] 1 0 (by omega) (by omega) (by simp) (by simp; omega)

theorem laws_heldIntS_loop (n : Nat) : ∀ (p : List Int) (m i : Int), 0 ≤ m → m + n ≤ 1099511627776 → i = (p.length : Int) → p.length + n ≤ 1099511627776 →
    Ev (fun k => laws_heldIntS.l0 k (p ++ upFrom m n) m i) (m + n) := by
  induction n with
  | zero =>
    intro p m i hm hm' hi hl
    show Ev (fun k => laws_heldIntS.l0 k (p ++ []) m i) _
    refine Ev.to (Ev.done fun k => ?_) (show m = _ by simp)
    simp only [laws_heldIntS.l0]
    rw [if_neg (by rw [len_nil]; omega)]
  | succ n ih =>
    intro p m i hm hm' hi hl
    have h1 := len_mid p (upFrom (m + 1) n) m
    have := ih (p ++ [m]) (m + 1) (i + 1) (by omega) (by omega) (by rw [len_snoc]; omega) (by rw [List.length_append]; simp; omega)
    rw [← snoc_mid] at this
    show Ev (fun k => laws_heldIntS.l0 k (p ++ m :: upFrom (m + 1) n) m i) _
    refine Ev.to (Ev.step' this fun k => ?_) (by omega)
    simp only [laws_heldIntS.l0]
    rw [if_pos (by omega), if_pos (by omega), rd_mid hi, if_pos rfl, w64 (by omega), w64 (by omega)]
theorem laws_heldIntS_ev (n : Nat) (hn : n ≤ 109951162777) : Ev (fun k => laws_heldIntS.f k (upFrom 1 n) 1) (1 + n) :=
  laws_heldIntS_loop n [] 1 0 (by omega) (by omega) (by simp) (by simp; omega)

theorem spec_l1In_eq (a b c : Int) : spec_l1In.f a b c = some (inB a b c) := inB_ite a b c

theorem spec_spBalanced_loop (l : List Int) (s : List Int) : ∀ (p : List Int) (o n i : Int), 0 ≤ o → o ≤ p.length → n = ((p ++ s).length : Int) → i = (p.length : Int) → (p ++ s).length ≤ 1099511627776 →
    Ev (fun k => spec_spBalanced.l0 k l o (p ++ s) n i) (balW o s && decide ((l.length : Int) ≤ 24)) := by
  induction s with
  | nil =>
    intro p o n i ho ho' hn hi hl
    refine Ev.to (Ev.done fun k => ?_) (show (if o = 0 then decide ((l.length : Int) ≤ 24) else false) = _ by unfold balW; split <;> simp [*])
    simp only [spec_spBalanced.l0]
    rw [if_neg (by rw [len_nil] at hn; omega)]
    split <;> rfl
  | cons x s ih =>
    intro p o n i ho ho' hn hi hl
    have h1 := len_mid p s x
    unfold balW
    cases hb : inB x 0 1 with
    | false =>
      refine Ev.to (Ev.done fun k => ?_) (show false = _ by simp)
      simp only [spec_spBalanced.l0]
      rw [if_pos (by omega), if_pos (by omega), if_pos (by omega), rd_mid hi, spec_l1In_eq, hb]
      rfl
    | true =>
      have hx := inB_true.1 hb
      by_cases hneg : o + (2 * x - 1) < 0
      · refine Ev.to (Ev.done fun k => ?_) (show false = _ by rw [decide_eq_false (by omega)]; simp)
        simp only [spec_spBalanced.l0]
        rw [if_pos (by omega), if_pos (by omega), if_pos (by omega), rd_mid hi, spec_l1In_eq, hb]
        simp only [obind, if_true]
        rw [w64 (n := 2 * x) (by omega), w64 (n := 2 * x - 1) (by omega), w64 (n := o + (2 * x - 1)) (by omega), if_pos hneg]
      · have := ih (p ++ [x]) (o + (2 * x - 1)) n (i + 1) (by omega) (by rw [len_snoc]; omega) (by rw [← snoc_mid]; exact hn) (by rw [len_snoc]; omega) (by rw [← snoc_mid]; exact hl)
        rw [← snoc_mid] at this
        refine Ev.to (Ev.step' this fun k => ?_) (by rw [decide_eq_true (show 0 ≤ o + (2 * x - 1) by omega)]; simp)
        simp only [spec_spBalanced.l0]
        rw [if_pos (by omega), if_pos (by omega), if_pos (by omega), rd_mid hi, spec_l1In_eq, hb]
        simp only [obind, if_true]
        rw [w64 (n := 2 * x) (by omega), w64 (n := 2 * x - 1) (by omega), w64 (n := o + (2 * x - 1)) (by omega), if_neg hneg, w64 (n := i + 1) (by omega)]
theorem spec_spBalanced_ev (l : List Int) (hl : l.length ≤ 1099511627776) : Ev (fun k => spec_spBalanced.f k l) (isB l) :=
  spec_spBalanced_loop l l [] 0 _ 0 (by omega) (by simp) rfl (by simp) (by simpa using hl)

theorem impl_within_eq (a b c : Int) : impl_within.f a b c = some (inB a b c) := inB_ite a b c

theorem impl_IsBalancedWord_loop (l : List Int) (s : List Int) : ∀ (p : List Int) (o n i : Int), 0 ≤ o → o ≤ p.length → n = ((p ++ s).length : Int) → i = (p.length : Int) → (p ++ s).length ≤ 1099511627776 →
    Ev (fun k => impl_IsBalancedWord.l0 k l o (p ++ s) n i) (balW o s && decide ((l.length : Int) ≤ 24)) := by
  induction s with
  | nil =>
    intro p o n i ho ho' hn hi hl
    refine Ev.to (Ev.done fun k => ?_) (show (if o = 0 then decide ((l.length : Int) ≤ 24) else false) = _ by unfold balW; split <;> simp [*])
    simp only [impl_IsBalancedWord.l0]
    rw [if_neg (by rw [len_nil] at hn; omega)]
    split <;> rfl
  | cons x s ih =>
    intro p o n i ho ho' hn hi hl
    have h1 := len_mid p s x
    unfold balW
    cases hb : inB x 0 1 with
    | false =>
      refine Ev.to (Ev.done fun k => ?_) (show false = _ by simp)
      simp only [impl_IsBalancedWord.l0]
      rw [if_pos (by omega), if_pos (by omega), if_pos (by omega), rd_mid hi, impl_within_eq, hb]
      rfl
    | true =>
      have hx := inB_true.1 hb
      by_cases hneg : o + (2 * x - 1) < 0
      · refine Ev.to (Ev.done fun k => ?_) (show false = _ by rw [decide_eq_false (by omega)]; simp)
        simp only [impl_IsBalancedWord.l0]
        rw [if_pos (by omega), if_pos (by omega), if_pos (by omega), rd_mid hi, impl_within_eq, hb]
        simp only [obind, if_true]
        rw [w64 (n := 2 * x) (by omega), w64 (n := 2 * x - 1) (by omega), w64 (n := o + (2 * x - 1)) (by omega), if_pos hneg]
      · have := ih (p ++ [x]) (o + (2 * x - 1)) n (i + 1) (by omega) (by rw [len_snoc]; omega) (by rw [← snoc_mid]; exact hn) (by rw [len_snoc]; omega) (by rw [← snoc_mid]; exact hl)
        rw [← snoc_mid] at this
        refine Ev.to (Ev.step' this fun k => ?_) (by rw [decide_eq_true (show 0 ≤ o + (2 * x - 1) by omega)]; simp)
        simp only [impl_IsBalancedWord.l0]
        rw [if_pos (by omega), if_pos (by omega), if_pos (by omega), rd_mid hi, impl_within_eq, hb]
        simp only [obind, if_true]
        rw [w64 (n := 2 * x) (by omega), w64 (n := 2 * x - 1) (by omega), w64 (n := o + (2 * x - 1)) (by omega), if_neg hneg, w64 (n := i + 1) (by omega)]
theorem impl_IsBalancedWord_ev (l : List Int) (hl : l.length ≤ 1099511627776) : Ev (fun k => impl_IsBalancedWord.f k l) (isB l) :=
  impl_IsBalancedWord_loop l l [] 0 _ 0 (by omega) (by simp) rfl (by simp) (by simpa using hl)

theorem impl_GrowthOfWord_loop (w : List Int) (s : List Int) : ∀ (p out st : List Int) (c : Nat) (prev : Bool) (n i : Int), w = p ++ s → balW (st.length : Int) s = true → n = (w.length : Int) → i = (p.length : Int) → w.length ≤ 1000 → st.length + s.length ≤ 1000 → out.length + s.length ≤ 1000 → c ≤ p.length →
    ((p = [] ∧ prev = false) ∨ ∃ (p' : List Int) (y : Int), p = p' ++ [y] ∧ prev = decide (y = 1)) →
    Ev (fun k => impl_GrowthOfWord.l0 k w out st.reverse (c : Int) w n i) (out ++ gowF st c prev s, true) := by
  induction s with
  | nil =>
    intro p out st c prev n i hw hb hn hi hl hs ho hc hp
    refine Ev.to (Ev.done fun k => ?_) (show (out, true) = _ by simp [gowF])
    simp only [impl_GrowthOfWord.l0]
    rw [if_neg (by rw [List.append_nil] at hw; subst hw; omega)]
  | cons x s ih =>
    intro p out st c prev n i hw hb hn hi hl hs ho hc hp
    obtain ⟨h1, h2, h3⟩ := balW_cons hb
    have hlen : w.length = p.length + s.length + 1 := by rw [hw]; simp; omega
    rw [List.length_cons] at hs ho
    have hr : rd w i = x := by rw [hw]; exact rd_mid hi
    have hw' : w = (p ++ [x]) ++ s := by rw [hw]; simp
    have hwi : wrap64 (i + 1) = i + 1 := w64 (by omega)
    refine Ev.succ ?_
    simp only [impl_GrowthOfWord.l0]
    simp only [if_pos (show i < n by omega), if_pos (show 0 ≤ i by omega), if_pos (show i < (w.length : Int) by omega), hr, hwi]
    by_cases c1 : x = 1
    · simp only [if_pos c1, if_pos (show st.reverse.length < 17592186044416 by rw [List.length_reverse]; omega)]
      have := ih (p ++ [x]) out ((c : Int) :: st) c true n (i + 1) hw' (by rw [c1] at h3; simpa using h3) hn (by simp; omega) hl (by simp; omega) (by omega) (by simp; omega) (.inr ⟨p, x, rfl, by simp [c1]⟩)
      rw [List.reverse_cons] at this
      refine Ev.to this ?_
      rw [gowF, if_pos c1]
    · have hx0 : x = 0 := by omega
      obtain ⟨t, st, rfl⟩ : ∃ t q, st = t :: q := by
        cases st with
        | nil => rw [hx0] at h2; simp at h2
        | cons t q => exact ⟨t, q, rfl⟩
      rw [List.length_cons] at hs
      have eL : (t :: st).reverse = st.reverse ++ [t] := List.reverse_cons ..
      have hbal : balW (st.length : Int) s = true := by
        have e : ((t :: st).length : Int) + (2 * x - 1) = (st.length : Int) := by rw [hx0]; simp; omega
        rw [e] at h3; exact h3
      have hQ : st.reverse.length = st.length := List.length_reverse
      have hrec : ∀ c' : Nat, c' ≤ p.length + 1 → Ev (fun k => impl_GrowthOfWord.l0 k w (out ++ [t]) st.reverse (c' : Int) w n (i + 1)) ((out ++ [t]) ++ gowF st c' false s, true) := fun c' hc' =>
        ih (p ++ [x]) (out ++ [t]) st c' false n (i + 1) hw' hbal hn (by simp; omega) hl (by omega) (by simp; omega) (by simpa using hc') (.inr ⟨p, x, rfl, by simp [c1]⟩)
      generalize hQd : st.reverse = Q at hQ hrec eL
      have e1 : wrap64 (((Q ++ [t]).length : Int) - 1) = (Q.length : Int) := by rw [len_snoc, w64 (by omega)]; omega
      have e2 : rd (Q ++ [t]) (Q.length : Int) = t := rd_mid rfl
      have e7 : (Q ++ [t]).take ((Q.length : Int)).toNat = Q := by simp
      have eg : gowF (t :: st) c prev (x :: s) = t :: gowF st (if prev = true then c + 1 else c) false s := by rw [gowF, if_neg c1]; rfl
      simp only [eL, if_neg c1, e1, e2, e7, obind, if_pos (show (0 : Int) ≤ (Q.length : Int) by omega), if_pos (show (Q.length : Int) < (((Q ++ [t]).length : Nat) : Int) by rw [len_snoc]; omega), if_pos (show (Q.length : Int) ≤ (((Q ++ [t]).length : Nat) : Int) by rw [len_snoc]; omega), if_pos (show out.length < 17592186044416 by omega)]
      rw [eg]
      rcases hp with ⟨rfl, rfl⟩ | ⟨p', y, rfl, rfl⟩
      · simp only [if_neg (show ¬ i > 0 by simp at hi; omega)]
        refine Ev.to (hrec c (by omega)) ?_
        simp
      · have hi' : i = (p'.length : Int) + 1 := by rw [hi]; simp
        have em : wrap64 (i - 1) = (p'.length : Int) := by rw [w64 (by omega)]; omega
        have er : rd w (p'.length : Int) = y := by rw [hw, List.append_assoc]; exact rd_mid rfl
        have hpl : (p' ++ [y]).length = p'.length + 1 := by simp
        simp only [if_pos (show i > 0 by omega), em, er, if_pos (show (0 : Int) ≤ (p'.length : Int) by omega), if_pos (show (p'.length : Int) < (w.length : Int) by omega)]
        by_cases cy : y = 1
        · simp only [if_pos cy, i_up (show c ≤ 1099511627776 by omega)]
          refine Ev.to (hrec (c + 1) (by omega)) ?_
          simp [cy]
        · simp only [if_neg cy]
          refine Ev.to (hrec c (by omega)) ?_
          simp [cy]
/-- What GrowthOfWord answers. -/
def gowR (l : List Int) : List Int × Bool := if isB l = true then (if (l.length : Int) == 0 then ([], false) else (gowW l, true)) else ([], false)
theorem isB_true {l : List Int} (h : isB l = true) : balW 0 l = true ∧ l.length ≤ 24 := by
  unfold isB at h
  rw [Bool.and_eq_true, decide_eq_true_iff] at h
  exact ⟨h.1, by omega⟩
theorem gowR_len (l : List Int) : (gowR l).1.length ≤ 24 := by
  unfold gowR
  split
  · rename_i h
    have := isB_true h
    split
    · simp
    · exact Nat.le_trans (gowF_len l _ _ _) this.2
  · simp
theorem impl_GrowthOfWord_ev (l : List Int) (hl : l.length ≤ 1099511627776) : Ev (fun k => impl_GrowthOfWord.f k l) (gowR l) := by
  unfold impl_GrowthOfWord.f gowR
  refine Ev.bind (impl_IsBalancedWord_ev l hl) ?_
  by_cases h : isB l = true
  · obtain ⟨h1, h2⟩ := isB_true h
    simp only [if_pos h]
    refine Ev.succ ?_
    simp only [impl_GrowthOfWord.j0]
    by_cases c : ((l.length : Int) == 0) = true
    · simp only [if_pos c]; exact Ev.now _
    · simp only [if_neg c]
      exact impl_GrowthOfWord_loop l l [] [] [] 0 false _ 0 rfl h1 rfl (by simp) (by omega) (by simp; omega) (by simp; omega) (by simp) (.inl ⟨rfl, rfl⟩)
  · simp only [if_neg h]
    refine Ev.succ ?_
    simp only [impl_GrowthOfWord.j0, if_true]
    exact Ev.now _

theorem spec_GrowthOfWord_loop (w : List Int) (s : List Int) : ∀ (p out : List Int) (ps : List (Int × Nat)) (c ones : Nat) (n i : Int), w = p ++ s → balW ((ones + (expP ps).length : Nat) : Int) s = true → (∀ z ∈ ps, 0 < z.2) → n = (w.length : Int) → i = (p.length : Int) → w.length ≤ 1000 → ps.length + ones + s.length ≤ 1000 → (∀ z ∈ ps, z.2 ≤ 1000) → out.length + s.length ≤ 1000 → c ≤ p.length →
    Ev (fun k => spec_GrowthOfWord.l0 k out (fstL ps) (sndL ps) (c : Int) (ones : Int) w n i) (out ++ gowF (List.replicate ones (c : Int) ++ expP ps) c (decide (0 < ones)) s, true) := by
  induction s with
  | nil =>
    intro p out ps c ones n i hw hb h0 hn hi hl hs hz ho hc
    refine Ev.to (Ev.done fun k => ?_) (show (out, true) = _ by simp [gowF])
    simp only [spec_GrowthOfWord.l0]
    rw [if_neg (by rw [List.append_nil] at hw; subst hw; omega)]
  | cons x s ih =>
    intro p out ps c ones n i hw hb h0 hn hi hl hs hz ho hc
    obtain ⟨h1, h2, h3⟩ := balW_cons hb
    have hlen : w.length = p.length + s.length + 1 := by rw [hw]; simp; omega
    rw [List.length_cons] at hs ho
    have hr : rd w i = x := by rw [hw]; exact rd_mid hi
    have hw' : w = (p ++ [x]) ++ s := by rw [hw]; simp
    have hwi : wrap64 (i + 1) = i + 1 := w64 (by omega)
    refine Ev.succ ?_
    simp only [spec_GrowthOfWord.l0]
    simp only [if_pos (show i < n by omega), if_pos (show 0 ≤ i by omega), if_pos (show i < (w.length : Int) by omega), hr, hwi]
    by_cases c1 : x = 1
    · simp only [if_pos c1, i_up (show ones ≤ 1099511627776 by omega)]
      have := ih (p ++ [x]) out ps c (ones + 1) n (i + 1) hw' (by
        have e : ((ones + (expP ps).length : Nat) : Int) + (2 * x - 1) = ((ones + 1 + (expP ps).length : Nat) : Int) := by rw [c1]; omega
        rw [e] at h3; exact h3) h0 hn (by simp; omega) hl (by omega) hz (by omega) (by simp; omega)
      refine Ev.to this ?_
      rw [gowF.eq_2, if_pos c1]
      have ed : decide (0 < ones + 1) = true := decide_eq_true (by omega)
      rw [ed, List.replicate_succ]; rfl
    have hx0 : x = 0 := by omega
    simp only [if_neg c1]
    have hrec : ∀ (t : Int) (m : Nat) (q : List (Int × Nat)) (c' : Nat), m ≤ 1000 → q.length ≤ ps.length + ones - 1 → q.length + 1 ≤ 1000 - s.length → (∀ z ∈ q, 0 < z.2) → (∀ z ∈ q, z.2 ≤ 1000) → ones + (expP ps).length = m + 1 + (expP q).length → c' ≤ p.length + 1 →
        (m = 0 → Ev (fun k => spec_GrowthOfWord.l0 k (out ++ [t]) (fstL q) (sndL q) (c' : Int) 0 w n (i + 1)) (out ++ t :: gowF (List.replicate m t ++ expP q) c' false s, true)) ∧
        (¬ m = 0 → Ev (fun k => spec_GrowthOfWord.l0 k (out ++ [t]) (fstL q ++ [t]) (sndL q ++ [(m : Int)]) (c' : Int) 0 w n (i + 1)) (out ++ t :: gowF (List.replicate m t ++ expP q) c' false s, true)) := by
      intro t m q c' hm hq hq2 hq0 hqz he hc'
      have hb' : balW ((0 + (m + (expP q).length) : Nat) : Int) s = true := by
        have e : ((ones + (expP ps).length : Nat) : Int) + (2 * x - 1) = ((0 + (m + (expP q).length) : Nat) : Int) := by rw [hx0]; omega
        rw [e] at h3; exact h3
      constructor
      · intro hm0
        subst hm0
        have := ih (p ++ [x]) (out ++ [t]) q c' 0 n (i + 1) hw' (by simpa using hb') hq0 hn (by simp; omega) hl (by omega) hqz (by simp; omega) (by simpa using hc')
        refine Ev.to this ?_
        simp
      · intro hm0
        have := ih (p ++ [x]) (out ++ [t]) ((t, m) :: q) c' 0 n (i + 1) hw' (by simpa [expP] using hb') (fun z hz' => by rcases List.mem_cons.1 hz' with rfl | h; exact Nat.pos_of_ne_zero hm0; exact hq0 z h) hn (by simp; omega) hl (by simp; omega)
          (fun z hz' => by rcases List.mem_cons.1 hz' with rfl | h; exact hm; exact hqz z h) (by simp; omega) (by simpa using hc')
        refine Ev.to this ?_
        simp [expP]
    by_cases co : 0 < ones
    · obtain ⟨m, rfl⟩ : ∃ m, ones = m + 1 := ⟨ones - 1, by omega⟩
      obtain ⟨r1, r2⟩ := hrec (c : Int) m ps (c + 1) (by omega) (by omega) (by omega) h0 hz (by omega) (by omega)
      have eg : gowF (List.replicate (m + 1) (c : Int) ++ expP ps) c (decide (0 < m + 1)) (x :: s) = (c : Int) :: gowF (List.replicate m (c : Int) ++ expP ps) (c + 1) false s := by
        rw [gowF.eq_2, if_neg c1, decide_eq_true co, List.replicate_succ]; rfl
      rw [eg]
      generalize hqd : ps = q at *
      generalize htd : (c : Int) = t at *
      generalize hQd : fstL q = Q at *
      generalize hZd : sndL q = Z at *
      have hQ : Q.length = Z.length := by rw [← hQd, ← hZd, fstL_len, sndL_len]
      have hQl : Q.length = q.length := by rw [← hQd, fstL_len]
      have e1 : wrap64 (((Q ++ [t]).length : Int) - 1) = (Q.length : Int) := by rw [len_snoc, w64 (by omega)]; omega
      have e2 : rd (Q ++ [t]) (Q.length : Int) = t := rd_mid rfl
      have e3 : rd (Z ++ [((m + 1 : Nat) : Int)]) (Q.length : Int) = ((m + 1 : Nat) : Int) := rd_mid (by omega)
      have e4 : wrap64 (((m + 1 : Nat) : Int) - 1) = (m : Int) := i_down (by omega)
      have e5 : (Z ++ [((m + 1 : Nat) : Int)]).set ((Q.length : Int)).toNat (m : Int) = Z ++ [(m : Int)] := set_mid (by omega)
      have e6 : rd (Z ++ [(m : Int)]) (Q.length : Int) = (m : Int) := rd_mid (by omega)
      have e7 : (Q ++ [t]).take ((Q.length : Int)).toNat = Q := by simp
      have e8 : (Z ++ [(m : Int)]).take ((Q.length : Int)).toNat = Z := by rw [Int.toNat_natCast, hQ]; simp
      have g1 : (Q.length : Int) < (((Q ++ [t]).length : Nat) : Int) := by rw [len_snoc]; omega
      have g2 : (Q.length : Int) < (((Z ++ [((m + 1 : Nat) : Int)]).length : Nat) : Int) := by rw [len_snoc]; omega
      have g3 : (Q.length : Int) ≤ (((Q ++ [t]).length : Nat) : Int) := by rw [len_snoc]; omega
      have g4 : (Q.length : Int) ≤ (((Z ++ [((m + 1 : Nat) : Int)]).length : Nat) : Int) := by rw [len_snoc]; omega
      have ec : wrap64 (t + 1) = ((c + 1 : Nat) : Int) := by rw [← htd]; exact i_up (by omega)
      simp only [if_pos (show ((m + 1 : Nat) : Int) > 0 by omega), if_pos (show Q.length < 17592186044416 by omega), if_pos (show Z.length < 17592186044416 by omega), obind, e1, e2, e3, e4, e5, e6, e7, e8, if_pos g1, if_pos g2, if_pos g3, if_pos g4, if_pos (show (0 : Int) ≤ (Q.length : Int) by omega), if_pos (show out.length < 17592186044416 by omega), ec]
      by_cases cm : m = 0
      · have := r1 cm
        simp only [if_pos (show (m : Int) = 0 by omega)]
        exact this
      · have := r2 cm
        simp only [if_neg (show ¬ (m : Int) = 0 by omega)]
        exact this
    · have ho0 : ones = 0 := by omega
      subst ho0
      obtain ⟨t, m, q, rfl⟩ : ∃ t m q, ps = (t, m + 1) :: q := by
        cases ps with
        | nil => rw [hx0] at h2; simp [expP] at h2
        | cons z q =>
          obtain ⟨t, m⟩ := z
          have := h0 (t, m) (List.mem_cons_self ..)
          exact ⟨t, m - 1, q, by congr 2; simp at this; omega⟩
      have hz1 : m + 1 ≤ 1000 := hz (t, m + 1) (List.mem_cons_self ..)
      have hpl : ((t, m + 1) :: q).length = q.length + 1 := rfl
      obtain ⟨r1, r2⟩ := hrec t m q c (by omega) (by omega) (by omega) (fun z h => h0 z (List.mem_cons_of_mem _ h)) (fun z h => hz z (List.mem_cons_of_mem _ h)) (by simp [expP]) (by omega)
      have eg : gowF (List.replicate 0 (c : Int) ++ expP ((t, m + 1) :: q)) c (decide (0 < 0)) (x :: s) = t :: gowF (List.replicate m t ++ expP q) c false s := by
        have e : List.replicate 0 (c : Int) ++ expP ((t, m + 1) :: q) = t :: (List.replicate m t ++ expP q) := by rw [expP, List.replicate_succ]; rfl
        rw [e, gowF.eq_2, if_neg c1]; rfl
      rw [eg]
      show Ev (fun k => if ((0 : Nat) : Int) > 0 then _ else _) _
      simp only [if_neg (show ¬ ((0 : Nat) : Int) > 0 by omega), fstL, sndL]
      have hQ : (fstL q).length = (sndL q).length := by rw [fstL_len, sndL_len]
      have hQl : (fstL q).length = q.length := by rw [fstL_len]
      have e1 : wrap64 ((((fstL q) ++ [t]).length : Int) - 1) = ((fstL q).length : Int) := by rw [len_snoc, w64 (by omega)]; omega
      have e2 : rd ((fstL q) ++ [t]) ((fstL q).length : Int) = t := rd_mid rfl
      have e3 : rd ((sndL q) ++ [((m + 1 : Nat) : Int)]) ((fstL q).length : Int) = ((m + 1 : Nat) : Int) := rd_mid (by omega)
      have e4 : wrap64 (((m + 1 : Nat) : Int) - 1) = (m : Int) := i_down (by omega)
      have e5 : ((sndL q) ++ [((m + 1 : Nat) : Int)]).set (((fstL q).length : Int)).toNat (m : Int) = (sndL q) ++ [(m : Int)] := set_mid (by omega)
      have e6 : rd ((sndL q) ++ [(m : Int)]) ((fstL q).length : Int) = (m : Int) := rd_mid (by omega)
      have e7 : ((fstL q) ++ [t]).take (((fstL q).length : Int)).toNat = (fstL q) := by simp
      have e8 : ((sndL q) ++ [(m : Int)]).take (((fstL q).length : Int)).toNat = (sndL q) := by rw [Int.toNat_natCast, hQ]; simp
      have g1 : ((fstL q).length : Int) < ((((fstL q) ++ [t]).length : Nat) : Int) := by rw [len_snoc]; omega
      have g2 : ((fstL q).length : Int) < ((((sndL q) ++ [((m + 1 : Nat) : Int)]).length : Nat) : Int) := by rw [len_snoc]; omega
      have g3 : ((fstL q).length : Int) ≤ ((((fstL q) ++ [t]).length : Nat) : Int) := by rw [len_snoc]; omega
      have g4 : ((fstL q).length : Int) ≤ ((((sndL q) ++ [((m + 1 : Nat) : Int)]).length : Nat) : Int) := by rw [len_snoc]; omega
      simp only [obind, e1, e2, e3, e4, e5, e6, e7, e8, if_pos g1, if_pos g2, if_pos g3, if_pos g4, if_pos (show (0 : Int) ≤ ((fstL q).length : Int) by omega), if_pos (show out.length < 17592186044416 by omega)]
      by_cases cm : m = 0
      · have := r1 cm
        simp only [if_pos (show (m : Int) = 0 by omega)]
        exact this
      · have := r2 cm
        simp only [if_neg (show ¬ (m : Int) = 0 by omega)]
        exact this
theorem spec_GrowthOfWord_ev (l : List Int) (hl : l.length ≤ 1099511627776) : Ev (fun k => spec_GrowthOfWord.f k l) (gowR l) := by
  unfold spec_GrowthOfWord.f gowR
  refine Ev.bind (spec_spBalanced_ev l hl) ?_
  by_cases h : isB l = true
  · obtain ⟨h1, h2⟩ := isB_true h
    simp only [if_pos h]
    refine Ev.succ ?_
    simp only [spec_GrowthOfWord.j0]
    by_cases c : ((l.length : Int) == 0) = true
    · simp only [if_pos c]; exact Ev.now _
    · simp only [if_neg c]
      exact spec_GrowthOfWord_loop l l [] [] [] 0 0 _ 0 rfl h1 (fun z hz => by cases hz) rfl (by simp) (by omega) (by simp; omega) (fun z hz => by cases hz) (by simp; omega) (by simp)
  · simp only [if_neg h]
    refine Ev.succ ?_
    simp only [spec_GrowthOfWord.j0, if_true]
    exact Ev.now _

theorem FnExactGrowthOfWord : laws_FnExactGrowthOfWord.Pure := by
  intro l _ hl _
  unfold laws_FnExactGrowthOfWord.f
  by_cases hbig : (l.length : Int) > 1048576
  · exact ⟨0, by rw [if_pos hbig]⟩
  simp only [if_neg hbig]
  have hl' : l.length ≤ 1048576 := by omega
  have ht := laws_toIntS_ev l (by omega)
  have het := laws_eqIntS_ev l l (by omega)
  have hmt := laws_markIntS_ev l (by omega)
  have hs := spec_GrowthOfWord_ev l (by omega)
  have hi := impl_GrowthOfWord_ev l (by omega)
  have hlen := gowR_len l
  generalize gowR l = R at hs hi hlen
  obtain ⟨o, b⟩ := R
  simp only at hlen
  have he := laws_eqIntS_ev o o (by omega)
  have hm := laws_markIntS_ev o (by omega)
  have hh := laws_heldIntS_ev o.length (by omega)
  refine (Ev.bind ht (Ev.bind hs (Ev.bind ht (Ev.bind hi (Ev.bind he ?_))))).rounds
  simp only [decide_true, if_true, bne_self_eq_false]
  refine Ev.succ ?_
  simp only [laws_FnExactGrowthOfWord.j0, Bool.false_eq_true, if_false]
  refine Ev.bind ht (Ev.bind het ?_)
  simp only [decide_true, if_true]
  refine Ev.bind hmt ?_
  simp only [if_neg (show ¬ (1 + (l.length : Int)) < 0 by omega)]
  refine Ev.bind he ?_
  simp only [decide_true, if_true, bne_self_eq_false]
  refine Ev.succ ?_
  simp only [laws_FnExactGrowthOfWord.j1, Bool.false_eq_true, if_false]
  refine Ev.bind hm (Ev.bind hh ?_)
  simp only [if_neg (show ¬ (1 + (o.length : Int)) < 0 by omega), if_true]
  refine Ev.bind ht (Ev.bind hi (Ev.bind he ?_))
  simp only [decide_true, if_true, bne_self_eq_false]
  refine Ev.succ ?_
  simp only [laws_FnExactGrowthOfWord.j2, Bool.false_eq_true, if_false]
  refine Ev.bind hh ?_
  simp only [if_neg (show ¬ (1 + (o.length : Int)) < 0 by omega), if_true]
  exact Ev.now _

end Go.Proofs.Ytlondmhiccikpaa.Pure
