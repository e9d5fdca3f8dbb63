/- The program's HasCrossing returns what the reference's returns, for every list of whole numbers that takes at most 2^47 - 4096 bytes. -/
import Derived.Test.YtaaoeaojimjikaaPFnExactHasCrossingx4
import Derived.Test.YtaaoeaojimjikaaCoreA
import Derived.Test.YtaaoeaojimjikaaCoreG
namespace Go.Proofs.Ytaaoeaojimjikaa.Pure
open Go.RowKit Go.Proofs.Ytaaoeaojimjikaa.PFnExactHasCrossing Go.Proofs.YtaaoeaojimjikaaW.PrintWords Go.Proofs.YtaaoeaojimjikaaW.PrintLast Go.Proofs.YtaaoeaojimjikaaW.PrintMore Go.Proofs.Ytaaoeaojimjikaa.Core
set_option linter.unusedVariables false
set_option linter.unusedSimpArgs false

theorem laws_toIntS_loop (s : List Int) : ∀ (p q : List Int) (i : Int), q.length = s.length → i = (p.length : Int) → (p ++ s).length ≤ 1099511627776 →
    Ev (fun k => laws_toIntS.l0 k (p ++ s) (p ++ q) i) (p ++ s) := by
  induction s with
  | nil =>
    intro p q i hq hi hl
    have hq0 : q = [] := List.eq_nil_of_length_eq_zero hq
    subst hq0
    refine Ev.done fun k => ?_
    simp only [laws_toIntS.l0]
    rw [if_neg (by rw [len_nil]; omega)]
  | cons x s ih =>
    intro p q i hq hi hl
    cases q with
    | nil => simp at hq
    | cons y q =>
      have hq' : q.length = s.length := by simpa using hq
      have h1 := len_mid p s x
      have h2 := len_mid p q y
      have := ih (p ++ [x]) q (i + 1) hq' (by rw [len_snoc]; omega) (by rw [← snoc_mid]; exact hl)
      rw [← snoc_mid, ← snoc_mid] at this
      refine Ev.step' this fun k => ?_
      simp only [laws_toIntS.l0]
      rw [if_pos (by omega), if_pos (by omega), if_pos (by omega), rd_mid hi, set_mid hi, w64 (by omega)]
theorem laws_toIntS_ev (l : List Int) (hl : l.length ≤ 1099511627776) : Ev (fun k => laws_toIntS.f k l) l := by
  have := laws_toIntS_loop l [] (List.replicate l.length 0) 0 (by simp) (by simp) (by simpa using hl)
  simp only [List.nil_append] at this
  refine Ev.congr (fun k => ?_) this
  unfold laws_toIntS.f
  rw [if_pos (by omega), if_pos (by omega)]
  simp only [Int.toNat_natCast]

theorem laws_eqIntS_loop (s : List Int) : ∀ (p q t : List Int) (i : Int), t.length = s.length → q.length = p.length → i = (p.length : Int) → (p ++ s).length ≤ 1099511627776 →
    Ev (fun k => laws_eqIntS.l0 k (p ++ s) (q ++ t) i) (decide (s = t)) := by
  induction s with
  | nil =>
    intro p q t i ht hq hi hl
    have ht0 : t = [] := List.eq_nil_of_length_eq_zero ht
    subst ht0
    refine Ev.done fun k => ?_
    simp only [laws_eqIntS.l0]
    rw [if_neg (by rw [len_nil]; omega)]
    simp
  | cons x s ih =>
    intro p q t i ht hq hi hl
    cases t with
    | nil => simp at ht
    | cons y t =>
      have ht' : t.length = s.length := by simpa using ht
      have h1 := len_mid p s x
      have h2 := len_mid q t y
      by_cases hxy : x = y
      · have := ih (p ++ [x]) (q ++ [y]) t (i + 1) ht' (by simp [hq]) (by rw [len_snoc]; omega) (by rw [← snoc_mid]; exact hl)
        rw [← snoc_mid, ← snoc_mid] at this
        refine Ev.to (Ev.step' this fun k => ?_) (by simp [hxy])
        simp only [laws_eqIntS.l0]
        rw [if_pos (by omega), if_pos (by omega), if_pos (by omega), rd_mid hi, rd_mid (by omega), if_pos hxy, w64 (by omega)]
      · refine Ev.to (Ev.done fun k => ?_) (show false = _ by simp [hxy])
        simp only [laws_eqIntS.l0]
        rw [if_pos (by omega), if_pos (by omega), if_pos (by omega), rd_mid hi, rd_mid (by omega), if_neg hxy]
theorem laws_eqIntS_ev (l t : List Int) (hl : l.length ≤ 1099511627776) : Ev (fun k => laws_eqIntS.f k l t) (decide (l = t)) := by
  by_cases h : l.length = t.length
  · have := laws_eqIntS_loop l [] [] t 0 h.symm rfl (by simp) (by simpa using hl)
    simp only [List.nil_append] at this
    refine Ev.congr (fun k => ?_) this
    unfold laws_eqIntS.f
    rw [if_pos (by omega)]
  · refine Ev.to (Ev.congr (fun k => ?_) (Ev.now false)) (by rw [decide_eq_false]; exact fun e => h (by rw [e]))
    unfold laws_eqIntS.f
    rw [if_neg (by omega)]

theorem spec_l1In_eq (a b c : Int) : spec_l1In.f a b c = some (inB a b c) := inB_ite a b c

theorem spec_l1Most_eq (a b : Int) : spec_l1Most.f a b = some (max a b) := most_max a b

theorem spec_spGrowth_loop (l : List Int) (s : List Int) : ∀ (p : List Int) (m n i : Int), -1 ≤ m → m + 1 ≤ p.length → n = ((p ++ s).length : Int) → i = (p.length : Int) → (p ++ s).length ≤ 1099511627776 →
    Ev (fun k => spec_spGrowth.l0 k l m (p ++ s) n i) (growW m s && inB l.length 1 12) := by
  induction s with
  | nil =>
    intro p m n i hm hm' hn hi hl
    refine Ev.to (Ev.done fun k => ?_) (show inB l.length 1 12 = _ by unfold growW; simp)
    simp only [spec_spGrowth.l0]
    rw [if_neg (by rw [len_nil] at hn; omega), spec_l1In_eq]
    rfl
  | cons x s ih =>
    intro p m n i hm hm' hn hi hl
    have h1 := len_mid p s x
    unfold growW
    cases hb : inB x 0 (m + 1) with
    | false =>
      refine Ev.to (Ev.done fun k => ?_) (show false = _ by simp)
      simp only [spec_spGrowth.l0]
      rw [if_pos (by omega), if_pos (by omega), if_pos (by omega), rd_mid hi, w64 (n := m + 1) (by omega), spec_l1In_eq, hb]
      rfl
    | true =>
      have hx := inB_true.1 hb
      have := ih (p ++ [x]) (max m x) n (i + 1) (by omega) (by rw [len_snoc]; omega) (by rw [← snoc_mid]; exact hn) (by rw [len_snoc]; omega) (by rw [← snoc_mid]; exact hl)
      rw [← snoc_mid] at this
      refine Ev.to (Ev.step' this fun k => ?_) (by simp)
      simp only [spec_spGrowth.l0]
      rw [if_pos (by omega), if_pos (by omega), if_pos (by omega), rd_mid hi, w64 (n := m + 1) (by omega), spec_l1In_eq, hb]
      simp only [obind, if_true, spec_l1Most_eq, obind]
      rw [w64 (n := i + 1) (by omega)]
theorem spec_spGrowth_ev (l : List Int) (hl : l.length ≤ 1099511627776) : Ev (fun k => spec_spGrowth.f k l) (isG l) :=
  spec_spGrowth_loop l l [] (-1) _ 0 (by omega) (by simp) rfl (by simp) (by simpa using hl)

theorem impl_within_eq (a b c : Int) : impl_within.f a b c = some (inB a b c) := inB_ite a b c

theorem impl_IsGrowth_loop (l : List Int) (s : List Int) : ∀ (p : List Int) (m n i : Int), -1 ≤ m → m + 1 ≤ p.length → n = ((p ++ s).length : Int) → i = (p.length : Int) → (p ++ s).length ≤ 1099511627776 →
    Ev (fun k => impl_IsGrowth.l0 k l m (p ++ s) n i) (growW m s && inB l.length 1 12) := by
  induction s with
  | nil =>
    intro p m n i hm hm' hn hi hl
    refine Ev.to (Ev.done fun k => ?_) (show inB l.length 1 12 = _ by unfold growW; simp)
    simp only [impl_IsGrowth.l0]
    rw [if_neg (by rw [len_nil] at hn; omega), impl_within_eq]
    rfl
  | cons x s ih =>
    intro p m n i hm hm' hn hi hl
    have h1 := len_mid p s x
    unfold growW
    cases hb : inB x 0 (m + 1) with
    | false =>
      refine Ev.to (Ev.done fun k => ?_) (show false = _ by simp)
      simp only [impl_IsGrowth.l0]
      rw [if_pos (by omega), if_pos (by omega), if_pos (by omega), rd_mid hi, w64 (n := m + 1) (by omega), impl_within_eq, hb]
      rfl
    | true =>
      have hx := inB_true.1 hb
      have := ih (p ++ [x]) (max m x) n (i + 1) (by omega) (by rw [len_snoc]; omega) (by rw [← snoc_mid]; exact hn) (by rw [len_snoc]; omega) (by rw [← snoc_mid]; exact hl)
      rw [← snoc_mid] at this
      refine Ev.to (Ev.step' this fun k => ?_) (by simp)
      simp only [impl_IsGrowth.l0]
      rw [if_pos (by omega), if_pos (by omega), if_pos (by omega), rd_mid hi, w64 (n := m + 1) (by omega), impl_within_eq, hb]
      simp only [obind, if_true, mx_max]
      rw [w64 (n := i + 1) (by omega)]
theorem impl_IsGrowth_ev (l : List Int) (hl : l.length ≤ 1099511627776) : Ev (fun k => impl_IsGrowth.f k l) (isG l) :=
  impl_IsGrowth_loop l l [] (-1) _ 0 (by omega) (by simp) rfl (by simp) (by simpa using hl)

theorem spec_l1Has_loop (y : Int) (s : List Int) : ∀ (p : List Int) (n i : Int), n = ((p ++ s).length : Int) → i = (p.length : Int) → (p ++ s).length ≤ 1099511627776 →
    Ev (fun k => spec_l1Has.l0 k y (p ++ s) n i) (hasV y s) := by
  induction s with
  | nil =>
    intro p n i hn hi hl
    refine Ev.to (Ev.done fun k => ?_) (show false = _ by simp [hasV])
    simp only [spec_l1Has.l0]
    rw [if_neg (by rw [len_nil] at hn; omega)]
  | cons x s ih =>
    intro p n i hn hi hl
    have h1 := len_mid p s x
    have := ih (p ++ [x]) n (i + 1) (by rw [← snoc_mid]; exact hn) (by rw [len_snoc]; omega) (by rw [← snoc_mid]; exact hl)
    rw [← snoc_mid] at this
    by_cases c : x = y
    · refine Ev.to (Ev.done fun k => ?_) (show true = _ by simp [hasV, c])
      simp only [spec_l1Has.l0]
      rw [if_pos (by omega), if_pos (by omega), if_pos (by omega), rd_mid hi, if_pos c]
    · refine Ev.to (Ev.step' this fun k => ?_) (by simp [hasV, c])
      simp only [spec_l1Has.l0]
      rw [if_pos (by omega), if_pos (by omega), if_pos (by omega), rd_mid hi, if_neg c, w64 (by omega)]
theorem spec_l1Has_ev (l : List Int) (y : Int) (hl : l.length ≤ 1099511627776) : Ev (fun k => spec_l1Has.f k l y) (hasV y l) :=
  spec_l1Has_loop y l [] _ 0 rfl (by simp) (by simpa using hl)

theorem spec_spCrosses_l2 (a : List Int) (ha : a.length ≤ 1099511627776) (j i : Nat) (hi : i < a.length) (hj : j < a.length) (R : Bool)
    (hR : Ev (fun f => spec_spCrosses.l1 f a (i : Int) (wrap64 ((j : Int) + 1)) (a.length : Int) (i : Int)) R) (s : List Int) : ∀ p : List Int, p ++ s = a →
    Ev (fun f => spec_spCrosses.l2 f a (i : Int) (j : Int) (p.length : Int) (a.length : Int) (i : Int)) (crK (rd a (i : Int)) (rd a (j : Int)) s || R) := by
  induction s with
  | nil =>
    intro p hp
    have hl : a.length = p.length := by rw [← hp]; simp
    refine Ev.succ ?_
    simp only [spec_spCrosses.l2]
    simp only [if_neg (show ¬ (p.length : Int) < (a.length : Int) by omega)]
    refine Ev.to hR ?_
    simp [crK]
  | cons z s ih =>
    intro p hp
    have hl : a.length = p.length + s.length + 1 := by rw [← hp]; simp; omega
    have e0 : rd a (p.length : Int) = z := by rw [← hp]; exact rd_mid rfl
    have e1 : wrap64 ((p.length : Int) + 1) = ((p ++ [z]).length : Int) := by rw [w64 (by omega), len_snoc]
    have hp' : (p ++ [z]) ++ s = a := by rw [← snoc_mid]; exact hp
    have h2 := ih (p ++ [z]) hp'
    have e2 : a.drop (((p ++ [z]).length : Nat) : Int).toNat = s := by rw [← hp']; simp
    refine Ev.succ ?_
    simp only [spec_spCrosses.l2]
    simp only [if_pos (show (p.length : Int) < (a.length : Int) by omega), if_pos (show 0 ≤ (i : Int) by omega), if_pos (show (i : Int) < (a.length : Int) by omega), if_pos (show 0 ≤ (j : Int) by omega), if_pos (show (j : Int) < (a.length : Int) by omega), if_pos (show 0 ≤ (p.length : Int) by omega), e0, e1]
    by_cases c1 : rd a (i : Int) = z
    · simp only [if_pos c1]
      by_cases c2 : rd a (j : Int) = rd a (i : Int)
      · simp only [if_pos c2]
        refine Ev.to h2 ?_
        simp [crK, c2]
      · have hle := len_snoc p z
        simp only [if_neg c2, if_pos (show 0 ≤ ((p ++ [z]).length : Int) by omega), if_pos (show ((p ++ [z]).length : Int) ≤ (a.length : Int) by omega), e2]
        refine Ev.bind (spec_l1Has_ev s _ (by omega)) ?_
        cases hh : hasV (rd a (j : Int)) s with
        | true =>
          simp only [if_true]
          refine Ev.some_ ?_
          rw [crK, decide_eq_true c1, decide_eq_false (fun e => c2 e.symm), hh]
          rfl
        | false =>
          simp only [Bool.false_eq_true, if_false]
          refine Ev.to h2 ?_
          simp [crK, hh]
    · simp only [if_neg c1]
      refine Ev.to h2 ?_
      simp [crK, c1]
theorem spec_spCrosses_l1 (a : List Int) (ha : a.length ≤ 1099511627776) (i : Nat) (hi : i < a.length) (R : Bool)
    (hR : Ev (fun f => spec_spCrosses.l0 f a (a.length : Int) (wrap64 ((i : Int) + 1))) R) (s : List Int) : ∀ p : List Int, p ++ s = a →
    Ev (fun f => spec_spCrosses.l1 f a (i : Int) (p.length : Int) (a.length : Int) (i : Int)) (crJ (rd a (i : Int)) s || R) := by
  induction s with
  | nil =>
    intro p hp
    have hl : a.length = p.length := by rw [← hp]; simp
    refine Ev.succ ?_
    simp only [spec_spCrosses.l1]
    simp only [if_neg (show ¬ (p.length : Int) < (a.length : Int) by omega)]
    refine Ev.to hR ?_
    simp [crJ]
  | cons y s ih =>
    intro p hp
    have hl : a.length = p.length + s.length + 1 := by rw [← hp]; simp; omega
    have e0 : rd a (p.length : Int) = y := by rw [← hp]; exact rd_mid rfl
    have e1 : wrap64 ((p.length : Int) + 1) = ((p ++ [y]).length : Int) := by rw [w64 (by omega), len_snoc]
    have hp' : (p ++ [y]) ++ s = a := by rw [← snoc_mid]; exact hp
    have h2 := ih (p ++ [y]) hp'
    rw [← e1] at h2
    have h3 := spec_spCrosses_l2 a ha p.length i hi (by omega) _ h2 s (p ++ [y]) hp'
    refine Ev.succ ?_
    simp only [spec_spCrosses.l1]
    simp only [if_pos (show (p.length : Int) < (a.length : Int) by omega), e1]
    refine Ev.to h3 ?_
    rw [e0]
    simp only [crJ]
    rw [Bool.or_assoc]
theorem spec_spCrosses_l0 (a : List Int) (ha : a.length ≤ 1099511627776) (s : List Int) : ∀ p : List Int, p ++ s = a →
    Ev (fun f => spec_spCrosses.l0 f a (a.length : Int) (p.length : Int)) (crI s) := by
  induction s with
  | nil =>
    intro p hp
    have hl : a.length = p.length := by rw [← hp]; simp
    refine Ev.succ ?_
    simp only [spec_spCrosses.l0]
    simp only [if_neg (show ¬ (p.length : Int) < (a.length : Int) by omega)]
    exact Ev.now _
  | cons x s ih =>
    intro p hp
    have hl : a.length = p.length + s.length + 1 := by rw [← hp]; simp; omega
    have e0 : rd a (p.length : Int) = x := by rw [← hp]; exact rd_mid rfl
    have e1 : wrap64 ((p.length : Int) + 1) = ((p ++ [x]).length : Int) := by rw [w64 (by omega), len_snoc]
    have hp' : (p ++ [x]) ++ s = a := by rw [← snoc_mid]; exact hp
    have h2 := ih (p ++ [x]) hp'
    rw [← e1] at h2
    have h3 := spec_spCrosses_l1 a ha p.length (by omega) _ h2 s (p ++ [x]) hp'
    rw [e0] at h3
    refine Ev.succ ?_
    simp only [spec_spCrosses.l0]
    simp only [if_pos (show (p.length : Int) < (a.length : Int) by omega), e1]
    exact Ev.to h3 (by simp only [crI])
theorem spec_spCrosses_ev (a : List Int) (ha : a.length ≤ 1099511627776) : Ev (fun f => spec_spCrosses.f f a) (crI a) :=
  spec_spCrosses_l0 a ha a [] rfl

theorem impl_crosses_l3 (a : List Int) (ha : a.length ≤ 1099511627776) (x : Int) (j k i : Nat) (hj : j < a.length) (hk : k < a.length) (R : Bool)
    (hR : Ev (fun f => impl_crosses.l2 f a x (j : Int) (wrap64 ((k : Int) + 1)) a (a.length : Int) (i : Int)) R) (t : List Int) : ∀ q : List Int, q ++ t = a →
    Ev (fun f => impl_crosses.l3 f a x (j : Int) (k : Int) (q.length : Int) a (a.length : Int) (i : Int)) (((decide (x = rd a (k : Int)) && !decide (x = rd a (j : Int))) && hasV (rd a (j : Int)) t) || R) := by
  induction t with
  | nil =>
    intro q hq
    have hl : a.length = q.length := by rw [← hq]; simp
    refine Ev.succ ?_
    simp only [impl_crosses.l3]
    simp only [if_neg (show ¬ (q.length : Int) < (a.length : Int) by omega)]
    refine Ev.to hR ?_
    simp [hasV]
  | cons u t ih =>
    intro q hq
    have hl : a.length = q.length + t.length + 1 := by rw [← hq]; simp; omega
    have e0 : rd a (q.length : Int) = u := by rw [← hq]; exact rd_mid rfl
    have e1 : wrap64 ((q.length : Int) + 1) = ((q ++ [u]).length : Int) := by rw [w64 (by omega), len_snoc]
    have := ih (q ++ [u]) (by rw [← snoc_mid]; exact hq)
    refine Ev.succ ?_
    simp only [impl_crosses.l3]
    simp only [if_pos (show (q.length : Int) < (a.length : Int) by omega), if_pos (show 0 ≤ (k : Int) by omega), if_pos (show (k : Int) < (a.length : Int) by omega), if_pos (show 0 ≤ (j : Int) by omega), if_pos (show (j : Int) < (a.length : Int) by omega), if_pos (show 0 ≤ (q.length : Int) by omega), e0, e1]
    by_cases c1 : x = rd a (k : Int)
    · simp only [if_pos c1]
      by_cases c2 : rd a (j : Int) = u
      · simp only [if_pos c2]
        by_cases c3 : x = rd a (j : Int)
        · simp only [if_pos c3]
          refine Ev.to this ?_
          simp [c3]
        · simp only [if_neg c3]
          refine Ev.some_ ?_
          rw [decide_eq_true c1, decide_eq_false c3]
          simp [hasV, c2]
      · simp only [if_neg c2]
        refine Ev.to this ?_
        simp [hasV, Ne.symm c2]
    · simp only [if_neg c1]
      refine Ev.to this ?_
      simp [c1]
theorem impl_crosses_l2 (a : List Int) (ha : a.length ≤ 1099511627776) (x : Int) (j i : Nat) (hj : j < a.length) (R : Bool)
    (hR : Ev (fun f => impl_crosses.l1 f a x (wrap64 ((j : Int) + 1)) a (a.length : Int) (i : Int)) R) (s : List Int) : ∀ p : List Int, p ++ s = a →
    Ev (fun f => impl_crosses.l2 f a x (j : Int) (p.length : Int) a (a.length : Int) (i : Int)) (crK x (rd a (j : Int)) s || R) := by
  induction s with
  | nil =>
    intro p hp
    have hl : a.length = p.length := by rw [← hp]; simp
    refine Ev.succ ?_
    simp only [impl_crosses.l2]
    simp only [if_neg (show ¬ (p.length : Int) < (a.length : Int) by omega)]
    refine Ev.to hR ?_
    simp [crK]
  | cons z s ih =>
    intro p hp
    have hl : a.length = p.length + s.length + 1 := by rw [← hp]; simp; omega
    have e0 : rd a (p.length : Int) = z := by rw [← hp]; exact rd_mid rfl
    have e1 : wrap64 ((p.length : Int) + 1) = ((p ++ [z]).length : Int) := by rw [w64 (by omega), len_snoc]
    have hp' : (p ++ [z]) ++ s = a := by rw [← snoc_mid]; exact hp
    have h2 := ih (p ++ [z]) hp'
    rw [← e1] at h2
    have h3 := impl_crosses_l3 a ha x j p.length i hj (by omega) _ h2 s (p ++ [z]) hp'
    refine Ev.succ ?_
    simp only [impl_crosses.l2]
    simp only [if_pos (show (p.length : Int) < (a.length : Int) by omega), e1]
    refine Ev.to h3 ?_
    rw [e0]
    simp only [crK]
    rw [Bool.or_assoc]
theorem impl_crosses_l1 (a : List Int) (ha : a.length ≤ 1099511627776) (x : Int) (i : Nat) (R : Bool)
    (hR : Ev (fun f => impl_crosses.l0 f a a (a.length : Int) (wrap64 ((i : Int) + 1))) R) (s : List Int) : ∀ p : List Int, p ++ s = a →
    Ev (fun f => impl_crosses.l1 f a x (p.length : Int) a (a.length : Int) (i : Int)) (crJ x s || R) := by
  induction s with
  | nil =>
    intro p hp
    have hl : a.length = p.length := by rw [← hp]; simp
    refine Ev.succ ?_
    simp only [impl_crosses.l1]
    simp only [if_neg (show ¬ (p.length : Int) < (a.length : Int) by omega)]
    refine Ev.to hR ?_
    simp [crJ]
  | cons y s ih =>
    intro p hp
    have hl : a.length = p.length + s.length + 1 := by rw [← hp]; simp; omega
    have e0 : rd a (p.length : Int) = y := by rw [← hp]; exact rd_mid rfl
    have e1 : wrap64 ((p.length : Int) + 1) = ((p ++ [y]).length : Int) := by rw [w64 (by omega), len_snoc]
    have hp' : (p ++ [y]) ++ s = a := by rw [← snoc_mid]; exact hp
    have h2 := ih (p ++ [y]) hp'
    rw [← e1] at h2
    have h3 := impl_crosses_l2 a ha x p.length i (by omega) _ h2 s (p ++ [y]) hp'
    refine Ev.succ ?_
    simp only [impl_crosses.l1]
    simp only [if_pos (show (p.length : Int) < (a.length : Int) by omega), e1]
    refine Ev.to h3 ?_
    rw [e0]
    simp only [crJ]
    rw [Bool.or_assoc]
theorem impl_crosses_l0 (a : List Int) (ha : a.length ≤ 1099511627776) (s : List Int) : ∀ p : List Int, p ++ s = a →
    Ev (fun f => impl_crosses.l0 f a a (a.length : Int) (p.length : Int)) (crI s) := by
  induction s with
  | nil =>
    intro p hp
    have hl : a.length = p.length := by rw [← hp]; simp
    refine Ev.succ ?_
    simp only [impl_crosses.l0]
    simp only [if_neg (show ¬ (p.length : Int) < (a.length : Int) by omega)]
    exact Ev.now _
  | cons x s ih =>
    intro p hp
    have hl : a.length = p.length + s.length + 1 := by rw [← hp]; simp; omega
    have e0 : rd a (p.length : Int) = x := by rw [← hp]; exact rd_mid rfl
    have e1 : wrap64 ((p.length : Int) + 1) = ((p ++ [x]).length : Int) := by rw [w64 (by omega), len_snoc]
    have hp' : (p ++ [x]) ++ s = a := by rw [← snoc_mid]; exact hp
    have h2 := ih (p ++ [x]) hp'
    rw [← e1] at h2
    have h3 := impl_crosses_l1 a ha x p.length _ h2 s (p ++ [x]) hp'
    refine Ev.succ ?_
    simp only [impl_crosses.l0]
    simp only [if_pos (show (p.length : Int) < (a.length : Int) by omega), if_pos (show 0 ≤ (p.length : Int) by omega), e0, e1]
    exact Ev.to h3 (by simp only [crI])
theorem impl_crosses_ev (a : List Int) (ha : a.length ≤ 1099511627776) : Ev (fun f => impl_crosses.f f a) (crI a) :=
  impl_crosses_l0 a ha a [] rfl

theorem FnExactHasCrossing : laws_FnExactHasCrossing.Pure := by
  intro l _ hl _
  unfold laws_FnExactHasCrossing.f
  by_cases hbig : (l.length : Int) > 1048576
  · exact ⟨0, by rw [if_pos hbig]⟩
  simp only [if_neg hbig]
  have hl' : l.length ≤ 1099511627776 := by omega
  have ht := laws_toIntS_ev l hl'
  have he := laws_eqIntS_ev l l hl'
  have hs : Ev (fun k => spec_HasCrossing.f k l) (if isG l = true then (crI l, true) else (false, false)) := by
    unfold spec_HasCrossing.f
    refine Ev.bind (spec_spGrowth_ev l hl') ?_
    split
    · refine Ev.bind (spec_spCrosses_ev l hl') ?_
      exact Ev.now _
    · exact Ev.now _
  have hi : Ev (fun k => impl_HasCrossing.f k l) (if isG l = true then (crI l, true) else (false, false)) := by
    unfold impl_HasCrossing.f
    refine Ev.bind (impl_IsGrowth_ev l hl') ?_
    split
    · refine Ev.bind (impl_crosses_ev l hl') ?_
      exact Ev.now _
    · exact Ev.now _
  refine (Ev.bind ht (Ev.bind hs (Ev.bind ht (Ev.bind hi ?_)))).rounds
  simp only [bne_self_eq_false, Bool.false_eq_true, if_false]
  refine Ev.succ ?_
  simp only [laws_FnExactHasCrossing.j0, Bool.false_eq_true, if_false]
  refine Ev.bind ht (Ev.bind he ?_)
  simp only [decide_true, if_true]
  exact Ev.now _

end Go.Proofs.Ytaaoeaojimjikaa.Pure
