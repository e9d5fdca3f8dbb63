/- The program's BalancedWith returns what the reference's returns, for every pair of whole numbers. -/
import Derived.Test.YtlondmhiccikpaaHFnExactBalancedWithx4
import Derived.Test.YtlondmhiccikpaaCoreA
import Derived.Test.YtlondmhiccikpaaCoreB
namespace Go.Proofs.Ytlondmhiccikpaa.Pure
open Go.RowKit Go.Proofs.Ytlondmhiccikpaa.HFnExactBalancedWith Go.Proofs.YtlondmhiccikpaaW.PrintWords Go.Proofs.YtlondmhiccikpaaW.PrintLast Go.Proofs.YtlondmhiccikpaaW.PrintMore Go.Proofs.Ytlondmhiccikpaa.Core
set_option linter.unusedVariables false
set_option linter.unusedSimpArgs false

theorem laws_eqIntS_loop (s : List Int) : ∀ (p q t : List Int) (i : Int), t.length = s.length → q.length = p.length → i = (p.length : Int) → (p ++ s).length ≤ 1099511627776 →
    Ev (fun k => laws_eqIntS.l0 k (p ++ s) (q ++ t) i) (decide (s = t)) := by
  induction s with
  | nil =>
    intro p q t i ht hq hi hl
    have ht0 : t = [] := List.eq_nil_of_length_eq_zero ht
    subst ht0
    refine Ev.done fun k => ?_
    simp only [laws_eqIntS.l0]
    rw [if_neg (by rw [len_nil]; omega)]
    simp
  | cons x s ih =>
    intro p q t i ht hq hi hl
    cases t with
    | nil => simp at ht
    | cons y t =>
      have ht' : t.length = s.length := by simpa using ht
      have h1 := len_mid p s x
      have h2 := len_mid q t y
      by_cases hxy : x = y
      · have := ih (p ++ [x]) (q ++ [y]) t (i + 1) ht' (by simp [hq]) (by rw [len_snoc]; omega) (by rw [← snoc_mid]; exact hl)
        rw [← snoc_mid, ← snoc_mid] at this
        refine Ev.to (Ev.step' this fun k => ?_) (by simp [hxy])
        simp only [laws_eqIntS.l0]
        rw [if_pos (by omega), if_pos (by omega), if_pos (by omega), rd_mid hi, rd_mid (by omega), if_pos hxy, w64 (by omega)]
      · refine Ev.to (Ev.done fun k => ?_) (show false = _ by simp [hxy])
        simp only [laws_eqIntS.l0]
        rw [if_pos (by omega), if_pos (by omega), if_pos (by omega), rd_mid hi, rd_mid (by omega), if_neg hxy]
theorem laws_eqIntS_ev (l t : List Int) (hl : l.length ≤ 1099511627776) : Ev (fun k => laws_eqIntS.f k l t) (decide (l = t)) := by
  by_cases h : l.length = t.length
  · have := laws_eqIntS_loop l [] [] t 0 h.symm rfl (by simp) (by simpa using hl)
    simp only [List.nil_append] at this
    refine Ev.congr (fun k => ?_) this
    unfold laws_eqIntS.f
    rw [if_pos (by omega)]
  · refine Ev.to (Ev.congr (fun k => ?_) (Ev.now false)) (by rw [decide_eq_false]; exact fun e => h (by rw [e]))
    unfold laws_eqIntS.f
    rw [if_neg (by omega)]

theorem laws_markIntS_loop (s : List Int) : ∀ (p : List Int) (m i : Int), 0 ≤ m → m + s.length ≤ 1099511627776 → i = (p.length : Int) → (p ++ s).length ≤ 1099511627776 →
    Ev (fun k => laws_markIntS.l0 k (p ++ s) m i) (m + s.length, p ++ upFrom m s.length) := by
  induction s with
  | nil =>
    intro p m i hm hm' hi hl
    refine Ev.to (Ev.done fun k => ?_) (show (m, p ++ []) = _ by simp [upFrom])
    simp only [laws_markIntS.l0]
    rw [if_neg (by rw [len_nil]; omega)]
  | cons x s ih =>
    intro p m i hm hm' hi hl
    have h1 := len_mid p s x
    have h2 : (((x :: s).length : Nat) : Int) = s.length + 1 := by simp
    have h3 : (p ++ m :: s).length = (p ++ x :: s).length := by simp
    have := ih (p ++ [m]) (m + 1) (i + 1) (by omega) (by omega) (by rw [len_snoc]; omega) (by rw [← snoc_mid, h3]; exact hl)
    rw [← snoc_mid] at this
    refine Ev.to (Ev.step' this fun k => ?_) (by rw [h2, ← snoc_mid]; simp only [List.length_cons, upFrom]; congr 1; omega)
    simp only [laws_markIntS.l0]
    rw [if_pos (by omega), if_pos (by omega), set_mid hi, w64 (by omega), w64 (by omega)]
theorem laws_markIntS_ev (l : List Int) (hl : l.length ≤ 109951162777) : Ev (fun k => laws_markIntS.f k l 1) (1 + l.length, upFrom 1 l.length) :=
  laws_markIntS_loop l [] 1 0 (by omega) (by omega) (by simp) (by simp; omega)

theorem laws_heldIntS_loop (n : Nat) : ∀ (p : List Int) (m i : Int), 0 ≤ m → m + n ≤ 1099511627776 → i = (p.length : Int) → p.length + n ≤ 1099511627776 →
    Ev (fun k => laws_heldIntS.l0 k (p ++ upFrom m n) m i) (m + n) := by
  induction n with
  | zero =>
    intro p m i hm hm' hi hl
    show Ev (fun k => laws_heldIntS.l0 k (p ++ []) m i) _
    refine Ev.to (Ev.done fun k => ?_) (show m = _ by simp)
    simp only [laws_heldIntS.l0]
    rw [if_neg (by rw [len_nil]; omega)]
  | succ n ih =>
    intro p m i hm hm' hi hl
    have h1 := len_mid p (upFrom (m + 1) n) m
    have := ih (p ++ [m]) (m + 1) (i + 1) (by omega) (by omega) (by rw [len_snoc]; omega) (by rw [List.length_append]; simp; omega)
    rw [← snoc_mid] at this
    show Ev (fun k => laws_heldIntS.l0 k (p ++ m :: upFrom (m + 1) n) m i) _
    refine Ev.to (Ev.step' this fun k => ?_) (by omega)
    simp only [laws_heldIntS.l0]
    rw [if_pos (by omega), if_pos (by omega), rd_mid hi, if_pos rfl, w64 (by omega), w64 (by omega)]
theorem laws_heldIntS_ev (n : Nat) (hn : n ≤ 109951162777) : Ev (fun k => laws_heldIntS.f k (upFrom 1 n) 1) (1 + n) :=
  laws_heldIntS_loop n [] 1 0 (by omega) (by omega) (by simp) (by simp; omega)

theorem spec_l1In_eq (a b c : Int) : spec_l1In.f a b c = some (inB a b c) := inB_ite a b c

theorem spec_spCloses_l2 (o m t : Int) (W : List Int) (hW : W.length ≤ 1000) (hin : ∀ x ∈ W, 0 ≤ x ∧ x ≤ 1099511627776000) (R : Int) (s : List Int) : ∀ (x prev : Int) (p q : List Int), p ++ x :: s = W → q.length = p.length → (p = [] → prev = 0) → (∀ r, 0 < p.length → rd (q ++ r) ((p.length : Int) - 1) = prev) → 0 ≤ prev → prev ≤ 1099511627776000 * p.length →
    Ev (fun k => spec_spCloses.l1 k o m (q ++ nxtS prev (x :: s)) (wrap64 (t + 1))) R →
    Ev (fun k => spec_spCloses.l2 k o m W t (q ++ List.replicate (s.length + 1) 0) (p.length : Int)) R := by
  induction s with
  | nil =>
    intro x prev p q h1 h2 h3 h4 hp0 hp1 hR
    have : W.length = p.length + 1 := by rw [← h1]; simp
    have ew : wrap64 ((p.length : Int) + 1) = (p.length : Int) + 1 := w64 (by omega)
    refine Ev.succ ?_
    simp only [spec_spCloses.l2]
    simp only [ew, if_neg (show ¬ (p.length : Int) + 1 < (W.length : Int) by omega)]
    exact hR
  | cons y s ih =>
    intro x prev p q h1 h2 h3 h4 hp0 hp1 hR
    have hlen : W.length = p.length + s.length + 2 := by rw [← h1]; simp; omega
    have e0 : rd W ((p.length : Int) + 1) = y := by
      rw [← h1, snoc_mid]; exact rd_mid (by rw [len_snoc])
    have ew : wrap64 ((p.length : Int) + 1) = (p.length : Int) + 1 := w64 (by omega)
    have ew' : wrap64 ((p.length : Int) - 1) = (p.length : Int) - 1 := w64 (by omega)
    have hy := hin y (by rw [← h1]; simp)
    have hp' : (p ++ [x]) ++ y :: s = W := by rw [← snoc_mid]; exact h1
    have hr : List.replicate ((y :: s).length + 1) (0 : Int) = 0 :: List.replicate (s.length + 1) 0 := rfl
    have hql : ((q ++ 0 :: List.replicate (s.length + 1) (0 : Int)).length : Int) = p.length + s.length + 2 := by simp; omega
    have hset : (q ++ 0 :: List.replicate (s.length + 1) (0 : Int)).set (p.length : Int).toNat y = q ++ y :: List.replicate (s.length + 1) 0 := set_mid (by rw [h2])
    have hsn := len_snoc p x
    have hnext := fun z hz0 hz1 => ih y z (p ++ [x]) (q ++ [z]) hp' (by simp [h2]) (by simp) (fun r _ => by rw [len_snoc, show (p.length : Int) + 1 - 1 = p.length by omega, List.append_assoc]; exact rd_mid (by rw [h2])) hz0 hz1
    rw [hr]
    refine Ev.succ ?_
    simp only [spec_spCloses.l2]
    simp only [ew, ew', if_pos (show (p.length : Int) + 1 < (W.length : Int) by omega), if_pos (show 0 ≤ (p.length : Int) + 1 by omega), if_pos (show 0 ≤ (p.length : Int) by omega), hql, if_pos (show (p.length : Int) < (p.length : Int) + (s.length : Int) + 2 by omega), e0, hset, obind]
    by_cases hpos : (p.length : Int) > 0
    · have er : rd (q ++ y :: List.replicate (s.length + 1) 0) (p.length : Int) = y := rd_mid (by rw [h2])
      have er' := h4 (y :: List.replicate (s.length + 1) 0) (by omega)
      have es : (q ++ y :: List.replicate (s.length + 1) 0).set (p.length : Int).toNat (y + prev) = q ++ (y + prev) :: List.replicate (s.length + 1) 0 := set_mid (by rw [h2])
      have ev : wrap64 (y + prev) = y + prev := w64 (by omega)
      simp only [if_pos hpos, if_pos (show 0 ≤ (p.length : Int) - 1 by omega), if_pos (show (p.length : Int) - 1 < (p.length : Int) + (s.length : Int) + 2 by omega), er, er', ev, es]
      have := hnext (y + prev) (by omega) (by omega) (by simpa [nxtS] using hR)
      rw [len_snoc, List.append_assoc] at this
      exact this
    · have hp0 : p = [] := List.eq_nil_of_length_eq_zero (by omega)
      have h0 := h3 hp0
      simp only [if_neg hpos]
      have := hnext y (by omega) (by omega) (by subst h0; simpa [nxtS] using hR)
      rw [len_snoc, List.append_assoc] at this
      exact this
theorem spec_spCloses_l1 (n m : Nat) (hn : n ≤ 13) (hm : m ≤ 12) (o : Nat) (ho : o ≤ n) (d : Nat) : ∀ t : Nat, t + d = m →
    Ev (fun k => spec_spCloses.l1 k (o : Int) (m : Int) (rowS n t) ((t : Int) + 1)) ((rowS n m).getD o 0) := by
  induction d with
  | zero =>
    intro t ht
    have hl := rowS_len n t
    have : t = m := by omega
    subst this
    refine Ev.succ ?_
    simp only [spec_spCloses.l1]
    simp only [if_neg (show ¬ (t : Int) + 1 ≤ (t : Int) by omega), if_pos (show 0 ≤ (o : Int) by omega), if_pos (show (o : Int) < ((rowS n t).length : Int) by omega)]
    exact Ev.some_ (by simp [rd])
  | succ d ih =>
    intro t ht
    have hl := rowS_len n t
    have e2 : wrap64 ((t : Int) + 1 + 1) = ((t + 1 : Nat) : Int) + 1 := by rw [w64 (by omega)]; omega
    have hb : ∀ x ∈ rowS n t, 0 ≤ x ∧ x ≤ 1099511627776000 := fun x hx => by have := rowS_small (n := n) (t := t) hn (by omega) x hx; omega
    refine Ev.succ ?_
    simp only [spec_spCloses.l1]
    simp only [if_pos (show (t : Int) + 1 ≤ (m : Int) by omega), if_pos (show 0 ≤ ((rowS n t).length : Int) by omega), Int.toNat_natCast, if_pos (show (rowS n t).length ≤ 35184372088832 by omega)]
    obtain ⟨x, s, hxs⟩ : ∃ x s, rowS n t = x :: s := by
      cases h : rowS n t with
      | nil => rw [h] at hl; simp at hl
      | cons x s => exact ⟨x, s, rfl⟩
    have hls : (rowS n t).length = s.length + 1 := by rw [hxs]; rfl
    have hrep : List.replicate (rowS n t).length (0 : Int) = [] ++ List.replicate (s.length + 1) 0 := by rw [hls]; rfl
    rw [hrep]
    refine spec_spCloses_l2 (o : Int) (m : Int) ((t : Int) + 1) (rowS n t) (by omega) hb _ s x 0 [] [] (by rw [hxs]; rfl) rfl (fun _ => rfl) (by simp) (by omega) (by simp) ?_
    rw [e2, List.nil_append, ← hxs]
    exact ih (t + 1) (by omega)
theorem spec_spCloses_l0 (o m : Int) (n : Nat) (hn : n ≤ 1000) (R : Int) (d : Nat) : ∀ t : Nat, t + d = n →
    Ev (fun k => spec_spCloses.l1 k o m (List.replicate n 1) 1) R →
    Ev (fun k => spec_spCloses.l0 k o m (List.replicate t 1 ++ List.replicate d 0) (n : Int) (t : Int)) R := by
  induction d with
  | zero =>
    intro t ht hR
    have : t = n := by omega
    subst this
    refine Ev.succ ?_
    simp only [spec_spCloses.l0]
    simp only [if_neg (show ¬ (t : Int) < (t : Int) by omega)]
    simpa using hR
  | succ d ih =>
    intro t ht hR
    have e1 : wrap64 ((t : Int) + 1) = ((t + 1 : Nat) : Int) := by rw [w64 (by omega)]; omega
    have e2 : (List.replicate t 1 ++ List.replicate (d + 1) 0 : List Int).set (t : Int).toNat 1 = List.replicate (t + 1) 1 ++ List.replicate d 0 := by
      rw [List.replicate_succ, set_mid (by simp), snoc_mid, ← List.replicate_succ']
    have e3 : ((List.replicate t 1 ++ List.replicate (d + 1) 0 : List Int).length : Int) = (n : Int) := by simp; omega
    refine Ev.succ ?_
    simp only [spec_spCloses.l0]
    simp only [e3, if_pos (show (t : Int) < (n : Int) by omega), if_pos (show 0 ≤ (t : Int) by omega), e1, e2]
    exact ih (t + 1) (by omega) hR
theorem spec_spCloses_ev (o m : Nat) (h : o + m ≤ 12) : Ev (fun n => spec_spCloses.f n (o : Int) (m : Int)) ((bw m o : Nat) : Int) := by
  unfold spec_spCloses.f
  have e1 : wrap64 (wrap64 ((o : Int) + (m : Int)) + 2) = ((o + m + 2 : Nat) : Int) := by
    rw [w64 (n := (o : Int) + (m : Int)) (by omega), w64 (by omega)]; omega
  simp only [e1, if_pos (show 0 ≤ ((o + m + 2 : Nat) : Int) by omega), Int.toNat_natCast, if_pos (show o + m + 2 ≤ 35184372088832 by omega), obind]
  simp only [List.length_replicate]
  have h1 := spec_spCloses_l1 (o + m + 1) m (by omega) (by omega) o (by omega) m 0 (by omega)
  rw [rowS_get _ _ _ (by omega)] at h1
  exact spec_spCloses_l0 (o : Int) (m : Int) (o + m + 2) (by omega) _ (o + m + 2) 0 (by omega) h1

theorem spec_BalancedWith_loop (n : Nat) (hn : n ≤ 12) (r : Nat) : ∀ (o m rank : Nat) (out : List Int), out.length + r = 2 * n → r = o + 2 * m → o + m ≤ n → rank < bw m o →
    Ev (fun f => spec_BalancedWith.l0 f (n : Int) (rank : Int) out (o : Int) (m : Int)) (out ++ unB r o m rank, true) := by
  induction r with
  | zero =>
    intro o m rank out h1 h2 h3 h4
    have c8 : n ≤ 1099511627776 := by omega
    have c1 : ¬ (out.length : Int) < ((2 * n : Nat) : Int) := by omega
    refine Ev.to (Ev.done fun f => ?_) (show (out, true) = _ by simp [unB])
    simp only [spec_BalancedWith.l0]
    rw [i_two c8, if_neg c1]
  | succ r ih =>
    intro o m rank out h1 h2 h3 h4
    have hlow := low_le m o
    have hb := bw_small (o := o) (m := m) (by omega)
    have c1 : (out.length : Int) < ((2 * n : Nat) : Int) := by omega
    have c7 : out.length < 17592186044416 := by omega
    have c8 : n ≤ 1099511627776 := by omega
    have c9 : ¬ (rank : Int) < 0 := by omega
    by_cases hge : lowB m o ≤ rank
    · have hm : 1 ≤ m := by
        cases m with
        | zero =>
          have h5 : bw 0 o = 1 := bw_last o
          cases o with
          | zero => omega
          | succ o =>
            have h6 := low_succ 0 o
            have h7 : bw 0 o = 1 := bw_last o
            omega
        | succ m => omega
      obtain ⟨m, rfl⟩ : ∃ q, m = q + 1 := ⟨m - 1, by omega⟩
      have el := @low_one m o
      have b2 : o ≤ 1099511627776 := by omega
      have b6 : m ≤ 1099511627776 := by omega
      have b7 : ¬ ((m + 1 : Nat) : Int) = 0 := by omega
      have hih := ih (o + 1) m (rank - lowB (m + 1) o) (out ++ [1]) (by simp; omega) (by omega) (by omega) (by omega)
      cases o with
      | zero =>
        rw [low_zero, Nat.sub_zero] at hih
        have b8 : wrap64 ((rank : Int) - 0) = (rank : Int) := by rw [w64 (by omega)]; omega
        refine Ev.succ ?_
        simp only [spec_BalancedWith.l0]
        simp only [i_two c8, if_pos c1, if_neg (show ¬ ((0 : Nat) : Int) > 0 by decide), if_neg c9, if_neg b7, if_pos c7, b8, i_up b2, i_down b6]
        refine Ev.to hih ?_
        simp [unB, low_zero]
      | succ o =>
        have b4 : o ≤ 1099511627776 := by omega
        have b5 : ((o + 1 : Nat) : Int) > 0 := by omega
        have hcl := spec_spCloses_ev o (m + 1) (by omega)
        rw [low_succ] at hih hge
        have b3 : ¬ (rank : Int) < ((bw (m + 1) o : Nat) : Int) := by omega
        have b9 : -9223372036854775808 ≤ (rank : Int) - ((bw (m + 1) o : Nat) : Int) ∧ (rank : Int) - ((bw (m + 1) o : Nat) : Int) ≤ 9223372036854775807 := by omega
        have b10 : (rank : Int) - ((bw (m + 1) o : Nat) : Int) = ((rank - bw (m + 1) o : Nat) : Int) := by omega
        refine Ev.succ ?_
        simp only [spec_BalancedWith.l0]
        simp only [i_two c8, if_pos c1, if_pos b5, i_down b4]
        refine Ev.bind hcl ?_
        simp only [if_neg b3, if_neg b7, if_pos c7, (show wrap64 ((rank : Int) - ((bw (m + 1) o : Nat) : Int)) = ((rank - bw (m + 1) o : Nat) : Int) by rw [w64 b9, b10]), i_up b2, i_down b6]
        refine Ev.to hih ?_
        simp [unB, low_succ, hge]
    · have ho : 1 ≤ o := by
        cases o with
        | zero => rw [low_zero] at hge; omega
        | succ o => omega
      obtain ⟨o, rfl⟩ : ∃ q, o = q + 1 := ⟨o - 1, by omega⟩
      have h6 := low_succ m o
      have b2 : o ≤ 1099511627776 := by omega
      have b5 : ((o + 1 : Nat) : Int) > 0 := by omega
      have b3 : (rank : Int) < ((bw m o : Nat) : Int) := by omega
      have hcl := spec_spCloses_ev o m (by omega)
      have hih := ih o m rank (out ++ [0]) (by simp; omega) (by omega) (by omega) (by omega)
      refine Ev.succ ?_
      simp only [spec_BalancedWith.l0]
      simp only [i_two c8, if_pos c1, if_pos b5, i_down b2]
      refine Ev.bind hcl ?_
      simp only [if_pos b3, if_pos c7]
      refine Ev.to hih ?_
      simp [unB, hge]
theorem spec_BalancedWith_ev (n rank : Int) : Ev (fun f => spec_BalancedWith.f f n rank) (if isBk n rank = true then (unB (2 * n.toNat) 0 n.toNat rank.toNat, true) else ([], false)) := by
  unfold isBk spec_BalancedWith.f
  by_cases hn : 0 ≤ n ∧ n ≤ 12
  · obtain ⟨m, rfl⟩ : ∃ m : Nat, n = (m : Int) := ⟨n.toNat, by omega⟩
    have hb := bw_small (o := 0) (m := m) (by omega)
    have hc := spec_spCloses_ev 0 m (by omega)
    have b1 : -9223372036854775808 ≤ ((bw m 0 : Nat) : Int) - 1 ∧ ((bw m 0 : Nat) : Int) - 1 ≤ 9223372036854775807 := by omega
    simp only [spec_l1In_eq, inB_yes hn, obind, if_true, Bool.true_and, Int.toNat_natCast]
    refine Ev.bind hc ?_
    simp only [w64 b1]
    refine Ev.succ ?_
    simp only [spec_BalancedWith.j0]
    by_cases hr : 0 ≤ rank ∧ rank ≤ ((bw m 0 : Nat) : Int) - 1
    · obtain ⟨q, rfl⟩ : ∃ q : Nat, rank = (q : Int) := ⟨rank.toNat, by omega⟩
      simp only [inB_yes hr, Bool.not_true, Bool.false_eq_true, if_false, if_true, Int.toNat_natCast]
      exact spec_BalancedWith_loop m (by omega) (2 * m) 0 m q [] (by simp) (by omega) (by omega) (by omega)
    · simp only [inB_no hr, Bool.not_false, if_true, Bool.false_eq_true, if_false]
      exact Ev.now _
  · simp only [spec_l1In_eq, inB_no hn, obind, Bool.false_and, Bool.false_eq_true, if_false]
    refine Ev.succ ?_
    simp only [spec_BalancedWith.j0, if_true]
    exact Ev.now _

theorem impl_within_eq (a b c : Int) : impl_within.f a b c = some (inB a b c) := inB_ite a b c

theorem impl_closings_l1 (o n t : Int) (W : List Int) (hW : W.length ≤ 1000) (hin : ∀ x ∈ W, 0 ≤ x ∧ x ≤ 1099511627776) (R : Int) (s : List Int) : ∀ (x prev : Int) (p q : List Int), p ++ x :: s = W → q.length = p.length → (p = [] → prev = 0) → (0 < p.length → rd W ((p.length : Int) - 1) = prev) →
    Ev (fun k => impl_closings.l0 k o (q ++ nxtC prev (x :: s)) n (wrap64 (t + 1))) R →
    Ev (fun k => impl_closings.l1 k o W (q ++ List.replicate (s.length + 1) 0) n t ((W.length : Int) - 1) (p.length : Int)) R := by
  induction s with
  | nil =>
    intro x prev p q h1 h2 h3 h4 hR
    have : W.length = p.length + 1 := by rw [← h1]; simp
    refine Ev.succ ?_
    simp only [impl_closings.l1]
    simp only [if_neg (show ¬ (p.length : Int) < (W.length : Int) - 1 by omega)]
    exact hR
  | cons y s ih =>
    intro x prev p q h1 h2 h3 h4 hR
    have hlen : W.length = p.length + s.length + 2 := by rw [← h1]; simp; omega
    have e0 : rd W ((p.length : Int) + 1) = y := by
      rw [← h1, snoc_mid]; exact rd_mid (by rw [len_snoc])
    have ew : wrap64 ((p.length : Int) + 1) = (p.length : Int) + 1 := w64 (by omega)
    have ew' : wrap64 ((p.length : Int) - 1) = (p.length : Int) - 1 := w64 (by omega)
    have hx := hin x (by rw [← h1]; simp)
    have hy := hin y (by rw [← h1]; simp)
    have hp' : (p ++ [x]) ++ y :: s = W := by rw [← snoc_mid]; exact h1
    have hr : List.replicate ((y :: s).length + 1) (0 : Int) = 0 :: List.replicate (s.length + 1) 0 := rfl
    have hql : ((q ++ 0 :: List.replicate (s.length + 1) (0 : Int)).length : Int) = p.length + s.length + 2 := by simp; omega
    have hset : (q ++ 0 :: List.replicate (s.length + 1) (0 : Int)).set (p.length : Int).toNat y = q ++ y :: List.replicate (s.length + 1) 0 := set_mid (by rw [h2])
    have hnext := fun z => ih y x (p ++ [x]) (q ++ [z]) hp' (by simp [h2]) (by simp) (fun _ => by rw [len_snoc, show (p.length : Int) + 1 - 1 = p.length by omega, ← h1]; exact rd_mid rfl)
    rw [hr]
    refine Ev.succ ?_
    simp only [impl_closings.l1]
    simp only [ew, ew', if_pos (show (p.length : Int) < (W.length : Int) - 1 by omega), if_pos (show 0 ≤ (p.length : Int) + 1 by omega), if_pos (show (p.length : Int) + 1 < (W.length : Int) by omega), if_pos (show 0 ≤ (p.length : Int) by omega), hql, if_pos (show (p.length : Int) < (p.length : Int) + (s.length : Int) + 2 by omega), e0, hset, obind]
    by_cases hpos : (p.length : Int) > 0
    · have hprev := h4 (by omega)
      have hpm : prev ∈ W := by rw [← hprev]; exact rd_mem (by omega) (by omega)
      have hpb := hin prev hpm
      have er : rd (q ++ y :: List.replicate (s.length + 1) 0) (p.length : Int) = y := rd_mid (by rw [h2])
      have es : (q ++ y :: List.replicate (s.length + 1) 0).set (p.length : Int).toNat (y + prev) = q ++ (y + prev) :: List.replicate (s.length + 1) 0 := set_mid (by rw [h2])
      have ev : wrap64 (y + prev) = y + prev := w64 (by omega)
      simp only [if_pos hpos, if_pos (show 0 ≤ (p.length : Int) - 1 by omega), if_pos (show (p.length : Int) - 1 < (W.length : Int) by omega), er, hprev, ev, es]
      have := hnext (y + prev) (by simpa [nxtC] using hR)
      rw [len_snoc, List.append_assoc] at this
      exact this
    · have hp0 : p = [] := List.eq_nil_of_length_eq_zero (by omega)
      have h0 := h3 hp0
      simp only [if_neg hpos]
      have := hnext y (by subst h0; simpa [nxtC] using hR)
      rw [len_snoc, List.append_assoc] at this
      exact this
theorem impl_closings_l0 (n r : Nat) (hn : n ≤ 100) (hr : r ≤ 30) (o : Nat) (ho : o ≤ n) (d : Nat) : ∀ t : Nat, t + d = r →
    Ev (fun k => impl_closings.l0 k (o : Int) (rowC n t) (r : Int) (t : Int)) ((rowC n r).getD o 0) := by
  induction d with
  | zero =>
    intro t ht
    have hl := rowC_len n t
    have : t = r := by omega
    subst this
    refine Ev.succ ?_
    simp only [impl_closings.l0]
    simp only [if_neg (show ¬ (t : Int) < (t : Int) by omega), if_pos (show 0 ≤ (o : Int) by omega), if_pos (show (o : Int) < ((rowC n t).length : Int) by omega)]
    exact Ev.some_ (by simp [rd])
  | succ d ih =>
    intro t ht
    have hl := rowC_len n t
    have e1 : wrap64 (((rowC n t).length : Int) - 1) = ((rowC n t).length : Int) - 1 := w64 (by omega)
    have e2 : wrap64 ((t : Int) + 1) = ((t + 1 : Nat) : Int) := by rw [w64 (by omega)]; omega
    have hb : ∀ x ∈ rowC n t, 0 ≤ x ∧ x ≤ 1099511627776 := fun x hx => by have := rowC_small (n := n) (t := t) (by omega) x hx; omega
    refine Ev.succ ?_
    simp only [impl_closings.l0]
    simp only [if_pos (show (t : Int) < (r : Int) by omega), if_pos (show 0 ≤ ((rowC n t).length : Int) by omega), Int.toNat_natCast, if_pos (show (rowC n t).length ≤ 35184372088832 by omega), e1]
    obtain ⟨x, s, hxs⟩ : ∃ x s, rowC n t = x :: s := by
      cases h : rowC n t with
      | nil => rw [h] at hl; simp at hl
      | cons x s => exact ⟨x, s, rfl⟩
    have hls : (rowC n t).length = s.length + 1 := by rw [hxs]; rfl
    have hrep : List.replicate (rowC n t).length (0 : Int) = [] ++ List.replicate (s.length + 1) 0 := by rw [hls]; rfl
    rw [hrep]
    refine impl_closings_l1 (o : Int) (r : Int) (t : Int) (rowC n t) (by omega) hb _ s x 0 [] [] (by rw [hxs]; rfl) rfl (fun _ => rfl) (by simp) ?_
    rw [e2, List.nil_append, ← hxs]
    exact ih (t + 1) (by omega)
theorem impl_closings_ev (o m : Nat) (h : o + m ≤ 12) : Ev (fun n => impl_closings.f n (o : Int) ((o + 2 * m : Nat) : Int)) ((bw m o : Nat) : Int) := by
  unfold impl_closings.f
  have e1 : wrap64 (wrap64 ((o : Int) + ((o + 2 * m : Nat) : Int)) + 2) = ((o + (o + 2 * m) + 2 : Nat) : Int) := by
    rw [w64 (n := (o : Int) + ((o + 2 * m : Nat) : Int)) (by omega), w64 (by omega)]; omega
  have e2 : (List.replicate (o + (o + 2 * m) + 2) (0 : Int)).set (0 : Int).toNat 1 = rowC (o + (o + 2 * m) + 1) 0 := rfl
  simp only [e1, if_pos (show 0 ≤ ((o + (o + 2 * m) + 2 : Nat) : Int) by omega), Int.toNat_natCast, if_pos (show o + (o + 2 * m) + 2 ≤ 35184372088832 by omega), obind]
  simp only [List.length_replicate, if_pos (show (0 : Int) < ((o + (o + 2 * m) + 2 : Nat) : Int) by omega), e2]
  refine Ev.to (impl_closings_l0 (o + (o + 2 * m) + 1) (o + 2 * m) (by omega) (by omega) o (by omega) (o + 2 * m) 0 (by omega)) ?_
  rw [rowC_get _ _ _ (by omega), bcI_bw _ o m rfl]

theorem impl_lower_ev (o m r : Nat) (h : o + m ≤ 12) (hr : r + 1 = o + 2 * m) : Ev (fun n => impl_lower.f n (o : Int) (r : Int)) ((lowB m o : Nat) : Int) := by
  unfold impl_lower.f
  cases o with
  | zero =>
    simp only [Int.natCast_zero, if_true, low_zero]
    exact Ev.now _
  | succ o =>
    have e : wrap64 (((o + 1 : Nat) : Int) - 1) = (o : Int) := by rw [w64 (by omega)]; omega
    have er : r = o + 2 * m := by omega
    subst er
    simp only [if_neg (show ¬ ((o + 1 : Nat) : Int) = 0 by omega), e]
    refine Ev.bind (impl_closings_ev o m (by omega)) ?_
    rw [low_succ]
    exact Ev.now _

theorem impl_BalancedWith_loop (n : Nat) (hn : n ≤ 12) (r : Nat) : ∀ (o m rank : Nat) (out : List Int), out.length + r = 2 * n → r = o + 2 * m → o + m ≤ n → rank < bw m o →
    Ev (fun f => impl_BalancedWith.l0 f (n : Int) (rank : Int) out (o : Int) ((2 * n : Nat) : Int) (out.length : Int)) (out ++ unB r o m rank, true) := by
  induction r with
  | zero =>
    intro o m rank out h1 h2 h3 h4
    refine Ev.to (Ev.done fun f => ?_) (show (out, true) = _ by simp [unB])
    simp only [impl_BalancedWith.l0]
    rw [if_neg (by omega)]
  | succ r ih =>
    intro o m rank out h1 h2 h3 h4
    have hlow := low_le m o
    have hb := bw_small (o := o) (m := m) (by omega)
    have c1 : (out.length : Int) < ((2 * n : Nat) : Int) := by omega
    have c3 : out.length ≤ 1099511627776 := by omega
    have c5 : out.length + (r + 1) = 2 * n := h1
    have c6 : 2 * n ≤ 1099511627776 := by omega
    have c7 : out.length < 17592186044416 := by omega
    have c8 : n ≤ 1099511627776 := by omega
    have hlo := impl_lower_ev o m r (by omega) h2
    by_cases hge : lowB m o ≤ rank
    · have hm : 1 ≤ m := by
        cases m with
        | zero =>
          have h5 : bw 0 o = 1 := bw_last o
          cases o with
          | zero => omega
          | succ o =>
            have h6 := low_succ 0 o
            have h7 : bw 0 o = 1 := bw_last o
            omega
        | succ m => omega
      obtain ⟨m, rfl⟩ : ∃ q, m = q + 1 := ⟨m - 1, by omega⟩
      have el := @low_one m o
      have b2 : o ≤ 1099511627776 := by omega
      have b3 : (rank : Int) ≥ ((lowB (m + 1) o : Nat) : Int) := by omega
      have b4 : -9223372036854775808 ≤ (rank : Int) - ((lowB (m + 1) o : Nat) : Int) ∧ (rank : Int) - ((lowB (m + 1) o : Nat) : Int) ≤ 9223372036854775807 := by omega
      have b5 : (rank : Int) - ((lowB (m + 1) o : Nat) : Int) = ((rank - lowB (m + 1) o : Nat) : Int) := by omega
      have hih := ih (o + 1) m (rank - lowB (m + 1) o) (out ++ [1]) (by simp; omega) (by omega) (by omega) (by omega)
      refine Ev.succ ?_
      simp only [impl_BalancedWith.l0]
      simp only [if_pos c1, i_two c8, i_last c5 c6]
      refine Ev.bind hlo ?_
      simp only [if_pos b3, if_pos c7, (show wrap64 ((rank : Int) - ((lowB (m + 1) o : Nat) : Int)) = ((rank - lowB (m + 1) o : Nat) : Int) by rw [w64 b4, b5]), i_plus1 b2, i_succ (out := out) (x := (1 : Int)) c3]
      refine Ev.to hih ?_
      simp [unB, hge]
    · have ho : 1 ≤ o := by
        cases o with
        | zero => rw [low_zero] at hge; omega
        | succ o => omega
      obtain ⟨o, rfl⟩ : ∃ q, o = q + 1 := ⟨o - 1, by omega⟩
      have h6 := low_succ m o
      have b2 : o ≤ 1099511627776 := by omega
      have b3 : ¬ (rank : Int) ≥ ((lowB m (o + 1) : Nat) : Int) := by omega
      have hih := ih o m rank (out ++ [0]) (by simp; omega) (by omega) (by omega) (by omega)
      refine Ev.succ ?_
      simp only [impl_BalancedWith.l0]
      simp only [if_pos c1, i_two c8, i_last c5 c6]
      refine Ev.bind hlo ?_
      simp only [if_neg b3, if_pos c7, i_minus1 b2, i_succ (out := out) (x := (0 : Int)) c3]
      refine Ev.to hih ?_
      simp [unB, hge]
theorem impl_BalancedWith_ev (n rank : Int) : Ev (fun f => impl_BalancedWith.f f n rank) (if isBk n rank = true then (unB (2 * n.toNat) 0 n.toNat rank.toNat, true) else ([], false)) := by
  unfold isBk impl_BalancedWith.f
  by_cases hn : 0 ≤ n ∧ n ≤ 12
  · obtain ⟨m, rfl⟩ : ∃ m : Nat, n = (m : Int) := ⟨n.toNat, by omega⟩
    have hb := bw_small (o := 0) (m := m) (by omega)
    have c8 : m ≤ 1099511627776 := by omega
    have hc := impl_closings_ev 0 m (by omega)
    rw [Nat.zero_add] at hc
    have b1 : -9223372036854775808 ≤ ((bw m 0 : Nat) : Int) - 1 ∧ ((bw m 0 : Nat) : Int) - 1 ≤ 9223372036854775807 := by omega
    simp only [impl_within_eq, inB_yes hn, obind, if_true, Bool.true_and, Int.toNat_natCast, i_two c8]
    refine Ev.bind hc ?_
    simp only [w64 b1]
    refine Ev.succ ?_
    simp only [impl_BalancedWith.j0]
    by_cases hr : 0 ≤ rank ∧ rank ≤ ((bw m 0 : Nat) : Int) - 1
    · obtain ⟨q, rfl⟩ : ∃ q : Nat, rank = (q : Int) := ⟨rank.toNat, by omega⟩
      simp only [inB_yes hr, Bool.not_true, Bool.false_eq_true, if_false, if_true, Int.toNat_natCast, i_two c8]
      exact impl_BalancedWith_loop m (by omega) (2 * m) 0 m q [] (by simp) (by omega) (by omega) (by omega)
    · simp only [inB_no hr, Bool.not_false, if_true, Bool.false_eq_true, if_false]
      exact Ev.now _
  · simp only [impl_within_eq, inB_no hn, obind, Bool.false_and, Bool.false_eq_true, if_false]
    refine Ev.succ ?_
    simp only [impl_BalancedWith.j0, if_true]
    exact Ev.now _

theorem FnExactBalancedWith : laws_FnExactBalancedWith.Pure := by
  intro a0 a1 _ _
  unfold laws_FnExactBalancedWith.f
  have hs := spec_BalancedWith_ev a0 a1
  have hi := impl_BalancedWith_ev a0 a1
  have hl : (if isBk a0 a1 = true then (unB (2 * a0.toNat) 0 a0.toNat a1.toNat, true) else ([], false) : List Int × Bool).1.length ≤ 1048576 := by
    split
    · rename_i h
      show (unB _ _ _ _).length ≤ 1048576
      rw [unB_len]
      have := isBk_true h
      omega
    · simp
  generalize (if isBk a0 a1 = true then (unB (2 * a0.toNat) 0 a0.toNat a1.toNat, true) else ([], false) : List Int × Bool) = R at hs hi hl
  obtain ⟨o, b⟩ := R
  simp only at hl
  have he := laws_eqIntS_ev o o (by omega)
  have hm := laws_markIntS_ev o (by omega)
  have hh := laws_heldIntS_ev o.length (by omega)
  refine (Ev.bind hs (Ev.bind hi (Ev.bind he ?_))).rounds
  simp only [decide_true, if_true, bne_self_eq_false]
  refine Ev.succ ?_
  simp only [laws_FnExactBalancedWith.j0, Bool.false_eq_true, if_false]
  refine Ev.bind hm (Ev.bind hh ?_)
  simp only [if_neg (show ¬ (1 + (o.length : Int)) < 0 by omega), if_true]
  refine Ev.bind hi (Ev.bind he ?_)
  simp only [decide_true, if_true, bne_self_eq_false]
  refine Ev.succ ?_
  simp only [laws_FnExactBalancedWith.j1, Bool.false_eq_true, if_false]
  refine Ev.bind hh ?_
  simp only [if_neg (show ¬ (1 + (o.length : Int)) < 0 by omega), if_true]
  exact Ev.now _

end Go.Proofs.Ytlondmhiccikpaa.Pure
