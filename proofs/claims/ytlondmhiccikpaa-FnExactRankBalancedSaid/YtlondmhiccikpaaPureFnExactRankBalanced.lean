/- The program's RankBalanced returns what the reference's returns, for every list of whole numbers that takes at most 2^47 - 4096 bytes. -/
import Derived.Test.YtlondmhiccikpaaHFnExactRankBalancedx4
import Derived.Test.YtlondmhiccikpaaCoreA
import Derived.Test.YtlondmhiccikpaaCoreB
namespace Go.Proofs.Ytlondmhiccikpaa.Pure
open Go.RowKit Go.Proofs.Ytlondmhiccikpaa.HFnExactRankBalanced Go.Proofs.YtlondmhiccikpaaW.PrintWords Go.Proofs.YtlondmhiccikpaaW.PrintLast Go.Proofs.YtlondmhiccikpaaW.PrintMore Go.Proofs.Ytlondmhiccikpaa.Core
set_option linter.unusedVariables false
set_option linter.unusedSimpArgs false

theorem laws_toIntS_loop (s : List Int) : ∀ (p q : List Int) (i : Int), q.length = s.length → i = (p.length : Int) → (p ++ s).length ≤ 1099511627776 →
    Ev (fun k => laws_toIntS.l0 k (p ++ s) (p ++ q) i) (p ++ s) := by
  induction s with
  | nil =>
    intro p q i hq hi hl
    have hq0 : q = [] := List.eq_nil_of_length_eq_zero hq
    subst hq0
    refine Ev.done fun k => ?_
    simp only [laws_toIntS.l0]
    rw [if_neg (by rw [len_nil]; omega)]
  | cons x s ih =>
    intro p q i hq hi hl
    cases q with
    | nil => simp at hq
    | cons y q =>
      have hq' : q.length = s.length := by simpa using hq
      have h1 := len_mid p s x
      have h2 := len_mid p q y
      have := ih (p ++ [x]) q (i + 1) hq' (by rw [len_snoc]; omega) (by rw [← snoc_mid]; exact hl)
      rw [← snoc_mid, ← snoc_mid] at this
      refine Ev.step' this fun k => ?_
      simp only [laws_toIntS.l0]
      rw [if_pos (by omega), if_pos (by omega), if_pos (by omega), rd_mid hi, set_mid hi, w64 (by omega)]
theorem laws_toIntS_ev (l : List Int) (hl : l.length ≤ 1099511627776) : Ev (fun k => laws_toIntS.f k l) l := by
  have := laws_toIntS_loop l [] (List.replicate l.length 0) 0 (by simp) (by simp) (by simpa using hl)
  simp only [List.nil_append] at this
  refine Ev.congr (fun k => ?_) this
  unfold laws_toIntS.f
  rw [if_pos (by omega), if_pos (by omega)]
  simp only [Int.toNat_natCast]

theorem laws_eqIntS_loop (s : List Int) : ∀ (p q t : List Int) (i : Int), t.length = s.length → q.length = p.length → i = (p.length : Int) → (p ++ s).length ≤ 1099511627776 →
    Ev (fun k => laws_eqIntS.l0 k (p ++ s) (q ++ t) i) (decide (s = t)) := by
  induction s with
  | nil =>
    intro p q t i ht hq hi hl
    have ht0 : t = [] := List.eq_nil_of_length_eq_zero ht
    subst ht0
    refine Ev.done fun k => ?_
    simp only [laws_eqIntS.l0]
    rw [if_neg (by rw [len_nil]; omega)]
    simp
  | cons x s ih =>
    intro p q t i ht hq hi hl
    cases t with
    | nil => simp at ht
    | cons y t =>
      have ht' : t.length = s.length := by simpa using ht
      have h1 := len_mid p s x
      have h2 := len_mid q t y
      by_cases hxy : x = y
      · have := ih (p ++ [x]) (q ++ [y]) t (i + 1) ht' (by simp [hq]) (by rw [len_snoc]; omega) (by rw [← snoc_mid]; exact hl)
        rw [← snoc_mid, ← snoc_mid] at this
        refine Ev.to (Ev.step' this fun k => ?_) (by simp [hxy])
        simp only [laws_eqIntS.l0]
        rw [if_pos (by omega), if_pos (by omega), if_pos (by omega), rd_mid hi, rd_mid (by omega), if_pos hxy, w64 (by omega)]
      · refine Ev.to (Ev.done fun k => ?_) (show false = _ by simp [hxy])
        simp only [laws_eqIntS.l0]
        rw [if_pos (by omega), if_pos (by omega), if_pos (by omega), rd_mid hi, rd_mid (by omega), if_neg hxy]
theorem laws_eqIntS_ev (l t : List Int) (hl : l.length ≤ 1099511627776) : Ev (fun k => laws_eqIntS.f k l t) (decide (l = t)) := by
  by_cases h : l.length = t.length
  · have := laws_eqIntS_loop l [] [] t 0 h.symm rfl (by simp) (by simpa using hl)
    simp only [List.nil_append] at this
    refine Ev.congr (fun k => ?_) this
    unfold laws_eqIntS.f
    rw [if_pos (by omega)]
  · refine Ev.to (Ev.congr (fun k => ?_) (Ev.now false)) (by rw [decide_eq_false]; exact fun e => h (by rw [e]))
    unfold laws_eqIntS.f
    rw [if_neg (by omega)]

theorem spec_l1In_eq (a b c : Int) : spec_l1In.f a b c = some (inB a b c) := inB_ite a b c

theorem spec_spBalanced_loop (l : List Int) (s : List Int) : ∀ (p : List Int) (o n i : Int), 0 ≤ o → o ≤ p.length → n = ((p ++ s).length : Int) → i = (p.length : Int) → (p ++ s).length ≤ 1099511627776 →
    Ev (fun k => spec_spBalanced.l0 k l o (p ++ s) n i) (balW o s && decide ((l.length : Int) ≤ 24)) := by
  induction s with
  | nil =>
    intro p o n i ho ho' hn hi hl
    refine Ev.to (Ev.done fun k => ?_) (show (if o = 0 then decide ((l.length : Int) ≤ 24) else false) = _ by unfold balW; split <;> simp [*])
    simp only [spec_spBalanced.l0]
    rw [if_neg (by rw [len_nil] at hn; omega)]
    split <;> rfl
  | cons x s ih =>
    intro p o n i ho ho' hn hi hl
    have h1 := len_mid p s x
    unfold balW
    cases hb : inB x 0 1 with
    | false =>
      refine Ev.to (Ev.done fun k => ?_) (show false = _ by simp)
      simp only [spec_spBalanced.l0]
      rw [if_pos (by omega), if_pos (by omega), if_pos (by omega), rd_mid hi, spec_l1In_eq, hb]
      rfl
    | true =>
      have hx := inB_true.1 hb
      by_cases hneg : o + (2 * x - 1) < 0
      · refine Ev.to (Ev.done fun k => ?_) (show false = _ by rw [decide_eq_false (by omega)]; simp)
        simp only [spec_spBalanced.l0]
        rw [if_pos (by omega), if_pos (by omega), if_pos (by omega), rd_mid hi, spec_l1In_eq, hb]
        simp only [obind, if_true]
        rw [w64 (n := 2 * x) (by omega), w64 (n := 2 * x - 1) (by omega), w64 (n := o + (2 * x - 1)) (by omega), if_pos hneg]
      · have := ih (p ++ [x]) (o + (2 * x - 1)) n (i + 1) (by omega) (by rw [len_snoc]; omega) (by rw [← snoc_mid]; exact hn) (by rw [len_snoc]; omega) (by rw [← snoc_mid]; exact hl)
        rw [← snoc_mid] at this
        refine Ev.to (Ev.step' this fun k => ?_) (by rw [decide_eq_true (show 0 ≤ o + (2 * x - 1) by omega)]; simp)
        simp only [spec_spBalanced.l0]
        rw [if_pos (by omega), if_pos (by omega), if_pos (by omega), rd_mid hi, spec_l1In_eq, hb]
        simp only [obind, if_true]
        rw [w64 (n := 2 * x) (by omega), w64 (n := 2 * x - 1) (by omega), w64 (n := o + (2 * x - 1)) (by omega), if_neg hneg, w64 (n := i + 1) (by omega)]
theorem spec_spBalanced_ev (l : List Int) (hl : l.length ≤ 1099511627776) : Ev (fun k => spec_spBalanced.f k l) (isB l) :=
  spec_spBalanced_loop l l [] 0 _ 0 (by omega) (by simp) rfl (by simp) (by simpa using hl)

theorem spec_spCloses_l2 (o m t : Int) (W : List Int) (hW : W.length ≤ 1000) (hin : ∀ x ∈ W, 0 ≤ x ∧ x ≤ 1099511627776000) (R : Int) (s : List Int) : ∀ (x prev : Int) (p q : List Int), p ++ x :: s = W → q.length = p.length → (p = [] → prev = 0) → (∀ r, 0 < p.length → rd (q ++ r) ((p.length : Int) - 1) = prev) → 0 ≤ prev → prev ≤ 1099511627776000 * p.length →
    Ev (fun k => spec_spCloses.l1 k o m (q ++ nxtS prev (x :: s)) (wrap64 (t + 1))) R →
    Ev (fun k => spec_spCloses.l2 k o m W t (q ++ List.replicate (s.length + 1) 0) (p.length : Int)) R := by
  induction s with
  | nil =>
    intro x prev p q h1 h2 h3 h4 hp0 hp1 hR
    have : W.length = p.length + 1 := by rw [← h1]; simp
    have ew : wrap64 ((p.length : Int) + 1) = (p.length : Int) + 1 := w64 (by omega)
    refine Ev.succ ?_
    simp only [spec_spCloses.l2]
    simp only [ew, if_neg (show ¬ (p.length : Int) + 1 < (W.length : Int) by omega)]
    exact hR
  | cons y s ih =>
    intro x prev p q h1 h2 h3 h4 hp0 hp1 hR
    have hlen : W.length = p.length + s.length + 2 := by rw [← h1]; simp; omega
    have e0 : rd W ((p.length : Int) + 1) = y := by
      rw [← h1, snoc_mid]; exact rd_mid (by rw [len_snoc])
    have ew : wrap64 ((p.length : Int) + 1) = (p.length : Int) + 1 := w64 (by omega)
    have ew' : wrap64 ((p.length : Int) - 1) = (p.length : Int) - 1 := w64 (by omega)
    have hy := hin y (by rw [← h1]; simp)
    have hp' : (p ++ [x]) ++ y :: s = W := by rw [← snoc_mid]; exact h1
    have hr : List.replicate ((y :: s).length + 1) (0 : Int) = 0 :: List.replicate (s.length + 1) 0 := rfl
    have hql : ((q ++ 0 :: List.replicate (s.length + 1) (0 : Int)).length : Int) = p.length + s.length + 2 := by simp; omega
    have hset : (q ++ 0 :: List.replicate (s.length + 1) (0 : Int)).set (p.length : Int).toNat y = q ++ y :: List.replicate (s.length + 1) 0 := set_mid (by rw [h2])
    have hsn := len_snoc p x
    have hnext := fun z hz0 hz1 => ih y z (p ++ [x]) (q ++ [z]) hp' (by simp [h2]) (by simp) (fun r _ => by rw [len_snoc, show (p.length : Int) + 1 - 1 = p.length by omega, List.append_assoc]; exact rd_mid (by rw [h2])) hz0 hz1
    rw [hr]
    refine Ev.succ ?_
    simp only [spec_spCloses.l2]
    simp only [ew, ew', if_pos (show (p.length : Int) + 1 < (W.length : Int) by omega), if_pos (show 0 ≤ (p.length : Int) + 1 by omega), if_pos (show 0 ≤ (p.length : Int) by omega), hql, if_pos (show (p.length : Int) < (p.length : Int) + (s.length : Int) + 2 by omega), e0, hset, obind]
    by_cases hpos : (p.length : Int) > 0
    · have er : rd (q ++ y :: List.replicate (s.length + 1) 0) (p.length : Int) = y := rd_mid (by rw [h2])
      have er' := h4 (y :: List.replicate (s.length + 1) 0) (by omega)
      have es : (q ++ y :: List.replicate (s.length + 1) 0).set (p.length : Int).toNat (y + prev) = q ++ (y + prev) :: List.replicate (s.length + 1) 0 := set_mid (by rw [h2])
      have ev : wrap64 (y + prev) = y + prev := w64 (by omega)
      simp only [if_pos hpos, if_pos (show 0 ≤ (p.length : Int) - 1 by omega), if_pos (show (p.length : Int) - 1 < (p.length : Int) + (s.length : Int) + 2 by omega), er, er', ev, es]
      have := hnext (y + prev) (by omega) (by omega) (by simpa [nxtS] using hR)
      rw [len_snoc, List.append_assoc] at this
      exact this
    · have hp0 : p = [] := List.eq_nil_of_length_eq_zero (by omega)
      have h0 := h3 hp0
      simp only [if_neg hpos]
      have := hnext y (by omega) (by omega) (by subst h0; simpa [nxtS] using hR)
      rw [len_snoc, List.append_assoc] at this
      exact this
theorem spec_spCloses_l1 (n m : Nat) (hn : n ≤ 13) (hm : m ≤ 12) (o : Nat) (ho : o ≤ n) (d : Nat) : ∀ t : Nat, t + d = m →
    Ev (fun k => spec_spCloses.l1 k (o : Int) (m : Int) (rowS n t) ((t : Int) + 1)) ((rowS n m).getD o 0) := by
  induction d with
  | zero =>
    intro t ht
    have hl := rowS_len n t
    have : t = m := by omega
    subst this
    refine Ev.succ ?_
    simp only [spec_spCloses.l1]
    simp only [if_neg (show ¬ (t : Int) + 1 ≤ (t : Int) by omega), if_pos (show 0 ≤ (o : Int) by omega), if_pos (show (o : Int) < ((rowS n t).length : Int) by omega)]
    exact Ev.some_ (by simp [rd])
  | succ d ih =>
    intro t ht
    have hl := rowS_len n t
    have e2 : wrap64 ((t : Int) + 1 + 1) = ((t + 1 : Nat) : Int) + 1 := by rw [w64 (by omega)]; omega
    have hb : ∀ x ∈ rowS n t, 0 ≤ x ∧ x ≤ 1099511627776000 := fun x hx => by have := rowS_small (n := n) (t := t) hn (by omega) x hx; omega
    refine Ev.succ ?_
    simp only [spec_spCloses.l1]
    simp only [if_pos (show (t : Int) + 1 ≤ (m : Int) by omega), if_pos (show 0 ≤ ((rowS n t).length : Int) by omega), Int.toNat_natCast, if_pos (show (rowS n t).length ≤ 35184372088832 by omega)]
    obtain ⟨x, s, hxs⟩ : ∃ x s, rowS n t = x :: s := by
      cases h : rowS n t with
      | nil => rw [h] at hl; simp at hl
      | cons x s => exact ⟨x, s, rfl⟩
    have hls : (rowS n t).length = s.length + 1 := by rw [hxs]; rfl
    have hrep : List.replicate (rowS n t).length (0 : Int) = [] ++ List.replicate (s.length + 1) 0 := by rw [hls]; rfl
    rw [hrep]
    refine spec_spCloses_l2 (o : Int) (m : Int) ((t : Int) + 1) (rowS n t) (by omega) hb _ s x 0 [] [] (by rw [hxs]; rfl) rfl (fun _ => rfl) (by simp) (by omega) (by simp) ?_
    rw [e2, List.nil_append, ← hxs]
    exact ih (t + 1) (by omega)
theorem spec_spCloses_l0 (o m : Int) (n : Nat) (hn : n ≤ 1000) (R : Int) (d : Nat) : ∀ t : Nat, t + d = n →
    Ev (fun k => spec_spCloses.l1 k o m (List.replicate n 1) 1) R →
    Ev (fun k => spec_spCloses.l0 k o m (List.replicate t 1 ++ List.replicate d 0) (n : Int) (t : Int)) R := by
  induction d with
  | zero =>
    intro t ht hR
    have : t = n := by omega
    subst this
    refine Ev.succ ?_
    simp only [spec_spCloses.l0]
    simp only [if_neg (show ¬ (t : Int) < (t : Int) by omega)]
    simpa using hR
  | succ d ih =>
    intro t ht hR
    have e1 : wrap64 ((t : Int) + 1) = ((t + 1 : Nat) : Int) := by rw [w64 (by omega)]; omega
    have e2 : (List.replicate t 1 ++ List.replicate (d + 1) 0 : List Int).set (t : Int).toNat 1 = List.replicate (t + 1) 1 ++ List.replicate d 0 := by
      rw [List.replicate_succ, set_mid (by simp), snoc_mid, ← List.replicate_succ']
    have e3 : ((List.replicate t 1 ++ List.replicate (d + 1) 0 : List Int).length : Int) = (n : Int) := by simp; omega
    refine Ev.succ ?_
    simp only [spec_spCloses.l0]
    simp only [e3, if_pos (show (t : Int) < (n : Int) by omega), if_pos (show 0 ≤ (t : Int) by omega), e1, e2]
    exact ih (t + 1) (by omega) hR
theorem spec_spCloses_ev (o m : Nat) (h : o + m ≤ 12) : Ev (fun n => spec_spCloses.f n (o : Int) (m : Int)) ((bw m o : Nat) : Int) := by
  unfold spec_spCloses.f
  have e1 : wrap64 (wrap64 ((o : Int) + (m : Int)) + 2) = ((o + m + 2 : Nat) : Int) := by
    rw [w64 (n := (o : Int) + (m : Int)) (by omega), w64 (by omega)]; omega
  simp only [e1, if_pos (show 0 ≤ ((o + m + 2 : Nat) : Int) by omega), Int.toNat_natCast, if_pos (show o + m + 2 ≤ 35184372088832 by omega), obind]
  simp only [List.length_replicate]
  have h1 := spec_spCloses_l1 (o + m + 1) m (by omega) (by omega) o (by omega) m 0 (by omega)
  rw [rowS_get _ _ _ (by omega)] at h1
  exact spec_spCloses_l0 (o : Int) (m : Int) (o + m + 2) (by omega) _ (o + m + 2) 0 (by omega) h1

theorem spec_RankBalanced_loop (a : List Int) (ha : a.length ≤ 24) (s : List Int) : ∀ (p : List Int) (o m rank : Nat), p ++ s = a → balW (o : Int) s = true → s.length = o + 2 * m → o + m ≤ 12 → rank + bw m o ≤ 1125899906842624 →
    Ev (fun f => spec_RankBalanced.l0 f (rank : Int) (o : Int) (m : Int) a (a.length : Int) (p.length : Int)) (((rank + rkB o m s : Nat) : Int), true) := by
  induction s with
  | nil =>
    intro p o m rank h1 h2 h3 h4 h5
    refine Ev.to (Ev.done fun f => ?_) (show (((rank : Nat) : Int), true) = _ by simp [rkB])
    have : a.length = p.length := by rw [← h1]; simp
    simp only [spec_RankBalanced.l0]
    rw [if_neg (by omega)]
  | cons x s ih =>
    intro p o m rank h1 h2 h3 h4 h5
    have hlen : a.length = p.length + s.length + 1 := by rw [← h1]; simp; omega
    have e0 : rd a (p.length : Int) = x := by rw [← h1]; exact rd_mid rfl
    have hp' : (p ++ [x]) ++ s = a := by rw [← snoc_mid]; exact h1
    have hlc : s.length + 1 = o + 2 * m := h3
    have hlow := low_le m o
    have hb := bw_small h4
    have c1 : (p.length : Int) < (a.length : Int) := by omega
    have c2 : 0 ≤ (p.length : Int) := by omega
    have c3 : p.length ≤ 1099511627776 := by omega
    rcases balW_step h2 h3 with ⟨rfl, g1, g2, g3⟩ | ⟨rfl, g1, g2, g3⟩
    · obtain ⟨m, rfl⟩ : ∃ q, m = q + 1 := ⟨m - 1, by omega⟩
      have el := @low_one m o
      have b1 : rank + lowB (m + 1) o ≤ 9007199254740992 := by omega
      have b2 : o ≤ 1099511627776 := by omega
      have b3 : m ≤ 1099511627776 := by omega
      have hih := ih (p ++ [1]) (o + 1) m (rank + lowB (m + 1) o) hp' g2 (by omega) (by omega) (by omega)
      have hres : rank + lowB (m + 1) o + rkB (o + 1) m s = rank + rkB o (m + 1) (1 :: s) := by
        simp only [rkB, if_true, Nat.add_sub_cancel]
        rw [Nat.add_assoc]
      rw [hres] at hih
      cases o with
      | zero =>
        rw [low_zero, Nat.add_zero] at hih
        refine Ev.succ ?_
        simp only [spec_RankBalanced.l0]
        simp only [if_pos c1, if_pos c2, e0, i_succ (out := p) (x := (1 : Int)) c3, if_neg (show ¬ (1 : Int) = 0 by decide), i_up b2, i_down b3, if_neg (show ¬ ((0 : Nat) : Int) > 0 by decide)]
        exact hih
      | succ o =>
        have b4 : o ≤ 1099511627776 := by omega
        have hcl := spec_spCloses_ev o (m + 1) (by omega)
        have c4 : ((o + 1 : Nat) : Int) > 0 := by omega
        rw [low_succ] at b1 hih
        refine Ev.succ ?_
        simp only [spec_RankBalanced.l0]
        simp only [if_pos c1, if_pos c2, e0, i_succ (out := p) (x := (1 : Int)) c3, if_neg (show ¬ (1 : Int) = 0 by decide), i_up b2, i_down b3, if_pos c4, i_down b4]
        refine Ev.bind hcl ?_
        simp only [i_plus b1]
        exact hih
    · obtain ⟨o, rfl⟩ : ∃ q, o = q + 1 := ⟨o - 1, by omega⟩
      rw [low_succ] at hlow
      have b2 : o ≤ 1099511627776 := by omega
      have hih := ih (p ++ [0]) o m rank hp' g2 (by omega) (by omega) (by omega)
      refine Ev.succ ?_
      simp only [spec_RankBalanced.l0]
      simp only [if_pos c1, if_pos c2, e0, i_succ (out := p) (x := (0 : Int)) c3, if_true, i_down b2]
      refine Ev.to hih ?_
      simp only [rkB, if_neg (show ¬ (0 : Int) = 1 by decide), Nat.add_sub_cancel]
theorem spec_RankBalanced_ev (l : List Int) (hl : l.length ≤ 1099511627776) : Ev (fun f => spec_RankBalanced.f f l) (if isB l = true then ((rkB 0 (l.length / 2) l : Int), true) else (0, false)) := by
  unfold spec_RankBalanced.f
  refine Ev.bind (spec_spBalanced_ev l hl) ?_
  by_cases h : isB l = true
  · obtain ⟨m, h1, h2, h3⟩ := isB_true h
    have hb := bw_small (o := 0) (m := m) (by omega)
    have e : l.length / 2 = m := by omega
    have e' : wrap64 ((l.length : Int) / 2) = (m : Int) := by rw [w64 (by omega)]; omega
    simp only [h, if_true, e, e']
    refine Ev.to (spec_RankBalanced_loop l (by omega) l [] 0 m 0 rfl h3 (by omega) (by omega) (by omega)) ?_
    simp
  · simp only [if_neg h]
    exact Ev.now _

theorem impl_within_eq (a b c : Int) : impl_within.f a b c = some (inB a b c) := inB_ite a b c

theorem impl_IsBalancedWord_loop (l : List Int) (s : List Int) : ∀ (p : List Int) (o n i : Int), 0 ≤ o → o ≤ p.length → n = ((p ++ s).length : Int) → i = (p.length : Int) → (p ++ s).length ≤ 1099511627776 →
    Ev (fun k => impl_IsBalancedWord.l0 k l o (p ++ s) n i) (balW o s && decide ((l.length : Int) ≤ 24)) := by
  induction s with
  | nil =>
    intro p o n i ho ho' hn hi hl
    refine Ev.to (Ev.done fun k => ?_) (show (if o = 0 then decide ((l.length : Int) ≤ 24) else false) = _ by unfold balW; split <;> simp [*])
    simp only [impl_IsBalancedWord.l0]
    rw [if_neg (by rw [len_nil] at hn; omega)]
    split <;> rfl
  | cons x s ih =>
    intro p o n i ho ho' hn hi hl
    have h1 := len_mid p s x
    unfold balW
    cases hb : inB x 0 1 with
    | false =>
      refine Ev.to (Ev.done fun k => ?_) (show false = _ by simp)
      simp only [impl_IsBalancedWord.l0]
      rw [if_pos (by omega), if_pos (by omega), if_pos (by omega), rd_mid hi, impl_within_eq, hb]
      rfl
    | true =>
      have hx := inB_true.1 hb
      by_cases hneg : o + (2 * x - 1) < 0
      · refine Ev.to (Ev.done fun k => ?_) (show false = _ by rw [decide_eq_false (by omega)]; simp)
        simp only [impl_IsBalancedWord.l0]
        rw [if_pos (by omega), if_pos (by omega), if_pos (by omega), rd_mid hi, impl_within_eq, hb]
        simp only [obind, if_true]
        rw [w64 (n := 2 * x) (by omega), w64 (n := 2 * x - 1) (by omega), w64 (n := o + (2 * x - 1)) (by omega), if_pos hneg]
      · have := ih (p ++ [x]) (o + (2 * x - 1)) n (i + 1) (by omega) (by rw [len_snoc]; omega) (by rw [← snoc_mid]; exact hn) (by rw [len_snoc]; omega) (by rw [← snoc_mid]; exact hl)
        rw [← snoc_mid] at this
        refine Ev.to (Ev.step' this fun k => ?_) (by rw [decide_eq_true (show 0 ≤ o + (2 * x - 1) by omega)]; simp)
        simp only [impl_IsBalancedWord.l0]
        rw [if_pos (by omega), if_pos (by omega), if_pos (by omega), rd_mid hi, impl_within_eq, hb]
        simp only [obind, if_true]
        rw [w64 (n := 2 * x) (by omega), w64 (n := 2 * x - 1) (by omega), w64 (n := o + (2 * x - 1)) (by omega), if_neg hneg, w64 (n := i + 1) (by omega)]
theorem impl_IsBalancedWord_ev (l : List Int) (hl : l.length ≤ 1099511627776) : Ev (fun k => impl_IsBalancedWord.f k l) (isB l) :=
  impl_IsBalancedWord_loop l l [] 0 _ 0 (by omega) (by simp) rfl (by simp) (by simpa using hl)

theorem impl_closings_l1 (o n t : Int) (W : List Int) (hW : W.length ≤ 1000) (hin : ∀ x ∈ W, 0 ≤ x ∧ x ≤ 1099511627776) (R : Int) (s : List Int) : ∀ (x prev : Int) (p q : List Int), p ++ x :: s = W → q.length = p.length → (p = [] → prev = 0) → (0 < p.length → rd W ((p.length : Int) - 1) = prev) →
    Ev (fun k => impl_closings.l0 k o (q ++ nxtC prev (x :: s)) n (wrap64 (t + 1))) R →
    Ev (fun k => impl_closings.l1 k o W (q ++ List.replicate (s.length + 1) 0) n t ((W.length : Int) - 1) (p.length : Int)) R := by
  induction s with
  | nil =>
    intro x prev p q h1 h2 h3 h4 hR
    have : W.length = p.length + 1 := by rw [← h1]; simp
    refine Ev.succ ?_
    simp only [impl_closings.l1]
    simp only [if_neg (show ¬ (p.length : Int) < (W.length : Int) - 1 by omega)]
    exact hR
  | cons y s ih =>
    intro x prev p q h1 h2 h3 h4 hR
    have hlen : W.length = p.length + s.length + 2 := by rw [← h1]; simp; omega
    have e0 : rd W ((p.length : Int) + 1) = y := by
      rw [← h1, snoc_mid]; exact rd_mid (by rw [len_snoc])
    have ew : wrap64 ((p.length : Int) + 1) = (p.length : Int) + 1 := w64 (by omega)
    have ew' : wrap64 ((p.length : Int) - 1) = (p.length : Int) - 1 := w64 (by omega)
    have hx := hin x (by rw [← h1]; simp)
    have hy := hin y (by rw [← h1]; simp)
    have hp' : (p ++ [x]) ++ y :: s = W := by rw [← snoc_mid]; exact h1
    have hr : List.replicate ((y :: s).length + 1) (0 : Int) = 0 :: List.replicate (s.length + 1) 0 := rfl
    have hql : ((q ++ 0 :: List.replicate (s.length + 1) (0 : Int)).length : Int) = p.length + s.length + 2 := by simp; omega
    have hset : (q ++ 0 :: List.replicate (s.length + 1) (0 : Int)).set (p.length : Int).toNat y = q ++ y :: List.replicate (s.length + 1) 0 := set_mid (by rw [h2])
    have hnext := fun z => ih y x (p ++ [x]) (q ++ [z]) hp' (by simp [h2]) (by simp) (fun _ => by rw [len_snoc, show (p.length : Int) + 1 - 1 = p.length by omega, ← h1]; exact rd_mid rfl)
    rw [hr]
    refine Ev.succ ?_
    simp only [impl_closings.l1]
    simp only [ew, ew', if_pos (show (p.length : Int) < (W.length : Int) - 1 by omega), if_pos (show 0 ≤ (p.length : Int) + 1 by omega), if_pos (show (p.length : Int) + 1 < (W.length : Int) by omega), if_pos (show 0 ≤ (p.length : Int) by omega), hql, if_pos (show (p.length : Int) < (p.length : Int) + (s.length : Int) + 2 by omega), e0, hset, obind]
    by_cases hpos : (p.length : Int) > 0
    · have hprev := h4 (by omega)
      have hpm : prev ∈ W := by rw [← hprev]; exact rd_mem (by omega) (by omega)
      have hpb := hin prev hpm
      have er : rd (q ++ y :: List.replicate (s.length + 1) 0) (p.length : Int) = y := rd_mid (by rw [h2])
      have es : (q ++ y :: List.replicate (s.length + 1) 0).set (p.length : Int).toNat (y + prev) = q ++ (y + prev) :: List.replicate (s.length + 1) 0 := set_mid (by rw [h2])
      have ev : wrap64 (y + prev) = y + prev := w64 (by omega)
      simp only [if_pos hpos, if_pos (show 0 ≤ (p.length : Int) - 1 by omega), if_pos (show (p.length : Int) - 1 < (W.length : Int) by omega), er, hprev, ev, es]
      have := hnext (y + prev) (by simpa [nxtC] using hR)
      rw [len_snoc, List.append_assoc] at this
      exact this
    · have hp0 : p = [] := List.eq_nil_of_length_eq_zero (by omega)
      have h0 := h3 hp0
      simp only [if_neg hpos]
      have := hnext y (by subst h0; simpa [nxtC] using hR)
      rw [len_snoc, List.append_assoc] at this
      exact this
theorem impl_closings_l0 (n r : Nat) (hn : n ≤ 100) (hr : r ≤ 30) (o : Nat) (ho : o ≤ n) (d : Nat) : ∀ t : Nat, t + d = r →
    Ev (fun k => impl_closings.l0 k (o : Int) (rowC n t) (r : Int) (t : Int)) ((rowC n r).getD o 0) := by
  induction d with
  | zero =>
    intro t ht
    have hl := rowC_len n t
    have : t = r := by omega
    subst this
    refine Ev.succ ?_
    simp only [impl_closings.l0]
    simp only [if_neg (show ¬ (t : Int) < (t : Int) by omega), if_pos (show 0 ≤ (o : Int) by omega), if_pos (show (o : Int) < ((rowC n t).length : Int) by omega)]
    exact Ev.some_ (by simp [rd])
  | succ d ih =>
    intro t ht
    have hl := rowC_len n t
    have e1 : wrap64 (((rowC n t).length : Int) - 1) = ((rowC n t).length : Int) - 1 := w64 (by omega)
    have e2 : wrap64 ((t : Int) + 1) = ((t + 1 : Nat) : Int) := by rw [w64 (by omega)]; omega
    have hb : ∀ x ∈ rowC n t, 0 ≤ x ∧ x ≤ 1099511627776 := fun x hx => by have := rowC_small (n := n) (t := t) (by omega) x hx; omega
    refine Ev.succ ?_
    simp only [impl_closings.l0]
    simp only [if_pos (show (t : Int) < (r : Int) by omega), if_pos (show 0 ≤ ((rowC n t).length : Int) by omega), Int.toNat_natCast, if_pos (show (rowC n t).length ≤ 35184372088832 by omega), e1]
    obtain ⟨x, s, hxs⟩ : ∃ x s, rowC n t = x :: s := by
      cases h : rowC n t with
      | nil => rw [h] at hl; simp at hl
      | cons x s => exact ⟨x, s, rfl⟩
    have hls : (rowC n t).length = s.length + 1 := by rw [hxs]; rfl
    have hrep : List.replicate (rowC n t).length (0 : Int) = [] ++ List.replicate (s.length + 1) 0 := by rw [hls]; rfl
    rw [hrep]
    refine impl_closings_l1 (o : Int) (r : Int) (t : Int) (rowC n t) (by omega) hb _ s x 0 [] [] (by rw [hxs]; rfl) rfl (fun _ => rfl) (by simp) ?_
    rw [e2, List.nil_append, ← hxs]
    exact ih (t + 1) (by omega)
theorem impl_closings_ev (o m : Nat) (h : o + m ≤ 12) : Ev (fun n => impl_closings.f n (o : Int) ((o + 2 * m : Nat) : Int)) ((bw m o : Nat) : Int) := by
  unfold impl_closings.f
  have e1 : wrap64 (wrap64 ((o : Int) + ((o + 2 * m : Nat) : Int)) + 2) = ((o + (o + 2 * m) + 2 : Nat) : Int) := by
    rw [w64 (n := (o : Int) + ((o + 2 * m : Nat) : Int)) (by omega), w64 (by omega)]; omega
  have e2 : (List.replicate (o + (o + 2 * m) + 2) (0 : Int)).set (0 : Int).toNat 1 = rowC (o + (o + 2 * m) + 1) 0 := rfl
  simp only [e1, if_pos (show 0 ≤ ((o + (o + 2 * m) + 2 : Nat) : Int) by omega), Int.toNat_natCast, if_pos (show o + (o + 2 * m) + 2 ≤ 35184372088832 by omega), obind]
  simp only [List.length_replicate, if_pos (show (0 : Int) < ((o + (o + 2 * m) + 2 : Nat) : Int) by omega), e2]
  refine Ev.to (impl_closings_l0 (o + (o + 2 * m) + 1) (o + 2 * m) (by omega) (by omega) o (by omega) (o + 2 * m) 0 (by omega)) ?_
  rw [rowC_get _ _ _ (by omega), bcI_bw _ o m rfl]

theorem impl_lower_ev (o m r : Nat) (h : o + m ≤ 12) (hr : r + 1 = o + 2 * m) : Ev (fun n => impl_lower.f n (o : Int) (r : Int)) ((lowB m o : Nat) : Int) := by
  unfold impl_lower.f
  cases o with
  | zero =>
    simp only [Int.natCast_zero, if_true, low_zero]
    exact Ev.now _
  | succ o =>
    have e : wrap64 (((o + 1 : Nat) : Int) - 1) = (o : Int) := by rw [w64 (by omega)]; omega
    have er : r = o + 2 * m := by omega
    subst er
    simp only [if_neg (show ¬ ((o + 1 : Nat) : Int) = 0 by omega), e]
    refine Ev.bind (impl_closings_ev o m (by omega)) ?_
    rw [low_succ]
    exact Ev.now _

theorem impl_RankBalanced_loop (a : List Int) (ha : a.length ≤ 24) (s : List Int) : ∀ (p : List Int) (o m rank : Nat), p ++ s = a → balW (o : Int) s = true → s.length = o + 2 * m → o + m ≤ 12 → rank + bw m o ≤ 1125899906842624 →
    Ev (fun f => impl_RankBalanced.l0 f a (rank : Int) (o : Int) a (a.length : Int) (p.length : Int)) (((rank + rkB o m s : Nat) : Int), true) := by
  induction s with
  | nil =>
    intro p o m rank h1 h2 h3 h4 h5
    refine Ev.to (Ev.done fun f => ?_) (show (((rank : Nat) : Int), true) = _ by simp [rkB])
    have : a.length = p.length := by rw [← h1]; simp
    simp only [impl_RankBalanced.l0]
    rw [if_neg (by omega)]
  | cons x s ih =>
    intro p o m rank h1 h2 h3 h4 h5
    have hlen : a.length = p.length + s.length + 1 := by rw [← h1]; simp; omega
    have e0 : rd a (p.length : Int) = x := by rw [← h1]; exact rd_mid rfl
    have hp' : (p ++ [x]) ++ s = a := by rw [← snoc_mid]; exact h1
    have hlc : s.length + 1 = o + 2 * m := h3
    have hlow := low_le m o
    have hb := bw_small h4
    have c1 : (p.length : Int) < (a.length : Int) := by omega
    have c2 : 0 ≤ (p.length : Int) := by omega
    have c3 : p.length ≤ 1099511627776 := by omega
    have c5 : p.length + (s.length + 1) = a.length := by omega
    have c6 : a.length ≤ 1099511627776 := by omega
    rcases balW_step h2 h3 with ⟨rfl, g1, g2, g3⟩ | ⟨rfl, g1, g2, g3⟩
    · obtain ⟨m, rfl⟩ : ∃ q, m = q + 1 := ⟨m - 1, by omega⟩
      have el := @low_one m o
      have b1 : rank + lowB (m + 1) o ≤ 9007199254740992 := by omega
      have b2 : o ≤ 1099511627776 := by omega
      have hih := ih (p ++ [1]) (o + 1) m (rank + lowB (m + 1) o) hp' g2 (by omega) (by omega) (by omega)
      refine Ev.succ ?_
      simp only [impl_RankBalanced.l0]
      simp only [if_pos c1, if_pos c2, e0, i_last c5 c6, i_succ (out := p) (x := (1 : Int)) c3, if_true]
      refine Ev.bind (impl_lower_ev o (m + 1) s.length h4 hlc) ?_
      simp only [i_plus b1, i_up2 b2]
      refine Ev.to hih ?_
      simp only [rkB, if_true, Nat.add_sub_cancel]
      rw [Nat.add_assoc]
    · obtain ⟨o, rfl⟩ : ∃ q, o = q + 1 := ⟨o - 1, by omega⟩
      rw [low_succ] at hlow
      have b2 : o ≤ 1099511627776 := by omega
      have hih := ih (p ++ [0]) o m rank hp' g2 (by omega) (by omega) (by omega)
      refine Ev.succ ?_
      simp only [impl_RankBalanced.l0]
      simp only [if_pos c1, if_pos c2, e0, i_last c5 c6, i_succ (out := p) (x := (0 : Int)) c3, if_neg (show ¬ (0 : Int) = 1 by decide), i_down2 b2]
      refine Ev.to hih ?_
      simp only [rkB, if_neg (show ¬ (0 : Int) = 1 by decide), Nat.add_sub_cancel]
theorem impl_RankBalanced_ev (l : List Int) (hl : l.length ≤ 1099511627776) : Ev (fun f => impl_RankBalanced.f f l) (if isB l = true then ((rkB 0 (l.length / 2) l : Int), true) else (0, false)) := by
  unfold impl_RankBalanced.f
  refine Ev.bind (impl_IsBalancedWord_ev l hl) ?_
  by_cases h : isB l = true
  · obtain ⟨m, h1, h2, h3⟩ := isB_true h
    have hb := bw_small (o := 0) (m := m) (by omega)
    have e : l.length / 2 = m := by omega
    simp only [h, if_true, e]
    refine Ev.to (impl_RankBalanced_loop l (by omega) l [] 0 m 0 rfl h3 (by omega) (by omega) (by omega)) ?_
    simp
  · simp only [if_neg h]
    exact Ev.now _

theorem FnExactRankBalanced : laws_FnExactRankBalanced.Pure := by
  intro l _ hl _
  unfold laws_FnExactRankBalanced.f
  by_cases hbig : (l.length : Int) > 1048576
  · exact ⟨0, by rw [if_pos hbig]⟩
  simp only [if_neg hbig]
  have hl' : l.length ≤ 1099511627776 := by omega
  have ht := laws_toIntS_ev l hl'
  have he := laws_eqIntS_ev l l hl'
  refine (Ev.bind ht (Ev.bind (spec_RankBalanced_ev l hl') (Ev.bind ht (Ev.bind (impl_RankBalanced_ev l hl') ?_)))).rounds
  simp only [bne_self_eq_false, if_true]
  refine Ev.succ ?_
  simp only [laws_FnExactRankBalanced.j0, Bool.false_eq_true, if_false]
  refine Ev.bind ht (Ev.bind he ?_)
  simp only [decide_true, if_true]
  exact Ev.now _

end Go.Proofs.Ytlondmhiccikpaa.Pure
