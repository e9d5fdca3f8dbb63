/- Ranks of balanced words undo each other, in lexicographic order, and words go to growths without a crossing and back: for all rows of bytes that code and more may be. -/
import Derived.Test.YtmcmglclgdgdnaaHFnBalancedRanksx8
import Derived.Test.YtmcmglclgdgdnaaCoreA
import Derived.Test.YtmcmglclgdgdnaaCoreB
import Derived.Test.YtmcmglclgdgdnaaCoreG
import Derived.Test.YtmcmglclgdgdnaaCoreGw
import Derived.Test.YtmcmglclgdgdnaaCoreBk
import Derived.Test.YtmcmglclgdgdnaaCoreGx
namespace Go.Proofs.Ytmcmglclgdgdnaa.Pure
open Go.RowKit Go.Proofs.Ytmcmglclgdgdnaa.HFnBalancedRanks Go.Proofs.YtmcmglclgdgdnaaW.PrintWords Go.Proofs.YtmcmglclgdgdnaaW.PrintLast Go.Proofs.YtmcmglclgdgdnaaW.PrintMore Go.Proofs.Ytmcmglclgdgdnaa.Core
set_option linter.unusedVariables false
set_option linter.unusedSimpArgs false

theorem laws_big_ok (a b : List Int) : laws_big.f a b = some true ∨ (laws_big.f a b = some false ∧ a.length ≤ 1048576 ∧ b.length ≤ 1048576) := by
  unfold laws_big.f
  by_cases h : (a.length : Int) > 1048576
  · rw [if_pos h]; exact .inl rfl
  · rw [if_neg h, w64 (by omega)]
    by_cases h2 : (b.length : Int) > 1048576 - (a.length : Int)
    · rw [decide_eq_true h2]; exact .inl rfl
    · rw [decide_eq_false h2]; exact .inr ⟨rfl, by omega, by omega⟩

theorem laws_tSame_loop (s : List Int) : ∀ (p : List Int) (n i : Int), n = ((p ++ s).length : Int) → i = (p.length : Int) → (p ++ s).length ≤ 1099511627776 →
    Ev (fun k => laws_tSame.l0 k (p ++ s) (p ++ s) n i) true := by
  induction s with
  | nil =>
    intro p n i hn hi hl
    refine Ev.done fun k => ?_
    simp only [laws_tSame.l0]
    rw [if_neg (by rw [len_nil] at hn; omega)]
  | cons x s ih =>
    intro p n i hn hi hl
    have h1 := len_mid p s x
    have := ih (p ++ [x]) n (i + 1) (by rw [← snoc_mid]; exact hn) (by rw [len_snoc]; omega) (by rw [← snoc_mid]; exact hl)
    rw [← snoc_mid] at this
    refine Ev.step' this fun k => ?_
    simp only [laws_tSame.l0]
    rw [if_pos (by omega), if_pos (by omega), if_pos (by omega), if_pos (by omega), if_pos trivial, w64 (by omega)]
theorem laws_tSame_self (l : List Int) (hl : l.length ≤ 1099511627776) : Ev (fun k => laws_tSame.f k l l) true := by
  unfold laws_tSame.f
  simp only [if_true]
  exact laws_tSame_loop l [] _ 0 (by simp) (by simp) (by simpa using hl)

theorem laws_tLess_loop (s : List Int) : ∀ (t p : List Int) (i : Int), i = (p.length : Int) → (p ++ s).length ≤ 1099511627776 → (p ++ t).length ≤ 1099511627776 →
    Ev (fun k => laws_tLess.l0 k (p ++ s) (p ++ t) i) (lexLt s t) := by
  induction s with
  | nil =>
    intro t p i hi hl hl2
    have c1 : ¬ i < (((p ++ ([] : List Int)).length : Nat) : Int) := by rw [len_nil]; omega
    refine Ev.succ ?_
    simp only [laws_tLess.l0, if_neg c1]
    refine Ev.done fun k => ?_
    simp only [laws_tLess.j1, Bool.false_eq_true, if_false]
    cases t with
    | nil => simp [lexLt]
    | cons y t => simp [lexLt]; omega
  | cons x s ih =>
    intro t p i hi hl hl2
    have h1 := len_mid p s x
    have c1 : i < (((p ++ x :: s).length : Nat) : Int) := by omega
    refine Ev.succ ?_
    simp only [laws_tLess.l0, if_pos c1]
    cases t with
    | nil =>
      have c2 : ¬ i < (((p ++ ([] : List Int)).length : Nat) : Int) := by rw [len_nil]; omega
      refine Ev.done fun k => ?_
      simp only [decide_eq_false c2, laws_tLess.j1, Bool.false_eq_true, if_false]
      simp [lexLt]; omega
    | cons y t =>
      have h2 := len_mid p t y
      have c2 : i < (((p ++ y :: t).length : Nat) : Int) := by omega
      have c3 : 0 ≤ i := by omega
      refine Ev.succ ?_
      simp only [decide_eq_true c2, laws_tLess.j1, if_true, if_pos c3, if_pos c1, if_pos c2, rd_mid (p := p) (s := s) (x := x) hi, rd_mid (p := p) (s := t) (x := y) hi]
      unfold lexLt
      by_cases e : x = y
      · subst e
        have := ih t (p ++ [x]) (i + 1) (by rw [len_snoc]; omega) (by rw [← snoc_mid]; exact hl) (by rw [← snoc_mid]; exact hl2)
        rw [← snoc_mid, ← snoc_mid] at this
        simp only [if_true, w64 (show -9223372036854775808 ≤ i + 1 ∧ i + 1 ≤ 9223372036854775807 by omega)]
        exact this
      · simp only [if_neg e]
        exact Ev.now _
theorem laws_tLess_ev (a b : List Int) (ha : a.length ≤ 1099511627776) (hb : b.length ≤ 1099511627776) : Ev (fun k => laws_tLess.f k a b) (lexLt a b) :=
  laws_tLess_loop a b [] 0 (by simp) (by simpa using ha) (by simpa using hb)

/-! ### the reader of draws: it tells a number always -/
theorem and255 (E : Int) (h0 : 0 ≤ E) (h1 : E ≤ 18446744073709551615) : 0 ≤ Go.bits .and .u64 E 255 ∧ Go.bits .and .u64 E 255 ≤ 255 := by
  have h := Go.bits_and_u64_nat E.toNat 255 (by omega) (by omega)
  rw [Int.toNat_of_nonneg h0] at h
  have h2 : E.toNat &&& 255 ≤ 255 := Nat.and_le_right
  have h3 : Go.bits .and .u64 E 255 = ((E.toNat &&& 255 : Nat) : Int) := h
  omega
theorem u64_in (n : Int) : 0 ≤ IntKind.u64.wrap n ∧ IntKind.u64.wrap n ≤ 18446744073709551615 := by
  have e : IntKind.u64.wrap n = n % 18446744073709551616 := rfl
  rw [e]; omega
theorem draw_in (n : Int) : 0 ≤ wrap64 (Go.bits .and .u64 (IntKind.u64.wrap n / 1099511627776) 255) ∧ wrap64 (Go.bits .and .u64 (IntKind.u64.wrap n / 1099511627776) 255) ≤ 255 := by
  have h := u64_in n
  have h2 := and255 (IntKind.u64.wrap n / 1099511627776) (by omega) (by omega)
  rw [w64 (by omega)]; exact h2
def Bytes (l : List Int) : Prop := ∀ x ∈ l, 0 ≤ x ∧ x ≤ 255
theorem bytes_wf {l : List Int} (h : ∀ x ∈ l, (Lit.int .u8 x).wf = true) : Bytes l := by
  intro x hx
  have h1 := h x hx
  unfold Lit.wf at h1
  rw [Bool.and_eq_true, decide_eq_true_iff, decide_eq_true_iff] at h1
  exact h1
def CurAt (m : Nat) (a : Int) : Prop := (0 ≤ a ∧ a ≤ (m : Int)) ∧ m ≤ 1152921504606846976
theorem CurAt.mono {m n : Nat} {a : Int} (h : CurAt m a) (hn : m ≤ n) (hm : n ≤ 1152921504606846976) : CurAt n a := by
  obtain ⟨⟨h1, h2⟩, h3⟩ := h
  exact ⟨⟨h1, by omega⟩, hm⟩
theorem cur_next {l : List Int} (hb : Bytes l) {m : Nat} {a : Int} (s : Int) (h : CurAt m a) (hm : m < 1152921504606846976) :
    ∃ b a' s', spec_l1Cur_next.f l a s = some (b, a', s') ∧ (0 ≤ b ∧ b ≤ 255) ∧ CurAt (m + 1) a' := by
  obtain ⟨⟨h1, h2⟩, _⟩ := h
  have e : wrap64 (a + 1) = a + 1 := w64 (by omega)
  unfold spec_l1Cur_next.f
  rw [e]
  by_cases c1 : a < (l.length : Int)
  · have hr := hb _ (rd_mem h1 c1)
    rw [if_pos c1, if_pos h1, w64 (n := rd l a) (by omega)]
    by_cases c2 : a + 1 ≤ (l.length : Int)
    · rw [if_pos c2]; exact ⟨_, _, _, rfl, hr, ⟨by omega, by omega⟩, by omega⟩
    · rw [if_neg c2]; exact ⟨_, _, _, rfl, draw_in _, ⟨by omega, by omega⟩, by omega⟩
  · rw [if_neg c1]
    by_cases c2 : a + 1 ≤ (l.length : Int)
    · rw [if_pos c2]; exact ⟨_, _, _, rfl, ⟨by omega, by omega⟩, ⟨by omega, by omega⟩, by omega⟩
    · rw [if_neg c2]; exact ⟨_, _, _, rfl, draw_in _, ⟨by omega, by omega⟩, by omega⟩
theorem tmod_in {b n : Int} (hb : 0 ≤ b) (hn : 1 < n) : 0 ≤ Int.tmod b n ∧ Int.tmod b n < n := by
  obtain ⟨c, rfl⟩ : ∃ c : Nat, b = (c : Int) := ⟨b.toNat, by omega⟩
  obtain ⟨k, rfl⟩ : ∃ k : Nat, n = (k : Int) := ⟨n.toNat, by omega⟩
  have e : Int.tmod (c : Int) (k : Int) = ((c % k : Nat) : Int) := rfl
  have := Nat.mod_lt c (show 0 < k by omega)
  rw [e]; omega
theorem cur_pick {l : List Int} (hb : Bytes l) {m : Nat} {a : Int} (s n : Int) (h : CurAt m a) (hm : m + 2 ≤ 1152921504606846976) :
    ∃ x a' s', spec_l1Cur_pick.f l a s n = some (x, a', s') ∧ (0 ≤ x ∧ x ≤ max (n - 1) 0) ∧ CurAt (m + 2) a' := by
  unfold spec_l1Cur_pick.f
  by_cases c1 : n ≤ 1
  · rw [if_pos c1]; exact ⟨_, _, _, rfl, ⟨by omega, by omega⟩, h.mono (by omega) (by omega)⟩
  · rw [if_neg c1]
    obtain ⟨b, a1, s1, h1, h2, h3⟩ := cur_next hb s h (by omega)
    rw [h1, obind]
    simp only
    have c0 : ¬ n = 0 := by omega
    by_cases c2 : n > 200
    · rw [if_pos c2]
      obtain ⟨b2, a2, s2, h4, h5, h6⟩ := cur_next hb s1 h3 (by omega)
      rw [h4, obind, if_neg c0]
      simp only
      rw [w64 (n := b * 256) (by omega), w64 (n := b * 256 + b2) (by omega)]
      have := tmod_in (b := b * 256 + b2) (n := n) (by omega) (by omega)
      exact ⟨_, _, _, rfl, ⟨by omega, by omega⟩, h6⟩
    · rw [if_neg c2, if_neg c0]
      have := tmod_in (b := b) (n := n) (by omega) (by omega)
      exact ⟨_, _, _, rfl, ⟨by omega, by omega⟩, h3.mono (by omega) (by omega)⟩

theorem cur_one {l : List Int} (hb : Bytes l) {m : Nat} {a : Int} (s n : Int) (h : CurAt m a) (hm : m + 2 ≤ 1152921504606846976) :
    ∃ x a' s', spec_l1Cur_one.f l a s n = some (x, a', s') ∧ CurAt (m + 2) a' := by
  unfold spec_l1Cur_one.f
  obtain ⟨b, a1, s1, h1, h2, h3⟩ := cur_pick hb s n h hm
  rw [h1, obind]
  exact ⟨_, _, _, rfl, h3⟩

theorem cur_among {l : List Int} (hb : Bytes l) {m : Nat} {a : Int} (s : Int) (L : List Int) (hL : 0 < L.length) (h : CurAt m a) (hm : m + 2 ≤ 1152921504606846976) :
    ∃ x a' s', spec_l1Cur_among.f l a s L = some (x, a', s') ∧ x ∈ L ∧ CurAt (m + 2) a' := by
  unfold spec_l1Cur_among.f
  obtain ⟨b, a1, s1, h1, h2, h3⟩ := cur_pick hb s (L.length : Int) h hm
  rw [h1, obind]
  simp only
  have c1 : b < (L.length : Int) := by omega
  rw [if_pos h2.1, if_pos c1]
  exact ⟨_, _, _, rfl, rd_mem h2.1 c1, h3⟩

theorem cur_counted9 {l : List Int} (hb : Bytes l) {m : Nat} {a : Int} (s : Int) (h : CurAt m a) (hm : m + 4 ≤ 1152921504606846976) :
    ∃ x a' s', spec_l1Cur_counted9.f l a s = some (x, a', s') ∧ (-1 ≤ x ∧ x ≤ 13) ∧ CurAt (m + 4) a' := by
  unfold spec_l1Cur_counted9.f
  obtain ⟨b, a1, s1, h1, h2⟩ := cur_one hb s 6 h (by omega)
  rw [h1, obind]
  cases b with
  | true =>
    simp only [if_true]
    obtain ⟨x, a2, s2, h3, h4, h5⟩ := cur_among hb s1 [(-1), 0, 1, 12, 13] (by decide) h2 (by omega)
    rw [h3, obind]
    simp only [List.mem_cons, List.not_mem_nil, or_false] at h4
    exact ⟨_, _, _, rfl, by omega, h5⟩
  | false =>
    simp only [Bool.false_eq_true, if_false]
    obtain ⟨x, a2, s2, h3, h4, h5⟩ := cur_pick hb s1 8 h2 (by omega)
    rw [h3, obind]
    exact ⟨_, _, _, rfl, by omega, h5⟩

theorem cur_rank9 {l : List Int} (hb : Bytes l) {m : Nat} {a : Int} (s n : Int) (hn : 0 ≤ n ∧ n ≤ 1099511627776) (h : CurAt m a) (hm : m + 4 ≤ 1152921504606846976) :
    ∃ x a' s', spec_l1Cur_rank9.f l a s n = some (x, a', s') ∧ (-1 ≤ x ∧ x ≤ n) ∧ CurAt (m + 4) a' := by
  unfold spec_l1Cur_rank9.f
  obtain ⟨b, a1, s1, h1, h2⟩ := cur_one hb s 6 h (by omega)
  rw [h1, obind, w64 (n := n - 1) (by omega)]
  cases b with
  | true =>
    simp only [if_true]
    obtain ⟨x, a2, s2, h3, h4, h5⟩ := cur_among hb s1 [(-1), 0, n - 1, n] (by simp) h2 (by omega)
    rw [h3, obind]
    simp only [List.mem_cons, List.not_mem_nil, or_false] at h4
    exact ⟨_, _, _, rfl, by omega, h5⟩
  | false =>
    simp only [Bool.false_eq_true, if_false]
    obtain ⟨x, a2, s2, h3, h4, h5⟩ := cur_pick hb s1 n h2 (by omega)
    rw [h3, obind]
    exact ⟨_, _, _, rfl, by omega, h5⟩



theorem spec_spCloses_l2 (o m t : Int) (W : List Int) (hW : W.length ≤ 1000) (hin : ∀ x ∈ W, 0 ≤ x ∧ x ≤ 1099511627776000) (R : Int) (s : List Int) : ∀ (x prev : Int) (p q : List Int), p ++ x :: s = W → q.length = p.length → (p = [] → prev = 0) → (∀ r, 0 < p.length → rd (q ++ r) ((p.length : Int) - 1) = prev) → 0 ≤ prev → prev ≤ 1099511627776000 * p.length →
    Ev (fun k => spec_spCloses.l1 k o m (q ++ nxtS prev (x :: s)) (wrap64 (t + 1))) R →
    Ev (fun k => spec_spCloses.l2 k o m W t (q ++ List.replicate (s.length + 1) 0) (p.length : Int)) R := by
  induction s with
  | nil =>
    intro x prev p q h1 h2 h3 h4 hp0 hp1 hR
    have : W.length = p.length + 1 := by rw [← h1]; simp
    have ew : wrap64 ((p.length : Int) + 1) = (p.length : Int) + 1 := w64 (by omega)
    refine Ev.succ ?_
    simp only [spec_spCloses.l2]
    simp only [ew, if_neg (show ¬ (p.length : Int) + 1 < (W.length : Int) by omega)]
    exact hR
  | cons y s ih =>
    intro x prev p q h1 h2 h3 h4 hp0 hp1 hR
    have hlen : W.length = p.length + s.length + 2 := by rw [← h1]; simp; omega
    have e0 : rd W ((p.length : Int) + 1) = y := by
      rw [← h1, snoc_mid]; exact rd_mid (by rw [len_snoc])
    have ew : wrap64 ((p.length : Int) + 1) = (p.length : Int) + 1 := w64 (by omega)
    have ew' : wrap64 ((p.length : Int) - 1) = (p.length : Int) - 1 := w64 (by omega)
    have hy := hin y (by rw [← h1]; simp)
    have hp' : (p ++ [x]) ++ y :: s = W := by rw [← snoc_mid]; exact h1
    have hr : List.replicate ((y :: s).length + 1) (0 : Int) = 0 :: List.replicate (s.length + 1) 0 := rfl
    have hql : ((q ++ 0 :: List.replicate (s.length + 1) (0 : Int)).length : Int) = p.length + s.length + 2 := by simp; omega
    have hset : (q ++ 0 :: List.replicate (s.length + 1) (0 : Int)).set (p.length : Int).toNat y = q ++ y :: List.replicate (s.length + 1) 0 := set_mid (by rw [h2])
    have hsn := len_snoc p x
    have hnext := fun z hz0 hz1 => ih y z (p ++ [x]) (q ++ [z]) hp' (by simp [h2]) (by simp) (fun r _ => by rw [len_snoc, show (p.length : Int) + 1 - 1 = p.length by omega, List.append_assoc]; exact rd_mid (by rw [h2])) hz0 hz1
    rw [hr]
    refine Ev.succ ?_
    simp only [spec_spCloses.l2]
    simp only [ew, ew', if_pos (show (p.length : Int) + 1 < (W.length : Int) by omega), if_pos (show 0 ≤ (p.length : Int) + 1 by omega), if_pos (show 0 ≤ (p.length : Int) by omega), hql, if_pos (show (p.length : Int) < (p.length : Int) + (s.length : Int) + 2 by omega), e0, hset, obind]
    by_cases hpos : (p.length : Int) > 0
    · have er : rd (q ++ y :: List.replicate (s.length + 1) 0) (p.length : Int) = y := rd_mid (by rw [h2])
      have er' := h4 (y :: List.replicate (s.length + 1) 0) (by omega)
      have es : (q ++ y :: List.replicate (s.length + 1) 0).set (p.length : Int).toNat (y + prev) = q ++ (y + prev) :: List.replicate (s.length + 1) 0 := set_mid (by rw [h2])
      have ev : wrap64 (y + prev) = y + prev := w64 (by omega)
      simp only [if_pos hpos, if_pos (show 0 ≤ (p.length : Int) - 1 by omega), if_pos (show (p.length : Int) - 1 < (p.length : Int) + (s.length : Int) + 2 by omega), er, er', ev, es]
      have := hnext (y + prev) (by omega) (by omega) (by simpa [nxtS] using hR)
      rw [len_snoc, List.append_assoc] at this
      exact this
    · have hp0 : p = [] := List.eq_nil_of_length_eq_zero (by omega)
      have h0 := h3 hp0
      simp only [if_neg hpos]
      have := hnext y (by omega) (by omega) (by subst h0; simpa [nxtS] using hR)
      rw [len_snoc, List.append_assoc] at this
      exact this
theorem spec_spCloses_l1 (n m : Nat) (hn : n ≤ 13) (hm : m ≤ 12) (o : Nat) (ho : o ≤ n) (d : Nat) : ∀ t : Nat, t + d = m →
    Ev (fun k => spec_spCloses.l1 k (o : Int) (m : Int) (rowS n t) ((t : Int) + 1)) ((rowS n m).getD o 0) := by
  induction d with
  | zero =>
    intro t ht
    have hl := rowS_len n t
    have : t = m := by omega
    subst this
    refine Ev.succ ?_
    simp only [spec_spCloses.l1]
    simp only [if_neg (show ¬ (t : Int) + 1 ≤ (t : Int) by omega), if_pos (show 0 ≤ (o : Int) by omega), if_pos (show (o : Int) < ((rowS n t).length : Int) by omega)]
    exact Ev.some_ (by simp [rd])
  | succ d ih =>
    intro t ht
    have hl := rowS_len n t
    have e2 : wrap64 ((t : Int) + 1 + 1) = ((t + 1 : Nat) : Int) + 1 := by rw [w64 (by omega)]; omega
    have hb : ∀ x ∈ rowS n t, 0 ≤ x ∧ x ≤ 1099511627776000 := fun x hx => by have := rowS_small (n := n) (t := t) hn (by omega) x hx; omega
    refine Ev.succ ?_
    simp only [spec_spCloses.l1]
    simp only [if_pos (show (t : Int) + 1 ≤ (m : Int) by omega), if_pos (show 0 ≤ ((rowS n t).length : Int) by omega), Int.toNat_natCast, if_pos (show (rowS n t).length ≤ 35184372088832 by omega)]
    obtain ⟨x, s, hxs⟩ : ∃ x s, rowS n t = x :: s := by
      cases h : rowS n t with
      | nil => rw [h] at hl; simp at hl
      | cons x s => exact ⟨x, s, rfl⟩
    have hls : (rowS n t).length = s.length + 1 := by rw [hxs]; rfl
    have hrep : List.replicate (rowS n t).length (0 : Int) = [] ++ List.replicate (s.length + 1) 0 := by rw [hls]; rfl
    rw [hrep]
    refine spec_spCloses_l2 (o : Int) (m : Int) ((t : Int) + 1) (rowS n t) (by omega) hb _ s x 0 [] [] (by rw [hxs]; rfl) rfl (fun _ => rfl) (by simp) (by omega) (by simp) ?_
    rw [e2, List.nil_append, ← hxs]
    exact ih (t + 1) (by omega)
theorem spec_spCloses_l0 (o m : Int) (n : Nat) (hn : n ≤ 1000) (R : Int) (d : Nat) : ∀ t : Nat, t + d = n →
    Ev (fun k => spec_spCloses.l1 k o m (List.replicate n 1) 1) R →
    Ev (fun k => spec_spCloses.l0 k o m (List.replicate t 1 ++ List.replicate d 0) (n : Int) (t : Int)) R := by
  induction d with
  | zero =>
    intro t ht hR
    have : t = n := by omega
    subst this
    refine Ev.succ ?_
    simp only [spec_spCloses.l0]
    simp only [if_neg (show ¬ (t : Int) < (t : Int) by omega)]
    simpa using hR
  | succ d ih =>
    intro t ht hR
    have e1 : wrap64 ((t : Int) + 1) = ((t + 1 : Nat) : Int) := by rw [w64 (by omega)]; omega
    have e2 : (List.replicate t 1 ++ List.replicate (d + 1) 0 : List Int).set (t : Int).toNat 1 = List.replicate (t + 1) 1 ++ List.replicate d 0 := by
      rw [List.replicate_succ, set_mid (by simp), snoc_mid, ← List.replicate_succ']
    have e3 : ((List.replicate t 1 ++ List.replicate (d + 1) 0 : List Int).length : Int) = (n : Int) := by simp; omega
    refine Ev.succ ?_
    simp only [spec_spCloses.l0]
    simp only [e3, if_pos (show (t : Int) < (n : Int) by omega), if_pos (show 0 ≤ (t : Int) by omega), e1, e2]
    exact ih (t + 1) (by omega) hR
theorem spec_spCloses_ev (o m : Nat) (h : o + m ≤ 12) : Ev (fun n => spec_spCloses.f n (o : Int) (m : Int)) ((bw m o : Nat) : Int) := by
  unfold spec_spCloses.f
  have e1 : wrap64 (wrap64 ((o : Int) + (m : Int)) + 2) = ((o + m + 2 : Nat) : Int) := by
    rw [w64 (n := (o : Int) + (m : Int)) (by omega), w64 (by omega)]; omega
  simp only [e1, if_pos (show 0 ≤ ((o + m + 2 : Nat) : Int) by omega), Int.toNat_natCast, if_pos (show o + m + 2 ≤ 35184372088832 by omega), obind]
  simp only [List.length_replicate]
  have h1 := spec_spCloses_l1 (o + m + 1) m (by omega) (by omega) o (by omega) m 0 (by omega)
  rw [rowS_get _ _ _ (by omega)] at h1
  exact spec_spCloses_l0 (o : Int) (m : Int) (o + m + 2) (by omega) _ (o + m + 2) 0 (by omega) h1

theorem spec_l1In_eq (a b c : Int) : spec_l1In.f a b c = some (inB a b c) := inB_ite a b c

theorem spec_BalancedWith_loop (n : Nat) (hn : n ≤ 12) (r : Nat) : ∀ (o m rank : Nat) (out : List Int), out.length + r = 2 * n → r = o + 2 * m → o + m ≤ n → rank < bw m o →
    Ev (fun f => spec_BalancedWith.l0 f (n : Int) (rank : Int) out (o : Int) (m : Int)) (out ++ unB r o m rank, true) := by
  induction r with
  | zero =>
    intro o m rank out h1 h2 h3 h4
    have c8 : n ≤ 1099511627776 := by omega
    have c1 : ¬ (out.length : Int) < ((2 * n : Nat) : Int) := by omega
    refine Ev.to (Ev.done fun f => ?_) (show (out, true) = _ by simp [unB])
    simp only [spec_BalancedWith.l0]
    rw [i_two c8, if_neg c1]
  | succ r ih =>
    intro o m rank out h1 h2 h3 h4
    have hlow := low_le m o
    have hb := bw_small (o := o) (m := m) (by omega)
    have c1 : (out.length : Int) < ((2 * n : Nat) : Int) := by omega
    have c7 : out.length < 17592186044416 := by omega
    have c8 : n ≤ 1099511627776 := by omega
    have c9 : ¬ (rank : Int) < 0 := by omega
    by_cases hge : lowB m o ≤ rank
    · have hm : 1 ≤ m := by
        cases m with
        | zero =>
          have h5 : bw 0 o = 1 := bw_last o
          cases o with
          | zero => omega
          | succ o =>
            have h6 := low_succ 0 o
            have h7 : bw 0 o = 1 := bw_last o
            omega
        | succ m => omega
      obtain ⟨m, rfl⟩ : ∃ q, m = q + 1 := ⟨m - 1, by omega⟩
      have el := @low_one m o
      have b2 : o ≤ 1099511627776 := by omega
      have b6 : m ≤ 1099511627776 := by omega
      have b7 : ¬ ((m + 1 : Nat) : Int) = 0 := by omega
      have hih := ih (o + 1) m (rank - lowB (m + 1) o) (out ++ [1]) (by simp; omega) (by omega) (by omega) (by omega)
      cases o with
      | zero =>
        rw [low_zero, Nat.sub_zero] at hih
        have b8 : wrap64 ((rank : Int) - 0) = (rank : Int) := by rw [w64 (by omega)]; omega
        refine Ev.succ ?_
        simp only [spec_BalancedWith.l0]
        simp only [i_two c8, if_pos c1, if_neg (show ¬ ((0 : Nat) : Int) > 0 by decide), if_neg c9, if_neg b7, if_pos c7, b8, i_up b2, i_down b6]
        refine Ev.to hih ?_
        simp [unB, low_zero]
      | succ o =>
        have b4 : o ≤ 1099511627776 := by omega
        have b5 : ((o + 1 : Nat) : Int) > 0 := by omega
        have hcl := spec_spCloses_ev o (m + 1) (by omega)
        rw [low_succ] at hih hge
        have b3 : ¬ (rank : Int) < ((bw (m + 1) o : Nat) : Int) := by omega
        have b9 : -9223372036854775808 ≤ (rank : Int) - ((bw (m + 1) o : Nat) : Int) ∧ (rank : Int) - ((bw (m + 1) o : Nat) : Int) ≤ 9223372036854775807 := by omega
        have b10 : (rank : Int) - ((bw (m + 1) o : Nat) : Int) = ((rank - bw (m + 1) o : Nat) : Int) := by omega
        refine Ev.succ ?_
        simp only [spec_BalancedWith.l0]
        simp only [i_two c8, if_pos c1, if_pos b5, i_down b4]
        refine Ev.bind hcl ?_
        simp only [if_neg b3, if_neg b7, if_pos c7, (show wrap64 ((rank : Int) - ((bw (m + 1) o : Nat) : Int)) = ((rank - bw (m + 1) o : Nat) : Int) by rw [w64 b9, b10]), i_up b2, i_down b6]
        refine Ev.to hih ?_
        simp [unB, low_succ, hge]
    · have ho : 1 ≤ o := by
        cases o with
        | zero => rw [low_zero] at hge; omega
        | succ o => omega
      obtain ⟨o, rfl⟩ : ∃ q, o = q + 1 := ⟨o - 1, by omega⟩
      have h6 := low_succ m o
      have b2 : o ≤ 1099511627776 := by omega
      have b5 : ((o + 1 : Nat) : Int) > 0 := by omega
      have b3 : (rank : Int) < ((bw m o : Nat) : Int) := by omega
      have hcl := spec_spCloses_ev o m (by omega)
      have hih := ih o m rank (out ++ [0]) (by simp; omega) (by omega) (by omega) (by omega)
      refine Ev.succ ?_
      simp only [spec_BalancedWith.l0]
      simp only [i_two c8, if_pos c1, if_pos b5, i_down b2]
      refine Ev.bind hcl ?_
      simp only [if_pos b3, if_pos c7]
      refine Ev.to hih ?_
      simp [unB, hge]
theorem spec_BalancedWith_ev (n rank : Int) : Ev (fun f => spec_BalancedWith.f f n rank) (if isBk n rank = true then (unB (2 * n.toNat) 0 n.toNat rank.toNat, true) else ([], false)) := by
  unfold isBk spec_BalancedWith.f
  by_cases hn : 0 ≤ n ∧ n ≤ 12
  · obtain ⟨m, rfl⟩ : ∃ m : Nat, n = (m : Int) := ⟨n.toNat, by omega⟩
    have hb := bw_small (o := 0) (m := m) (by omega)
    have hc := spec_spCloses_ev 0 m (by omega)
    have b1 : -9223372036854775808 ≤ ((bw m 0 : Nat) : Int) - 1 ∧ ((bw m 0 : Nat) : Int) - 1 ≤ 9223372036854775807 := by omega
    simp only [spec_l1In_eq, inB_yes hn, obind, if_true, Bool.true_and, Int.toNat_natCast]
    refine Ev.bind hc ?_
    simp only [w64 b1]
    refine Ev.succ ?_
    simp only [spec_BalancedWith.j0]
    by_cases hr : 0 ≤ rank ∧ rank ≤ ((bw m 0 : Nat) : Int) - 1
    · obtain ⟨q, rfl⟩ : ∃ q : Nat, rank = (q : Int) := ⟨rank.toNat, by omega⟩
      simp only [inB_yes hr, Bool.not_true, Bool.false_eq_true, if_false, if_true, Int.toNat_natCast]
      exact spec_BalancedWith_loop m (by omega) (2 * m) 0 m q [] (by simp) (by omega) (by omega) (by omega)
    · simp only [inB_no hr, Bool.not_false, if_true, Bool.false_eq_true, if_false]
      exact Ev.now _
  · simp only [spec_l1In_eq, inB_no hn, obind, Bool.false_and, Bool.false_eq_true, if_false]
    refine Ev.succ ?_
    simp only [spec_BalancedWith.j0, if_true]
    exact Ev.now _

theorem impl_within_eq (a b c : Int) : impl_within.f a b c = some (inB a b c) := inB_ite a b c

theorem impl_closings_l1 (o n t : Int) (W : List Int) (hW : W.length ≤ 1000) (hin : ∀ x ∈ W, 0 ≤ x ∧ x ≤ 1099511627776) (R : Int) (s : List Int) : ∀ (x prev : Int) (p q : List Int), p ++ x :: s = W → q.length = p.length → (p = [] → prev = 0) → (0 < p.length → rd W ((p.length : Int) - 1) = prev) →
    Ev (fun k => impl_closings.l0 k o (q ++ nxtC prev (x :: s)) n (wrap64 (t + 1))) R →
    Ev (fun k => impl_closings.l1 k o W (q ++ List.replicate (s.length + 1) 0) n t ((W.length : Int) - 1) (p.length : Int)) R := by
  induction s with
  | nil =>
    intro x prev p q h1 h2 h3 h4 hR
    have : W.length = p.length + 1 := by rw [← h1]; simp
    refine Ev.succ ?_
    simp only [impl_closings.l1]
    simp only [if_neg (show ¬ (p.length : Int) < (W.length : Int) - 1 by omega)]
    exact hR
  | cons y s ih =>
    intro x prev p q h1 h2 h3 h4 hR
    have hlen : W.length = p.length + s.length + 2 := by rw [← h1]; simp; omega
    have e0 : rd W ((p.length : Int) + 1) = y := by
      rw [← h1, snoc_mid]; exact rd_mid (by rw [len_snoc])
    have ew : wrap64 ((p.length : Int) + 1) = (p.length : Int) + 1 := w64 (by omega)
    have ew' : wrap64 ((p.length : Int) - 1) = (p.length : Int) - 1 := w64 (by omega)
    have hx := hin x (by rw [← h1]; simp)
    have hy := hin y (by rw [← h1]; simp)
    have hp' : (p ++ [x]) ++ y :: s = W := by rw [← snoc_mid]; exact h1
    have hr : List.replicate ((y :: s).length + 1) (0 : Int) = 0 :: List.replicate (s.length + 1) 0 := rfl
    have hql : ((q ++ 0 :: List.replicate (s.length + 1) (0 : Int)).length : Int) = p.length + s.length + 2 := by simp; omega
    have hset : (q ++ 0 :: List.replicate (s.length + 1) (0 : Int)).set (p.length : Int).toNat y = q ++ y :: List.replicate (s.length + 1) 0 := set_mid (by rw [h2])
    have hnext := fun z => ih y x (p ++ [x]) (q ++ [z]) hp' (by simp [h2]) (by simp) (fun _ => by rw [len_snoc, show (p.length : Int) + 1 - 1 = p.length by omega, ← h1]; exact rd_mid rfl)
    rw [hr]
    refine Ev.succ ?_
    simp only [impl_closings.l1]
    simp only [ew, ew', if_pos (show (p.length : Int) < (W.length : Int) - 1 by omega), if_pos (show 0 ≤ (p.length : Int) + 1 by omega), if_pos (show (p.length : Int) + 1 < (W.length : Int) by omega), if_pos (show 0 ≤ (p.length : Int) by omega), hql, if_pos (show (p.length : Int) < (p.length : Int) + (s.length : Int) + 2 by omega), e0, hset, obind]
    by_cases hpos : (p.length : Int) > 0
    · have hprev := h4 (by omega)
      have hpm : prev ∈ W := by rw [← hprev]; exact rd_mem (by omega) (by omega)
      have hpb := hin prev hpm
      have er : rd (q ++ y :: List.replicate (s.length + 1) 0) (p.length : Int) = y := rd_mid (by rw [h2])
      have es : (q ++ y :: List.replicate (s.length + 1) 0).set (p.length : Int).toNat (y + prev) = q ++ (y + prev) :: List.replicate (s.length + 1) 0 := set_mid (by rw [h2])
      have ev : wrap64 (y + prev) = y + prev := w64 (by omega)
      simp only [if_pos hpos, if_pos (show 0 ≤ (p.length : Int) - 1 by omega), if_pos (show (p.length : Int) - 1 < (W.length : Int) by omega), er, hprev, ev, es]
      have := hnext (y + prev) (by simpa [nxtC] using hR)
      rw [len_snoc, List.append_assoc] at this
      exact this
    · have hp0 : p = [] := List.eq_nil_of_length_eq_zero (by omega)
      have h0 := h3 hp0
      simp only [if_neg hpos]
      have := hnext y (by subst h0; simpa [nxtC] using hR)
      rw [len_snoc, List.append_assoc] at this
      exact this
theorem impl_closings_l0 (n r : Nat) (hn : n ≤ 100) (hr : r ≤ 30) (o : Nat) (ho : o ≤ n) (d : Nat) : ∀ t : Nat, t + d = r →
    Ev (fun k => impl_closings.l0 k (o : Int) (rowC n t) (r : Int) (t : Int)) ((rowC n r).getD o 0) := by
  induction d with
  | zero =>
    intro t ht
    have hl := rowC_len n t
    have : t = r := by omega
    subst this
    refine Ev.succ ?_
    simp only [impl_closings.l0]
    simp only [if_neg (show ¬ (t : Int) < (t : Int) by omega), if_pos (show 0 ≤ (o : Int) by omega), if_pos (show (o : Int) < ((rowC n t).length : Int) by omega)]
    exact Ev.some_ (by simp [rd])
  | succ d ih =>
    intro t ht
    have hl := rowC_len n t
    have e1 : wrap64 (((rowC n t).length : Int) - 1) = ((rowC n t).length : Int) - 1 := w64 (by omega)
    have e2 : wrap64 ((t : Int) + 1) = ((t + 1 : Nat) : Int) := by rw [w64 (by omega)]; omega
    have hb : ∀ x ∈ rowC n t, 0 ≤ x ∧ x ≤ 1099511627776 := fun x hx => by have := rowC_small (n := n) (t := t) (by omega) x hx; omega
    refine Ev.succ ?_
    simp only [impl_closings.l0]
    simp only [if_pos (show (t : Int) < (r : Int) by omega), if_pos (show 0 ≤ ((rowC n t).length : Int) by omega), Int.toNat_natCast, if_pos (show (rowC n t).length ≤ 35184372088832 by omega), e1]
    obtain ⟨x, s, hxs⟩ : ∃ x s, rowC n t = x :: s := by
      cases h : rowC n t with
      | nil => rw [h] at hl; simp at hl
      | cons x s => exact ⟨x, s, rfl⟩
    have hls : (rowC n t).length = s.length + 1 := by rw [hxs]; rfl
    have hrep : List.replicate (rowC n t).length (0 : Int) = [] ++ List.replicate (s.length + 1) 0 := by rw [hls]; rfl
    rw [hrep]
    refine impl_closings_l1 (o : Int) (r : Int) (t : Int) (rowC n t) (by omega) hb _ s x 0 [] [] (by rw [hxs]; rfl) rfl (fun _ => rfl) (by simp) ?_
    rw [e2, List.nil_append, ← hxs]
    exact ih (t + 1) (by omega)
theorem impl_closings_ev (o m : Nat) (h : o + m ≤ 12) : Ev (fun n => impl_closings.f n (o : Int) ((o + 2 * m : Nat) : Int)) ((bw m o : Nat) : Int) := by
  unfold impl_closings.f
  have e1 : wrap64 (wrap64 ((o : Int) + ((o + 2 * m : Nat) : Int)) + 2) = ((o + (o + 2 * m) + 2 : Nat) : Int) := by
    rw [w64 (n := (o : Int) + ((o + 2 * m : Nat) : Int)) (by omega), w64 (by omega)]; omega
  have e2 : (List.replicate (o + (o + 2 * m) + 2) (0 : Int)).set (0 : Int).toNat 1 = rowC (o + (o + 2 * m) + 1) 0 := rfl
  simp only [e1, if_pos (show 0 ≤ ((o + (o + 2 * m) + 2 : Nat) : Int) by omega), Int.toNat_natCast, if_pos (show o + (o + 2 * m) + 2 ≤ 35184372088832 by omega), obind]
  simp only [List.length_replicate, if_pos (show (0 : Int) < ((o + (o + 2 * m) + 2 : Nat) : Int) by omega), e2]
  refine Ev.to (impl_closings_l0 (o + (o + 2 * m) + 1) (o + 2 * m) (by omega) (by omega) o (by omega) (o + 2 * m) 0 (by omega)) ?_
  rw [rowC_get _ _ _ (by omega), bcI_bw _ o m rfl]

theorem impl_lower_ev (o m r : Nat) (h : o + m ≤ 12) (hr : r + 1 = o + 2 * m) : Ev (fun n => impl_lower.f n (o : Int) (r : Int)) ((lowB m o : Nat) : Int) := by
  unfold impl_lower.f
  cases o with
  | zero =>
    simp only [Int.natCast_zero, if_true, low_zero]
    exact Ev.now _
  | succ o =>
    have e : wrap64 (((o + 1 : Nat) : Int) - 1) = (o : Int) := by rw [w64 (by omega)]; omega
    have er : r = o + 2 * m := by omega
    subst er
    simp only [if_neg (show ¬ ((o + 1 : Nat) : Int) = 0 by omega), e]
    refine Ev.bind (impl_closings_ev o m (by omega)) ?_
    rw [low_succ]
    exact Ev.now _

theorem impl_BalancedWith_loop (n : Nat) (hn : n ≤ 12) (r : Nat) : ∀ (o m rank : Nat) (out : List Int), out.length + r = 2 * n → r = o + 2 * m → o + m ≤ n → rank < bw m o →
    Ev (fun f => impl_BalancedWith.l0 f (n : Int) (rank : Int) out (o : Int) ((2 * n : Nat) : Int) (out.length : Int)) (out ++ unB r o m rank, true) := by
  induction r with
  | zero =>
    intro o m rank out h1 h2 h3 h4
    refine Ev.to (Ev.done fun f => ?_) (show (out, true) = _ by simp [unB])
    simp only [impl_BalancedWith.l0]
    rw [if_neg (by omega)]
  | succ r ih =>
    intro o m rank out h1 h2 h3 h4
    have hlow := low_le m o
    have hb := bw_small (o := o) (m := m) (by omega)
    have c1 : (out.length : Int) < ((2 * n : Nat) : Int) := by omega
    have c3 : out.length ≤ 1099511627776 := by omega
    have c5 : out.length + (r + 1) = 2 * n := h1
    have c6 : 2 * n ≤ 1099511627776 := by omega
    have c7 : out.length < 17592186044416 := by omega
    have c8 : n ≤ 1099511627776 := by omega
    have hlo := impl_lower_ev o m r (by omega) h2
    by_cases hge : lowB m o ≤ rank
    · have hm : 1 ≤ m := by
        cases m with
        | zero =>
          have h5 : bw 0 o = 1 := bw_last o
          cases o with
          | zero => omega
          | succ o =>
            have h6 := low_succ 0 o
            have h7 : bw 0 o = 1 := bw_last o
            omega
        | succ m => omega
      obtain ⟨m, rfl⟩ : ∃ q, m = q + 1 := ⟨m - 1, by omega⟩
      have el := @low_one m o
      have b2 : o ≤ 1099511627776 := by omega
      have b3 : (rank : Int) ≥ ((lowB (m + 1) o : Nat) : Int) := by omega
      have b4 : -9223372036854775808 ≤ (rank : Int) - ((lowB (m + 1) o : Nat) : Int) ∧ (rank : Int) - ((lowB (m + 1) o : Nat) : Int) ≤ 9223372036854775807 := by omega
      have b5 : (rank : Int) - ((lowB (m + 1) o : Nat) : Int) = ((rank - lowB (m + 1) o : Nat) : Int) := by omega
      have hih := ih (o + 1) m (rank - lowB (m + 1) o) (out ++ [1]) (by simp; omega) (by omega) (by omega) (by omega)
      refine Ev.succ ?_
      simp only [impl_BalancedWith.l0]
      simp only [if_pos c1, i_two c8, i_last c5 c6]
      refine Ev.bind hlo ?_
      simp only [if_pos b3, if_pos c7, (show wrap64 ((rank : Int) - ((lowB (m + 1) o : Nat) : Int)) = ((rank - lowB (m + 1) o : Nat) : Int) by rw [w64 b4, b5]), i_plus1 b2, i_succ (out := out) (x := (1 : Int)) c3]
      refine Ev.to hih ?_
      simp [unB, hge]
    · have ho : 1 ≤ o := by
        cases o with
        | zero => rw [low_zero] at hge; omega
        | succ o => omega
      obtain ⟨o, rfl⟩ : ∃ q, o = q + 1 := ⟨o - 1, by omega⟩
      have h6 := low_succ m o
      have b2 : o ≤ 1099511627776 := by omega
      have b3 : ¬ (rank : Int) ≥ ((lowB m (o + 1) : Nat) : Int) := by omega
      have hih := ih o m rank (out ++ [0]) (by simp; omega) (by omega) (by omega) (by omega)
      refine Ev.succ ?_
      simp only [impl_BalancedWith.l0]
      simp only [if_pos c1, i_two c8, i_last c5 c6]
      refine Ev.bind hlo ?_
      simp only [if_neg b3, if_pos c7, i_minus1 b2, i_succ (out := out) (x := (0 : Int)) c3]
      refine Ev.to hih ?_
      simp [unB, hge]
theorem impl_BalancedWith_ev (n rank : Int) : Ev (fun f => impl_BalancedWith.f f n rank) (if isBk n rank = true then (unB (2 * n.toNat) 0 n.toNat rank.toNat, true) else ([], false)) := by
  unfold isBk impl_BalancedWith.f
  by_cases hn : 0 ≤ n ∧ n ≤ 12
  · obtain ⟨m, rfl⟩ : ∃ m : Nat, n = (m : Int) := ⟨n.toNat, by omega⟩
    have hb := bw_small (o := 0) (m := m) (by omega)
    have c8 : m ≤ 1099511627776 := by omega
    have hc := impl_closings_ev 0 m (by omega)
    rw [Nat.zero_add] at hc
    have b1 : -9223372036854775808 ≤ ((bw m 0 : Nat) : Int) - 1 ∧ ((bw m 0 : Nat) : Int) - 1 ≤ 9223372036854775807 := by omega
    simp only [impl_within_eq, inB_yes hn, obind, if_true, Bool.true_and, Int.toNat_natCast, i_two c8]
    refine Ev.bind hc ?_
    simp only [w64 b1]
    refine Ev.succ ?_
    simp only [impl_BalancedWith.j0]
    by_cases hr : 0 ≤ rank ∧ rank ≤ ((bw m 0 : Nat) : Int) - 1
    · obtain ⟨q, rfl⟩ : ∃ q : Nat, rank = (q : Int) := ⟨rank.toNat, by omega⟩
      simp only [inB_yes hr, Bool.not_true, Bool.false_eq_true, if_false, if_true, Int.toNat_natCast, i_two c8]
      exact impl_BalancedWith_loop m (by omega) (2 * m) 0 m q [] (by simp) (by omega) (by omega) (by omega)
    · simp only [inB_no hr, Bool.not_false, if_true, Bool.false_eq_true, if_false]
      exact Ev.now _
  · simp only [impl_within_eq, inB_no hn, obind, Bool.false_and, Bool.false_eq_true, if_false]
    refine Ev.succ ?_
    simp only [impl_BalancedWith.j0, if_true]
    exact Ev.now _

theorem impl_IsBalancedWord_loop (l : List Int) (s : List Int) : ∀ (p : List Int) (o n i : Int), 0 ≤ o → o ≤ p.length → n = ((p ++ s).length : Int) → i = (p.length : Int) → (p ++ s).length ≤ 1099511627776 →
    Ev (fun k => impl_IsBalancedWord.l0 k l o (p ++ s) n i) (balW o s && decide ((l.length : Int) ≤ 24)) := by
  induction s with
  | nil =>
    intro p o n i ho ho' hn hi hl
    refine Ev.to (Ev.done fun k => ?_) (show (if o = 0 then decide ((l.length : Int) ≤ 24) else false) = _ by unfold balW; split <;> simp [*])
    simp only [impl_IsBalancedWord.l0]
    rw [if_neg (by rw [len_nil] at hn; omega)]
    split <;> rfl
  | cons x s ih =>
    intro p o n i ho ho' hn hi hl
    have h1 := len_mid p s x
    unfold balW
    cases hb : inB x 0 1 with
    | false =>
      refine Ev.to (Ev.done fun k => ?_) (show false = _ by simp)
      simp only [impl_IsBalancedWord.l0]
      rw [if_pos (by omega), if_pos (by omega), if_pos (by omega), rd_mid hi, impl_within_eq, hb]
      rfl
    | true =>
      have hx := inB_true.1 hb
      by_cases hneg : o + (2 * x - 1) < 0
      · refine Ev.to (Ev.done fun k => ?_) (show false = _ by rw [decide_eq_false (by omega)]; simp)
        simp only [impl_IsBalancedWord.l0]
        rw [if_pos (by omega), if_pos (by omega), if_pos (by omega), rd_mid hi, impl_within_eq, hb]
        simp only [obind, if_true]
        rw [w64 (n := 2 * x) (by omega), w64 (n := 2 * x - 1) (by omega), w64 (n := o + (2 * x - 1)) (by omega), if_pos hneg]
      · have := ih (p ++ [x]) (o + (2 * x - 1)) n (i + 1) (by omega) (by rw [len_snoc]; omega) (by rw [← snoc_mid]; exact hn) (by rw [len_snoc]; omega) (by rw [← snoc_mid]; exact hl)
        rw [← snoc_mid] at this
        refine Ev.to (Ev.step' this fun k => ?_) (by rw [decide_eq_true (show 0 ≤ o + (2 * x - 1) by omega)]; simp)
        simp only [impl_IsBalancedWord.l0]
        rw [if_pos (by omega), if_pos (by omega), if_pos (by omega), rd_mid hi, impl_within_eq, hb]
        simp only [obind, if_true]
        rw [w64 (n := 2 * x) (by omega), w64 (n := 2 * x - 1) (by omega), w64 (n := o + (2 * x - 1)) (by omega), if_neg hneg, w64 (n := i + 1) (by omega)]
theorem impl_IsBalancedWord_ev (l : List Int) (hl : l.length ≤ 1099511627776) : Ev (fun k => impl_IsBalancedWord.f k l) (isB l) :=
  impl_IsBalancedWord_loop l l [] 0 _ 0 (by omega) (by simp) rfl (by simp) (by simpa using hl)

theorem impl_RankBalanced_loop (a : List Int) (ha : a.length ≤ 24) (s : List Int) : ∀ (p : List Int) (o m rank : Nat), p ++ s = a → balW (o : Int) s = true → s.length = o + 2 * m → o + m ≤ 12 → rank + bw m o ≤ 1125899906842624 →
    Ev (fun f => impl_RankBalanced.l0 f a (rank : Int) (o : Int) a (a.length : Int) (p.length : Int)) (((rank + rkB o m s : Nat) : Int), true) := by
  induction s with
  | nil =>
    intro p o m rank h1 h2 h3 h4 h5
    refine Ev.to (Ev.done fun f => ?_) (show (((rank : Nat) : Int), true) = _ by simp [rkB])
    have : a.length = p.length := by rw [← h1]; simp
    simp only [impl_RankBalanced.l0]
    rw [if_neg (by omega)]
  | cons x s ih =>
    intro p o m rank h1 h2 h3 h4 h5
    have hlen : a.length = p.length + s.length + 1 := by rw [← h1]; simp; omega
    have e0 : rd a (p.length : Int) = x := by rw [← h1]; exact rd_mid rfl
    have hp' : (p ++ [x]) ++ s = a := by rw [← snoc_mid]; exact h1
    have hlc : s.length + 1 = o + 2 * m := h3
    have hlow := low_le m o
    have hb := bw_small h4
    have c1 : (p.length : Int) < (a.length : Int) := by omega
    have c2 : 0 ≤ (p.length : Int) := by omega
    have c3 : p.length ≤ 1099511627776 := by omega
    have c5 : p.length + (s.length + 1) = a.length := by omega
    have c6 : a.length ≤ 1099511627776 := by omega
    rcases balW_step h2 h3 with ⟨rfl, g1, g2, g3⟩ | ⟨rfl, g1, g2, g3⟩
    · obtain ⟨m, rfl⟩ : ∃ q, m = q + 1 := ⟨m - 1, by omega⟩
      have el := @low_one m o
      have b1 : rank + lowB (m + 1) o ≤ 9007199254740992 := by omega
      have b2 : o ≤ 1099511627776 := by omega
      have hih := ih (p ++ [1]) (o + 1) m (rank + lowB (m + 1) o) hp' g2 (by omega) (by omega) (by omega)
      refine Ev.succ ?_
      simp only [impl_RankBalanced.l0]
      simp only [if_pos c1, if_pos c2, e0, i_last c5 c6, i_succ (out := p) (x := (1 : Int)) c3, if_true]
      refine Ev.bind (impl_lower_ev o (m + 1) s.length h4 hlc) ?_
      simp only [i_plus b1, i_up2 b2]
      refine Ev.to hih ?_
      simp only [rkB, if_true, Nat.add_sub_cancel]
      rw [Nat.add_assoc]
    · obtain ⟨o, rfl⟩ : ∃ q, o = q + 1 := ⟨o - 1, by omega⟩
      rw [low_succ] at hlow
      have b2 : o ≤ 1099511627776 := by omega
      have hih := ih (p ++ [0]) o m rank hp' g2 (by omega) (by omega) (by omega)
      refine Ev.succ ?_
      simp only [impl_RankBalanced.l0]
      simp only [if_pos c1, if_pos c2, e0, i_last c5 c6, i_succ (out := p) (x := (0 : Int)) c3, if_neg (show ¬ (0 : Int) = 1 by decide), i_down2 b2]
      refine Ev.to hih ?_
      simp only [rkB, if_neg (show ¬ (0 : Int) = 1 by decide), Nat.add_sub_cancel]
theorem impl_RankBalanced_ev (l : List Int) (hl : l.length ≤ 1099511627776) : Ev (fun f => impl_RankBalanced.f f l) (if isB l = true then ((rkB 0 (l.length / 2) l : Int), true) else (0, false)) := by
  unfold impl_RankBalanced.f
  refine Ev.bind (impl_IsBalancedWord_ev l hl) ?_
  by_cases h : isB l = true
  · obtain ⟨m, h1, h2, h3⟩ := isB_true h
    have hb := bw_small (o := 0) (m := m) (by omega)
    have e : l.length / 2 = m := by omega
    simp only [h, if_true, e]
    refine Ev.to (impl_RankBalanced_loop l (by omega) l [] 0 m 0 rfl h3 (by omega) (by omega) (by omega)) ?_
    simp
  · simp only [if_neg h]
    exact Ev.now _

theorem impl_GrowthOfWord_loop (w : List Int) (s : List Int) : ∀ (p out st : List Int) (c : Nat) (prev : Bool) (n i : Int), w = p ++ s → balW (st.length : Int) s = true → n = (w.length : Int) → i = (p.length : Int) → w.length ≤ 1000 → st.length + s.length ≤ 1000 → out.length + s.length ≤ 1000 → c ≤ p.length →
    ((p = [] ∧ prev = false) ∨ ∃ (p' : List Int) (y : Int), p = p' ++ [y] ∧ prev = decide (y = 1)) →
    Ev (fun k => impl_GrowthOfWord.l0 k w out st.reverse (c : Int) w n i) (out ++ gowF st c prev s, true) := by
  induction s with
  | nil =>
    intro p out st c prev n i hw hb hn hi hl hs ho hc hp
    refine Ev.to (Ev.done fun k => ?_) (show (out, true) = _ by simp [gowF])
    simp only [impl_GrowthOfWord.l0]
    rw [if_neg (by rw [List.append_nil] at hw; subst hw; omega)]
  | cons x s ih =>
    intro p out st c prev n i hw hb hn hi hl hs ho hc hp
    obtain ⟨h1, h2, h3⟩ := balW_cons hb
    have hlen : w.length = p.length + s.length + 1 := by rw [hw]; simp; omega
    rw [List.length_cons] at hs ho
    have hr : rd w i = x := by rw [hw]; exact rd_mid hi
    have hw' : w = (p ++ [x]) ++ s := by rw [hw]; simp
    have hwi : wrap64 (i + 1) = i + 1 := w64 (by omega)
    refine Ev.succ ?_
    simp only [impl_GrowthOfWord.l0]
    simp only [if_pos (show i < n by omega), if_pos (show 0 ≤ i by omega), if_pos (show i < (w.length : Int) by omega), hr, hwi]
    by_cases c1 : x = 1
    · simp only [if_pos c1, if_pos (show st.reverse.length < 17592186044416 by rw [List.length_reverse]; omega)]
      have := ih (p ++ [x]) out ((c : Int) :: st) c true n (i + 1) hw' (by rw [c1] at h3; simpa using h3) hn (by simp; omega) hl (by simp; omega) (by omega) (by simp; omega) (.inr ⟨p, x, rfl, by simp [c1]⟩)
      rw [List.reverse_cons] at this
      refine Ev.to this ?_
      rw [gowF, if_pos c1]
    · have hx0 : x = 0 := by omega
      obtain ⟨t, st, rfl⟩ : ∃ t q, st = t :: q := by
        cases st with
        | nil => rw [hx0] at h2; simp at h2
        | cons t q => exact ⟨t, q, rfl⟩
      rw [List.length_cons] at hs
      have eL : (t :: st).reverse = st.reverse ++ [t] := List.reverse_cons ..
      have hbal : balW (st.length : Int) s = true := by
        have e : ((t :: st).length : Int) + (2 * x - 1) = (st.length : Int) := by rw [hx0]; simp; omega
        rw [e] at h3; exact h3
      have hQ : st.reverse.length = st.length := List.length_reverse
      have hrec : ∀ c' : Nat, c' ≤ p.length + 1 → Ev (fun k => impl_GrowthOfWord.l0 k w (out ++ [t]) st.reverse (c' : Int) w n (i + 1)) ((out ++ [t]) ++ gowF st c' false s, true) := fun c' hc' =>
        ih (p ++ [x]) (out ++ [t]) st c' false n (i + 1) hw' hbal hn (by simp; omega) hl (by omega) (by simp; omega) (by simpa using hc') (.inr ⟨p, x, rfl, by simp [c1]⟩)
      generalize hQd : st.reverse = Q at hQ hrec eL
      have e1 : wrap64 (((Q ++ [t]).length : Int) - 1) = (Q.length : Int) := by rw [len_snoc, w64 (by omega)]; omega
      have e2 : rd (Q ++ [t]) (Q.length : Int) = t := rd_mid rfl
      have e7 : (Q ++ [t]).take ((Q.length : Int)).toNat = Q := by simp
      have eg : gowF (t :: st) c prev (x :: s) = t :: gowF st (if prev = true then c + 1 else c) false s := by rw [gowF, if_neg c1]; rfl
      simp only [eL, if_neg c1, e1, e2, e7, obind, if_pos (show (0 : Int) ≤ (Q.length : Int) by omega), if_pos (show (Q.length : Int) < (((Q ++ [t]).length : Nat) : Int) by rw [len_snoc]; omega), if_pos (show (Q.length : Int) ≤ (((Q ++ [t]).length : Nat) : Int) by rw [len_snoc]; omega), if_pos (show out.length < 17592186044416 by omega)]
      rw [eg]
      rcases hp with ⟨rfl, rfl⟩ | ⟨p', y, rfl, rfl⟩
      · simp only [if_neg (show ¬ i > 0 by simp at hi; omega)]
        refine Ev.to (hrec c (by omega)) ?_
        simp
      · have hi' : i = (p'.length : Int) + 1 := by rw [hi]; simp
        have em : wrap64 (i - 1) = (p'.length : Int) := by rw [w64 (by omega)]; omega
        have er : rd w (p'.length : Int) = y := by rw [hw, List.append_assoc]; exact rd_mid rfl
        have hpl : (p' ++ [y]).length = p'.length + 1 := by simp
        simp only [if_pos (show i > 0 by omega), em, er, if_pos (show (0 : Int) ≤ (p'.length : Int) by omega), if_pos (show (p'.length : Int) < (w.length : Int) by omega)]
        by_cases cy : y = 1
        · simp only [if_pos cy, i_up (show c ≤ 1099511627776 by omega)]
          refine Ev.to (hrec (c + 1) (by omega)) ?_
          simp [cy]
        · simp only [if_neg cy]
          refine Ev.to (hrec c (by omega)) ?_
          simp [cy]
/-- What GrowthOfWord answers. -/
def gowR (l : List Int) : List Int × Bool := if isB l = true then (if (l.length : Int) == 0 then ([], false) else (gowW l, true)) else ([], false)
theorem isB_both {l : List Int} (h : isB l = true) : balW 0 l = true ∧ l.length ≤ 24 := by
  unfold isB at h
  rw [Bool.and_eq_true, decide_eq_true_iff] at h
  exact ⟨h.1, by omega⟩
theorem gowR_len (l : List Int) : (gowR l).1.length ≤ 24 := by
  unfold gowR
  split
  · rename_i h
    have := isB_both h
    split
    · simp
    · exact Nat.le_trans (gowF_len l _ _ _) this.2
  · simp
theorem impl_GrowthOfWord_ev (l : List Int) (hl : l.length ≤ 1099511627776) : Ev (fun k => impl_GrowthOfWord.f k l) (gowR l) := by
  unfold impl_GrowthOfWord.f gowR
  refine Ev.bind (impl_IsBalancedWord_ev l hl) ?_
  by_cases h : isB l = true
  · obtain ⟨h1, h2⟩ := isB_both h
    simp only [if_pos h]
    refine Ev.succ ?_
    simp only [impl_GrowthOfWord.j0]
    by_cases c : ((l.length : Int) == 0) = true
    · simp only [if_pos c]; exact Ev.now _
    · simp only [if_neg c]
      exact impl_GrowthOfWord_loop l l [] [] [] 0 false _ 0 rfl h1 rfl (by simp) (by omega) (by simp; omega) (by simp; omega) (by simp) (.inl ⟨rfl, rfl⟩)
  · simp only [if_neg h]
    refine Ev.succ ?_
    simp only [impl_GrowthOfWord.j0, if_true]
    exact Ev.now _

theorem impl_IsGrowth_loop (l : List Int) (s : List Int) : ∀ (p : List Int) (m n i : Int), -1 ≤ m → m + 1 ≤ p.length → n = ((p ++ s).length : Int) → i = (p.length : Int) → (p ++ s).length ≤ 1099511627776 →
    Ev (fun k => impl_IsGrowth.l0 k l m (p ++ s) n i) (growW m s && inB l.length 1 12) := by
  induction s with
  | nil =>
    intro p m n i hm hm' hn hi hl
    refine Ev.to (Ev.done fun k => ?_) (show inB l.length 1 12 = _ by unfold growW; simp)
    simp only [impl_IsGrowth.l0]
    rw [if_neg (by rw [len_nil] at hn; omega), impl_within_eq]
    rfl
  | cons x s ih =>
    intro p m n i hm hm' hn hi hl
    have h1 := len_mid p s x
    unfold growW
    cases hb : inB x 0 (m + 1) with
    | false =>
      refine Ev.to (Ev.done fun k => ?_) (show false = _ by simp)
      simp only [impl_IsGrowth.l0]
      rw [if_pos (by omega), if_pos (by omega), if_pos (by omega), rd_mid hi, w64 (n := m + 1) (by omega), impl_within_eq, hb]
      rfl
    | true =>
      have hx := inB_true.1 hb
      have := ih (p ++ [x]) (max m x) n (i + 1) (by omega) (by rw [len_snoc]; omega) (by rw [← snoc_mid]; exact hn) (by rw [len_snoc]; omega) (by rw [← snoc_mid]; exact hl)
      rw [← snoc_mid] at this
      refine Ev.to (Ev.step' this fun k => ?_) (by simp)
      simp only [impl_IsGrowth.l0]
      rw [if_pos (by omega), if_pos (by omega), if_pos (by omega), rd_mid hi, w64 (n := m + 1) (by omega), impl_within_eq, hb]
      simp only [obind, if_true, mx_max]
      rw [w64 (n := i + 1) (by omega)]
theorem impl_IsGrowth_ev (l : List Int) (hl : l.length ≤ 1099511627776) : Ev (fun k => impl_IsGrowth.f k l) (isG l) :=
  impl_IsGrowth_loop l l [] (-1) _ 0 (by omega) (by simp) rfl (by simp) (by simpa using hl)

theorem impl_crosses_l3 (a : List Int) (ha : a.length ≤ 1099511627776) (x : Int) (j k i : Nat) (hj : j < a.length) (hk : k < a.length) (R : Bool)
    (hR : Ev (fun f => impl_crosses.l2 f a x (j : Int) (wrap64 ((k : Int) + 1)) a (a.length : Int) (i : Int)) R) (t : List Int) : ∀ q : List Int, q ++ t = a →
    Ev (fun f => impl_crosses.l3 f a x (j : Int) (k : Int) (q.length : Int) a (a.length : Int) (i : Int)) (((decide (x = rd a (k : Int)) && !decide (x = rd a (j : Int))) && hasV (rd a (j : Int)) t) || R) := by
  induction t with
  | nil =>
    intro q hq
    have hl : a.length = q.length := by rw [← hq]; simp
    refine Ev.succ ?_
    simp only [impl_crosses.l3]
    simp only [if_neg (show ¬ (q.length : Int) < (a.length : Int) by omega)]
    refine Ev.to hR ?_
    simp [hasV]
  | cons u t ih =>
    intro q hq
    have hl : a.length = q.length + t.length + 1 := by rw [← hq]; simp; omega
    have e0 : rd a (q.length : Int) = u := by rw [← hq]; exact rd_mid rfl
    have e1 : wrap64 ((q.length : Int) + 1) = ((q ++ [u]).length : Int) := by rw [w64 (by omega), len_snoc]
    have := ih (q ++ [u]) (by rw [← snoc_mid]; exact hq)
    refine Ev.succ ?_
    simp only [impl_crosses.l3]
    simp only [if_pos (show (q.length : Int) < (a.length : Int) by omega), if_pos (show 0 ≤ (k : Int) by omega), if_pos (show (k : Int) < (a.length : Int) by omega), if_pos (show 0 ≤ (j : Int) by omega), if_pos (show (j : Int) < (a.length : Int) by omega), if_pos (show 0 ≤ (q.length : Int) by omega), e0, e1]
    by_cases c1 : x = rd a (k : Int)
    · simp only [if_pos c1]
      by_cases c2 : rd a (j : Int) = u
      · simp only [if_pos c2]
        by_cases c3 : x = rd a (j : Int)
        · simp only [if_pos c3]
          refine Ev.to this ?_
          simp [c3]
        · simp only [if_neg c3]
          refine Ev.some_ ?_
          rw [decide_eq_true c1, decide_eq_false c3]
          simp [hasV, c2]
      · simp only [if_neg c2]
        refine Ev.to this ?_
        simp [hasV, Ne.symm c2]
    · simp only [if_neg c1]
      refine Ev.to this ?_
      simp [c1]
theorem impl_crosses_l2 (a : List Int) (ha : a.length ≤ 1099511627776) (x : Int) (j i : Nat) (hj : j < a.length) (R : Bool)
    (hR : Ev (fun f => impl_crosses.l1 f a x (wrap64 ((j : Int) + 1)) a (a.length : Int) (i : Int)) R) (s : List Int) : ∀ p : List Int, p ++ s = a →
    Ev (fun f => impl_crosses.l2 f a x (j : Int) (p.length : Int) a (a.length : Int) (i : Int)) (crK x (rd a (j : Int)) s || R) := by
  induction s with
  | nil =>
    intro p hp
    have hl : a.length = p.length := by rw [← hp]; simp
    refine Ev.succ ?_
    simp only [impl_crosses.l2]
    simp only [if_neg (show ¬ (p.length : Int) < (a.length : Int) by omega)]
    refine Ev.to hR ?_
    simp [crK]
  | cons z s ih =>
    intro p hp
    have hl : a.length = p.length + s.length + 1 := by rw [← hp]; simp; omega
    have e0 : rd a (p.length : Int) = z := by rw [← hp]; exact rd_mid rfl
    have e1 : wrap64 ((p.length : Int) + 1) = ((p ++ [z]).length : Int) := by rw [w64 (by omega), len_snoc]
    have hp' : (p ++ [z]) ++ s = a := by rw [← snoc_mid]; exact hp
    have h2 := ih (p ++ [z]) hp'
    rw [← e1] at h2
    have h3 := impl_crosses_l3 a ha x j p.length i hj (by omega) _ h2 s (p ++ [z]) hp'
    refine Ev.succ ?_
    simp only [impl_crosses.l2]
    simp only [if_pos (show (p.length : Int) < (a.length : Int) by omega), e1]
    refine Ev.to h3 ?_
    rw [e0]
    simp only [crK]
    rw [Bool.or_assoc]
theorem impl_crosses_l1 (a : List Int) (ha : a.length ≤ 1099511627776) (x : Int) (i : Nat) (R : Bool)
    (hR : Ev (fun f => impl_crosses.l0 f a a (a.length : Int) (wrap64 ((i : Int) + 1))) R) (s : List Int) : ∀ p : List Int, p ++ s = a →
    Ev (fun f => impl_crosses.l1 f a x (p.length : Int) a (a.length : Int) (i : Int)) (crJ x s || R) := by
  induction s with
  | nil =>
    intro p hp
    have hl : a.length = p.length := by rw [← hp]; simp
    refine Ev.succ ?_
    simp only [impl_crosses.l1]
    simp only [if_neg (show ¬ (p.length : Int) < (a.length : Int) by omega)]
    refine Ev.to hR ?_
    simp [crJ]
  | cons y s ih =>
    intro p hp
    have hl : a.length = p.length + s.length + 1 := by rw [← hp]; simp; omega
    have e0 : rd a (p.length : Int) = y := by rw [← hp]; exact rd_mid rfl
    have e1 : wrap64 ((p.length : Int) + 1) = ((p ++ [y]).length : Int) := by rw [w64 (by omega), len_snoc]
    have hp' : (p ++ [y]) ++ s = a := by rw [← snoc_mid]; exact hp
    have h2 := ih (p ++ [y]) hp'
    rw [← e1] at h2
    have h3 := impl_crosses_l2 a ha x p.length i (by omega) _ h2 s (p ++ [y]) hp'
    refine Ev.succ ?_
    simp only [impl_crosses.l1]
    simp only [if_pos (show (p.length : Int) < (a.length : Int) by omega), e1]
    refine Ev.to h3 ?_
    rw [e0]
    simp only [crJ]
    rw [Bool.or_assoc]
theorem impl_crosses_l0 (a : List Int) (ha : a.length ≤ 1099511627776) (s : List Int) : ∀ p : List Int, p ++ s = a →
    Ev (fun f => impl_crosses.l0 f a a (a.length : Int) (p.length : Int)) (crI s) := by
  induction s with
  | nil =>
    intro p hp
    have hl : a.length = p.length := by rw [← hp]; simp
    refine Ev.succ ?_
    simp only [impl_crosses.l0]
    simp only [if_neg (show ¬ (p.length : Int) < (a.length : Int) by omega)]
    exact Ev.now _
  | cons x s ih =>
    intro p hp
    have hl : a.length = p.length + s.length + 1 := by rw [← hp]; simp; omega
    have e0 : rd a (p.length : Int) = x := by rw [← hp]; exact rd_mid rfl
    have e1 : wrap64 ((p.length : Int) + 1) = ((p ++ [x]).length : Int) := by rw [w64 (by omega), len_snoc]
    have hp' : (p ++ [x]) ++ s = a := by rw [← snoc_mid]; exact hp
    have h2 := ih (p ++ [x]) hp'
    rw [← e1] at h2
    have h3 := impl_crosses_l1 a ha x p.length _ h2 s (p ++ [x]) hp'
    refine Ev.succ ?_
    simp only [impl_crosses.l0]
    simp only [if_pos (show (p.length : Int) < (a.length : Int) by omega), if_pos (show 0 ≤ (p.length : Int) by omega), e0, e1]
    exact Ev.to h3 (by simp only [crI])
theorem impl_crosses_ev (a : List Int) (ha : a.length ≤ 1099511627776) : Ev (fun f => impl_crosses.f f a) (crI a) :=
  impl_crosses_l0 a ha a [] rfl

theorem impl_blocks_loop (s : List Int) : ∀ (p : List Int) (B : List (List Int)) (n i : Int), growW ((B.length : Int) - 1) s = true → n = ((p ++ s).length : Int) → i = (p.length : Int) → (p ++ s).length ≤ 1000 → B.length + s.length ≤ 1000 → (∀ y ∈ B, y.length + s.length ≤ 1000) →
    Ev (fun k => impl_blocks.l0 k B (p ++ s) n i) (blkF p.length B s) := by
  induction s with
  | nil =>
    intro p B n i hg hn hi hl hb hr
    refine Ev.done fun k => ?_
    simp only [impl_blocks.l0]
    rw [if_neg (by rw [List.append_nil] at hn; omega)]; rfl
  | cons x s ih =>
    intro p B n i hg hn hi hl hb hr
    obtain ⟨h1, h2⟩ := growW_next hg
    have hp : (((p ++ x :: s).length : Nat) : Int) = p.length + s.length + 1 := by simp; omega
    have hl' : p.length + s.length + 1 ≤ 1000 := by omega
    rw [List.length_cons] at hb
    have hr' : ∀ y ∈ B, y.length + (s.length + 1) ≤ 1000 := fun y hy => by have := hr y hy; rwa [List.length_cons] at this
    have e2 : p ++ x :: s = (p ++ [x]) ++ s := by simp
    have hlen := blkOne_len (i := p.length) h1
    have := ih (p ++ [x]) (blkOne B x p.length) n (i + 1) (by rw [hlen]; exact h2) (by rw [← e2]; exact hn) (by simp; omega) (by rw [← e2]; exact hl) (by rw [hlen]; omega)
      (fun y hy => by
        have := blkOne_row (n := 1000 - s.length) (by omega) (fun u hu => by have := hr' u hu; omega) y hy
        omega)
    rw [← e2] at this
    have ep : (p ++ [x]).length = p.length + 1 := by simp
    rw [ep] at this
    refine Ev.succ ?_
    simp only [impl_blocks.l0]
    simp only [if_pos (show i < n by omega), if_pos (show 0 ≤ i by omega), if_pos (show i < (((p ++ x :: s).length : Nat) : Int) by omega), rd_mid hi, show wrap64 (i + 1) = i + 1 from w64 (by omega), if_pos h1.1]
    by_cases c : x = (B.length : Int)
    · have cN : x.toNat = B.length := by omega
      have er : rd_L2 (B ++ [[]]) x = [] := by unfold rd_L2; rw [cN]; simp
      have es : (B ++ [[]]).set x.toNat ([] ++ [i]) = blkOne B x p.length := by unfold blkOne; rw [if_pos cN, cN, hi]; simp
      simp only [if_pos c, if_pos (show B.length < 5864062014805 by omega), obind, er, if_pos (show x < (((B ++ [[]] : List (List Int)).length : Nat) : Int) by simp; omega), List.length_nil, if_pos (show 0 < 17592186044416 by omega), es]
      exact this
    · have cN : ¬ x.toNat = B.length := by omega
      have hlt : x.toNat < B.length := by omega
      have er : rd_L2 B x = B.getD x.toNat [] := rfl
      have hrow := hr' (B.getD x.toNat []) (by rw [getD_at hlt]; exact List.getElem_mem _)
      have es : B.set x.toNat (B.getD x.toNat [] ++ [i]) = blkOne B x p.length := by unfold blkOne; rw [if_neg cN, hi]
      simp only [if_neg c, if_pos (show x < (B.length : Int) by omega), er, if_pos (show (B.getD x.toNat []).length < 17592186044416 by omega), es]
      exact this
theorem impl_blocks_ev (l : List Int) (h : isG l = true) : Ev (fun k => impl_blocks.f k l) (blk l) := by
  obtain ⟨h1, h2, h3⟩ := isG_true h
  exact impl_blocks_loop l [] [] _ 0 h1 (by simp) (by simp) (by simp; omega) (by simp; omega) (fun y hy => by cases hy)
theorem impl_WordOfGrowth_l1 (a : List Int) (B : List (List Int)) (n i : Int) (hi : wrap64 (i + 1) = i + 1) (R : List Int × Bool) (len : Nat) (hlen : len ≤ 1000) (d : Nat) : ∀ (z : Nat) (out : List Int), z + d = len → out.length + d ≤ 100000 →
    Ev (fun k => impl_WordOfGrowth.l0 k (out ++ List.replicate d 1 ++ [0]) B a n (i + 1)) R → Ev (fun k => impl_WordOfGrowth.l1 k out B a n i (len : Int) (z : Int)) R := by
  induction d with
  | zero =>
    intro z out hz ho h
    refine Ev.succ ?_
    simp only [impl_WordOfGrowth.l1]
    simp only [if_neg (show ¬ (z : Int) < (len : Int) by omega), if_pos (show out.length < 17592186044416 by omega), hi]
    simpa using h
  | succ d ih =>
    intro z out hz ho h
    refine Ev.succ ?_
    simp only [impl_WordOfGrowth.l1]
    simp only [if_pos (show (z : Int) < (len : Int) by omega), if_pos (show out.length < 17592186044416 by omega), i_up (show z ≤ 1099511627776 by omega)]
    refine ih (z + 1) (out ++ [1]) (by omega) (by simp; omega) ?_
    have e : out ++ [1] ++ List.replicate d 1 = out ++ List.replicate (d + 1) 1 := by rw [List.replicate_succ]; simp
    rw [e]; exact h
theorem impl_WordOfGrowth_loop (B : List (List Int)) (s : List Int) : ∀ (p out : List Int) (n i : Int), blkFor B s → n = ((p ++ s).length : Int) → i = (p.length : Int) → (p ++ s).length ≤ 1000 → out.length + 13 * s.length ≤ 50000 →
    Ev (fun k => impl_WordOfGrowth.l0 k out B (p ++ s) n i) ((out ++ wogF B p.length s, true)) := by
  induction s with
  | nil =>
    intro p out n i hb hn hi hl ho
    refine Ev.to (Ev.done fun k => ?_) (show (out, true) = _ by simp [wogF])
    simp only [impl_WordOfGrowth.l0]
    rw [if_neg (by rw [List.append_nil] at hn; omega)]
  | cons x s ih =>
    intro p out n i hb hn hi hl ho
    obtain ⟨b1, b2, b3, b4⟩ := hb x (List.mem_cons_self ..)
    have hp : (((p ++ x :: s).length : Nat) : Int) = p.length + s.length + 1 := by simp; omega
    have e2 : p ++ x :: s = (p ++ [x]) ++ s := by simp
    have ho' : out.length + 13 * s.length + 13 ≤ 50000 := by rw [List.length_cons] at ho; omega
    have hrec : ∀ out' : List Int, out'.length ≤ out.length + 12 → Ev (fun k => impl_WordOfGrowth.l0 k (out' ++ [0]) B (p ++ x :: s) n (i + 1)) ((out' ++ 0 :: wogF B (p.length + 1) s, true)) := by
      intro out' h'
      have := ih (p ++ [x]) (out' ++ [0]) n (i + 1) (fun y hy => hb y (List.mem_cons_of_mem _ hy)) (by rw [← e2]; exact hn) (by simp; omega) (by rw [← e2]; exact hl) (by simp; omega)
      rw [← e2] at this
      refine Ev.to this ?_
      have ep : (p ++ [x]).length = p.length + 1 := by simp
      rw [ep]; simp
    have hw : wrap64 (i + 1) = i + 1 := w64 (by omega)
    have er : rd_L2 B x = B.getD x.toNat [] := rfl
    refine Ev.succ ?_
    simp only [impl_WordOfGrowth.l0]
    simp only [if_pos (show i < n by omega), if_pos (show 0 ≤ i by omega), if_pos (show i < (((p ++ x :: s).length : Nat) : Int) by omega), rd_mid hi, if_pos b1, if_pos b2, er, if_pos (show 0 < (((B.getD x.toNat []).length : Nat) : Int) by omega)]
    by_cases c : rd (B.getD x.toNat []) 0 = i
    · simp only [if_pos c]
      refine impl_WordOfGrowth_l1 (p ++ x :: s) B n i hw _ (B.getD x.toNat []).length (by omega) (B.getD x.toNat []).length 0 out (by omega) (by omega) ?_
      refine Ev.to (hrec (out ++ List.replicate (B.getD x.toNat []).length 1) (by rw [List.length_append, List.length_replicate]; omega)) ?_
      rw [wogF, if_pos (by rw [c, hi])]; simp
    · simp only [if_neg c, if_pos (show out.length < 17592186044416 by omega), hw]
      refine Ev.to (hrec out (by omega)) ?_
      rw [wogF, if_neg (by rw [← hi]; exact c)]; simp
/-- What WordOfGrowth answers. -/
def wogR (l : List Int) : List Int × Bool := if isG l = true then (if crI l = true then ([], false) else (wogW l, true)) else ([], false)
theorem impl_WordOfGrowth_ev (l : List Int) (hl : l.length ≤ 1099511627776) : Ev (fun k => impl_WordOfGrowth.f k l) (wogR l) := by
  unfold impl_WordOfGrowth.f wogR
  refine Ev.bind (impl_IsGrowth_ev l hl) ?_
  by_cases h : isG l = true
  · obtain ⟨h1, h2, h3⟩ := isG_true h
    simp only [if_pos h]
    refine Ev.bind (impl_crosses_ev l (by omega)) ?_
    refine Ev.succ ?_
    simp only [impl_WordOfGrowth.j0]
    by_cases c : crI l = true
    · simp only [if_pos c]; exact Ev.now _
    · simp only [if_neg c]
      refine Ev.bind (impl_blocks_ev l h) ?_
      exact impl_WordOfGrowth_loop (blk l) l [] [] _ 0 (blk_for h) (by simp) (by simp) (by simp; omega) (by simp; omega)
  · simp only [if_neg h]
    refine Ev.succ ?_
    simp only [impl_WordOfGrowth.j0, if_true]
    exact Ev.now _

set_option maxRecDepth 100000 in
theorem bw0_small : ∀ m : Nat, m < 13 → bw m 0 ≤ 1000000 := by decide +kernel
theorem draw_BalancedWith (l : List Int) (hb : Bytes l) : ∃ n rank, Ev (fun k => spec_DrawBalancedWith.f k l) (n, rank) ∧ (-1 ≤ n ∧ n ≤ 13) ∧ (-1 ≤ rank ∧ rank ≤ 1099511627776) := by
  unfold spec_DrawBalancedWith.f
  obtain ⟨n, a1, s1, h1, h2, h3⟩ := cur_counted9 hb 0 (show CurAt 0 0 from ⟨by omega, by omega⟩) (by omega)
  simp only [h1, obind, spec_l1In_eq]
  cases h : inB n 0 12 with
  | false =>
    simp only [Bool.false_eq_true, if_false]
    obtain ⟨x, a2, s2, h4, h5, h6⟩ := cur_pick hb s1 3 h3 (by omega)
    simp only [h4, obind]
    exact ⟨_, _, Ev.now _, h2, by omega⟩
  | true =>
    have hn := inB_true.1 h
    obtain ⟨m, rfl⟩ : ∃ m : Nat, n = (m : Int) := ⟨n.toNat, by omega⟩
    have hg := bw0_small m (by omega)
    have hc := spec_spCloses_ev 0 m (by omega)
    obtain ⟨x, a2, s2, h4, h5, h6⟩ := cur_rank9 hb s1 ((bw m 0 : Nat) : Int) (by omega) h3 (by omega)
    refine ⟨_, x, ?_, h2, by omega⟩
    simp only [if_true]
    refine Ev.bind hc ?_
    simp only [h4, obind]
    exact Ev.now _
theorem impl_CountBalanced_ev (n : Int) : Ev (fun k => impl_CountBalanced.f k n) (if inB n 0 12 = true then (((bw n.toNat 0 : Nat) : Int), true) else (0, false)) := by
  unfold impl_CountBalanced.f
  simp only [impl_within_eq, obind]
  cases h : inB n 0 12 with
  | false => simp only [Bool.false_eq_true, if_false]; exact Ev.now _
  | true =>
    have hn := inB_true.1 h
    obtain ⟨m, rfl⟩ : ∃ m : Nat, n = (m : Int) := ⟨n.toNat, by omega⟩
    have e : wrap64 (2 * (m : Int)) = ((0 + 2 * m : Nat) : Int) := by rw [w64 (by omega)]; omega
    simp only [if_true, Int.toNat_natCast, e]
    exact Ev.bind (impl_closings_ev 0 m (by omega)) (Ev.now _)
theorem spec_CountBalanced_ev (n : Int) : Ev (fun k => spec_CountBalanced.f k n) (if inB n 0 12 = true then (((bw n.toNat 0 : Nat) : Int), true) else (0, false)) := by
  unfold spec_CountBalanced.f
  simp only [spec_l1In_eq, obind]
  cases h : inB n 0 12 with
  | false => simp only [Bool.false_eq_true, if_false]; exact Ev.now _
  | true =>
    have hn := inB_true.1 h
    obtain ⟨m, rfl⟩ : ∃ m : Nat, n = (m : Int) := ⟨n.toNat, by omega⟩
    simp only [if_true, Int.toNat_natCast]
    exact Ev.bind (spec_spCloses_ev 0 m (by omega)) (Ev.now _)
theorem impl_HasCrossing_ev (l : List Int) (hl : l.length ≤ 1099511627776) : Ev (fun k => impl_HasCrossing.f k l) (if isG l = true then (crI l, true) else (false, false)) := by
  unfold impl_HasCrossing.f
  refine Ev.bind (impl_IsGrowth_ev l hl) ?_
  split
  · refine Ev.bind (impl_crosses_ev l hl) ?_
    exact Ev.now _
  · exact Ev.now _
/-- The last part of the law: the word's growth and back. -/
theorem ranks_back (m : Nat) (w : List Int) (hw : isB w = true) (hl : w.length = 2 * m) (hm : m ≤ 12) : Ev (fun k => laws_FnBalancedRanks.j2 k (m : Int) w false) true := by
  have hg := impl_GrowthOfWord_ev w (by omega)
  refine Ev.succ ?_
  simp only [laws_FnBalancedRanks.j2, Bool.false_eq_true, if_false]
  refine Ev.bind hg ?_
  unfold gowR
  rw [if_pos hw]
  by_cases h0 : m = 0
  · have e : ((w.length : Int) == 0) = true := by rw [beq_iff_eq]; omega
    simp only [e, if_true, if_pos (show (m : Int) = 0 by omega)]
    exact Ev.now _
  · have e : ¬ ((w.length : Int) == 0) = true := by rw [beq_iff_eq]; omega
    simp only [if_neg e, if_neg (show ¬ (m : Int) = 0 by omega)]
    have hb := (isB_both hw).1
    have hG := gowW_isG hw (by omega)
    have hC := gowW_cross hb
    have hlen : (gowW w).length ≤ 1099511627776 := Nat.le_trans (gowF_len w _ _ _) (by omega)
    have h1 := impl_HasCrossing_ev (gowW w) hlen
    have h2 := impl_WordOfGrowth_ev (gowW w) hlen
    unfold wogR at h2
    rw [if_pos hG, hC] at h1
    rw [if_pos hG, if_neg (by rw [hC]; decide), wog_gow hb] at h2
    refine Ev.bind h1 (Ev.bind h2 ?_)
    simp only [if_true, Bool.false_eq_true, if_false]
    exact Ev.bind (laws_tSame_self w (by omega)) (Ev.now _)
theorem FnBalancedRanks : laws_FnBalancedRanks.Pure := by
  intro l0 l1 _ _ hb0 _ _ _
  unfold laws_FnBalancedRanks.f
  rcases laws_big_ok l0 l1 with hbig | ⟨hbig, hl0, hl1⟩
  · exact ⟨0, by rw [hbig, obind, if_pos rfl]⟩
  simp only [hbig, obind, Bool.false_eq_true, if_false]
  obtain ⟨n, rank, hd, hn, hr⟩ := draw_BalancedWith l0 (bytes_wf hb0)
  have hi := impl_BalancedWith_ev n rank
  have hs := spec_BalancedWith_ev n rank
  have hci := impl_CountBalanced_ev n
  have hcs := spec_CountBalanced_ev n
  refine (Ev.bind hd (Ev.bind hi (Ev.bind hs ?_))).rounds
  have hlen : (if isBk n rank = true then (unB (2 * n.toNat) 0 n.toNat rank.toNat, true) else ([], false) : List Int × Bool).1.length ≤ 100 := by
    split
    · show (unB _ _ _ _).length ≤ 100
      rw [unB_len]; omega
    · simp
  simp only [bne_self_eq_false, Bool.false_eq_true, if_false]
  refine Ev.bind (laws_tSame_self _ (by omega)) ?_
  refine Ev.succ ?_
  simp only [laws_FnBalancedRanks.j0, Bool.not_true, Bool.false_eq_true, if_false]
  refine Ev.bind hci (Ev.bind hcs ?_)
  simp only [bne_self_eq_false, Bool.false_eq_true, if_false, if_true]
  cases hc : inB n 0 12 with
  | false =>
    have e : isBk n rank = false := by unfold isBk; rw [hc, Bool.false_and]
    simp only [e, Bool.false_eq_true, if_false, bne_self_eq_false]
    refine Ev.done fun k => ?_
    simp only [laws_FnBalancedRanks.j1, Bool.false_eq_true, if_false]
  | true =>
    have hn := inB_true.1 hc
    obtain ⟨m, rfl⟩ : ∃ m : Nat, n = (m : Int) := ⟨n.toNat, by omega⟩
    have hg := bw0_small m (by omega)
    simp only [if_true, Int.toNat_natCast]
    by_cases h0 : rank ≥ 0
    · simp only [if_pos h0]
      obtain ⟨r, rfl⟩ : ∃ r : Nat, rank = (r : Int) := ⟨rank.toNat, by omega⟩
      have e : isBk (m : Int) (r : Int) = decide ((r : Int) < ((bw m 0 : Nat) : Int)) := by
        unfold isBk; rw [hc, Bool.true_and, Int.toNat_natCast, Bool.eq_iff_iff, inB_true, decide_eq_true_iff]; omega
      have e1 : isBk (m : Int) ((r : Int) + 1) = decide ((r : Int) + 1 < ((bw m 0 : Nat) : Int)) := by
        unfold isBk; rw [hc, Bool.true_and, Int.toNat_natCast, Bool.eq_iff_iff, inB_true, decide_eq_true_iff]; omega
      rw [← e]
      cases hk : isBk (m : Int) (r : Int) with
      | false =>
        simp only [Bool.false_eq_true, if_false, bne_self_eq_false]
        refine Ev.done fun k => ?_
        simp only [laws_FnBalancedRanks.j1, Bool.false_eq_true, if_false]
      | true =>
        simp only [if_true, bne_self_eq_false, Int.toNat_natCast]
        rw [hk] at e
        have hlt : r < bw m 0 := by have := of_decide_eq_true e.symm; omega
        have hwl : (unB (2 * m) 0 m r).length = 2 * m := unB_len _ _ _ _
        obtain ⟨hbal, hrkw⟩ := unB_bal (2 * m) 0 m r (by omega) hlt
        have hB : isB (unB (2 * m) 0 m r) = true := by
          unfold isB
          rw [Bool.and_eq_true, decide_eq_true_iff, hwl]
          exact ⟨hbal, by omega⟩
        have hrk := impl_RankBalanced_ev (unB (2 * m) 0 m r) (by rw [hwl]; omega)
        rw [if_pos hB, hwl, show 2 * m / 2 = m by omega, hrkw] at hrk
        have hiB := impl_IsBalancedWord_ev (unB (2 * m) 0 m r) (by rw [hwl]; omega)
        rw [hB] at hiB
        have hi2 := impl_BalancedWith_ev (m : Int) ((r : Int) + 1)
        rw [e1] at hi2
        have hback := ranks_back m (unB (2 * m) 0 m r) hB hwl (by omega)
        have e2m : wrap64 (2 * (m : Int)) = ((2 * m : Nat) : Int) := by rw [w64 (by omega)]; omega
        refine Ev.succ ?_
        simp only [laws_FnBalancedRanks.j1, Bool.false_eq_true, if_false, if_true]
        rw [show wrap64 ((r : Int) + 1) = (r : Int) + 1 from w64 (by omega)]
        refine Ev.bind hrk (Ev.bind hi2 ?_)
        simp only [if_true]
        refine Ev.bind hiB ?_
        simp only [if_true, hwl, e2m]
        by_cases hx : (r : Int) + 1 < ((bw m 0 : Nat) : Int)
        · simp only [decide_eq_true hx, if_true, bne_self_eq_false, Bool.false_eq_true, if_false]
          have er : ((r : Int) + 1).toNat = r + 1 := by omega
          rw [er, Int.toNat_natCast]
          refine Ev.bind (laws_tLess_ev _ _ (by rw [unB_len]; omega) (by rw [unB_len]; omega)) ?_
          rw [unB_lt (2 * m) 0 m r (r + 1) (by omega) (by omega) (by omega)]
          exact hback
        · simp only [decide_eq_false hx, Bool.false_eq_true, if_false, bne_self_eq_false]
          exact hback
    · have e : isBk (m : Int) rank = false := by
        unfold isBk; rw [hc, Bool.true_and]; exact inB_no (by omega)
      simp only [if_neg h0, e, Bool.false_eq_true, if_false, bne_self_eq_false]
      refine Ev.done fun k => ?_
      simp only [laws_FnBalancedRanks.j1, Bool.false_eq_true, if_false]

end Go.Proofs.Ytmcmglclgdgdnaa.Pure
