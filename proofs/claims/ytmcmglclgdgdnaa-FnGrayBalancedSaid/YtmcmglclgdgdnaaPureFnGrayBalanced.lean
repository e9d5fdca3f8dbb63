/- The list of balanced words has each one once, and neighbours differ in the place of one 1: for all rows of bytes that code and more may be. -/
import Derived.Test.YtmcmglclgdgdnaaHFnGrayBalancedx6
import Derived.Test.YtmcmglclgdgdnaaCoreA
import Derived.Test.YtmcmglclgdgdnaaCoreB
import Derived.Test.YtmcmglclgdgdnaaCoreG
import Derived.Test.YtmcmglclgdgdnaaCoreGG
import Derived.Test.YtmcmglclgdgdnaaCorePL
namespace Go.Proofs.Ytmcmglclgdgdnaa.Pure
open Go.RowKit Go.Proofs.Ytmcmglclgdgdnaa.HFnGrayBalanced Go.Proofs.YtmcmglclgdgdnaaW.PrintWords Go.Proofs.YtmcmglclgdgdnaaW.PrintLast Go.Proofs.YtmcmglclgdgdnaaW.PrintMore Go.Proofs.Ytmcmglclgdgdnaa.Core
set_option linter.unusedVariables false
set_option linter.unusedSimpArgs false

theorem laws_big_ok (a b : List Int) : laws_big.f a b = some true ∨ (laws_big.f a b = some false ∧ a.length ≤ 1048576 ∧ b.length ≤ 1048576) := by
  unfold laws_big.f
  by_cases h : (a.length : Int) > 1048576
  · rw [if_pos h]; exact .inl rfl
  · rw [if_neg h, w64 (by omega)]
    by_cases h2 : (b.length : Int) > 1048576 - (a.length : Int)
    · rw [decide_eq_true h2]; exact .inl rfl
    · rw [decide_eq_false h2]; exact .inr ⟨rfl, by omega, by omega⟩

theorem laws_tSame_loop (s : List Int) : ∀ (p : List Int) (n i : Int), n = ((p ++ s).length : Int) → i = (p.length : Int) → (p ++ s).length ≤ 1099511627776 →
    Ev (fun k => laws_tSame.l0 k (p ++ s) (p ++ s) n i) true := by
  induction s with
  | nil =>
    intro p n i hn hi hl
    refine Ev.done fun k => ?_
    simp only [laws_tSame.l0]
    rw [if_neg (by rw [len_nil] at hn; omega)]
  | cons x s ih =>
    intro p n i hn hi hl
    have h1 := len_mid p s x
    have := ih (p ++ [x]) n (i + 1) (by rw [← snoc_mid]; exact hn) (by rw [len_snoc]; omega) (by rw [← snoc_mid]; exact hl)
    rw [← snoc_mid] at this
    refine Ev.step' this fun k => ?_
    simp only [laws_tSame.l0]
    rw [if_pos (by omega), if_pos (by omega), if_pos (by omega), if_pos (by omega), if_pos trivial, w64 (by omega)]
theorem laws_tSame_self (l : List Int) (hl : l.length ≤ 1099511627776) : Ev (fun k => laws_tSame.f k l l) true := by
  unfold laws_tSame.f
  simp only [if_true]
  exact laws_tSame_loop l [] _ 0 (by simp) (by simp) (by simpa using hl)

theorem laws_tSameRows_loop (s : List (List Int)) : ∀ (p : List (List Int)) (n i : Int), n = ((p ++ s).length : Int) → i = (p.length : Int) → (p ++ s).length ≤ 1073741824 → (∀ x ∈ s, x.length ≤ 1073741824) →
    Ev (fun k => laws_tSameRows.l0 k (p ++ s) (p ++ s) n i) true := by
  induction s with
  | nil =>
    intro p n i hn hi hl hs
    refine Ev.done fun k => ?_
    simp only [laws_tSameRows.l0]
    rw [if_neg (by rw [List.append_nil] at hn; omega)]
  | cons x s ih =>
    intro p n i hn hi hl hs
    have h1 : (((p ++ x :: s).length : Nat) : Int) = p.length + s.length + 1 := by simp; omega
    have er : rd_L2 (p ++ x :: s) i = x := by subst hi; simp [rd_L2]
    have e2 : p ++ x :: s = (p ++ [x]) ++ s := by simp
    have := ih (p ++ [x]) n (i + 1) (by rw [← e2]; exact hn) (by simp; omega) (by rw [← e2]; exact hl) (fun y hy => hs y (List.mem_cons_of_mem _ hy))
    rw [← e2] at this
    refine Ev.succ ?_
    simp only [laws_tSameRows.l0]
    simp only [if_pos (show i < n by omega), if_pos (show 0 ≤ i by omega), if_pos (show i < (((p ++ x :: s).length : Nat) : Int) by omega), er, show wrap64 (i + 1) = i + 1 from w64 (by omega)]
    refine Ev.bind (laws_tSame_self x (by have := hs x (List.mem_cons_self ..); omega)) ?_
    simp only [if_true]
    exact this
theorem laws_tSameRows_self (l : List (List Int)) (hl : l.length ≤ 1073741824) (hs : ∀ x ∈ l, x.length ≤ 1073741824) : Ev (fun k => laws_tSameRows.f k l l) true := by
  unfold laws_tSameRows.f
  simp only [if_true]
  exact laws_tSameRows_loop l [] _ 0 (by simp) (by simp) (by simpa using hl) hs

theorem laws_tFar_loop (s : List Int) : ∀ (t p q : List Int) (c n i : Int), p.length = q.length → s.length = t.length → n = ((p ++ s).length : Int) → i = (p.length : Int) → (p ++ s).length ≤ 1073741824 → 0 ≤ c ∧ c ≤ p.length →
    Ev (fun k => laws_tFar.l0 k (p ++ s) (q ++ t) c n i) (c + farL s t) := by
  induction s with
  | nil =>
    intro t p q c n i hpq hst hn hi hl hc
    refine Ev.to (Ev.done fun k => ?_) (show c = _ by cases t <;> simp [farL])
    simp only [laws_tFar.l0]
    rw [if_neg (by rw [len_nil] at hn; omega)]
  | cons x s ih =>
    intro t p q c n i hpq hst hn hi hl hc
    obtain ⟨y, t, rfl⟩ : ∃ y u, t = y :: u := by
      cases t with
      | nil => simp at hst
      | cons y u => exact ⟨y, u, rfl⟩
    have h1 := len_mid p s x
    have h2 := len_mid q t y
    have hst' : s.length = t.length := by simpa using hst
    have step : ∀ c', 0 ≤ c' ∧ c' ≤ (p.length : Int) + 1 → Ev (fun k => laws_tFar.l0 k (p ++ x :: s) (q ++ y :: t) c' n (i + 1)) (c' + farL s t) := fun c' hc' => by
      have := ih t (p ++ [x]) (q ++ [y]) c' n (i + 1) (by simp [hpq]) hst' (by rw [← snoc_mid]; exact hn) (by rw [len_snoc]; omega) (by rw [← snoc_mid]; exact hl) (by rw [len_snoc]; exact hc')
      rw [← snoc_mid, ← snoc_mid] at this
      exact this
    have hlen : (p ++ x :: s).length = p.length + s.length + 1 := by simp; omega
    refine Ev.succ ?_
    simp only [laws_tFar.l0]
    simp only [if_pos (show i < n by omega), if_pos (show 0 ≤ i by omega), if_pos (show i < (((p ++ x :: s).length : Nat) : Int) by omega), if_pos (show i < (((q ++ y :: t).length : Nat) : Int) by omega), rd_mid (p := p) (s := s) (x := x) hi, rd_mid (p := q) (s := t) (x := y) (show i = (q.length : Int) by omega), show wrap64 (i + 1) = i + 1 from w64 (by omega), show wrap64 (c + 1) = c + 1 from w64 (by omega)]
    by_cases e : x = y
    · simp only [if_pos e, farL]
      exact Ev.to (step c (by omega)) (by omega)
    · simp only [if_neg e, farL]
      exact Ev.to (step (c + 1) (by omega)) (by omega)
theorem laws_tFar_ev (a b : List Int) (h : a.length = b.length) (hl : a.length ≤ 1073741824) : Ev (fun k => laws_tFar.f k a b) (farL a b) := by
  unfold laws_tFar.f
  simp only [if_pos (show (a.length : Int) = (b.length : Int) by omega)]
  exact Ev.to (laws_tFar_loop a b [] [] 0 _ 0 rfl h (by simp) (by simp) (by simpa using hl) (by simp)) (by omega)

/-! ### the reader of draws: it tells a number always -/
theorem and255 (E : Int) (h0 : 0 ≤ E) (h1 : E ≤ 18446744073709551615) : 0 ≤ Go.bits .and .u64 E 255 ∧ Go.bits .and .u64 E 255 ≤ 255 := by
  have h := Go.bits_and_u64_nat E.toNat 255 (by omega) (by omega)
  rw [Int.toNat_of_nonneg h0] at h
  have h2 : E.toNat &&& 255 ≤ 255 := Nat.and_le_right
  have h3 : Go.bits .and .u64 E 255 = ((E.toNat &&& 255 : Nat) : Int) := h
  omega
theorem u64_in (n : Int) : 0 ≤ IntKind.u64.wrap n ∧ IntKind.u64.wrap n ≤ 18446744073709551615 := by
  have e : IntKind.u64.wrap n = n % 18446744073709551616 := rfl
  rw [e]; omega
theorem draw_in (n : Int) : 0 ≤ wrap64 (Go.bits .and .u64 (IntKind.u64.wrap n / 1099511627776) 255) ∧ wrap64 (Go.bits .and .u64 (IntKind.u64.wrap n / 1099511627776) 255) ≤ 255 := by
  have h := u64_in n
  have h2 := and255 (IntKind.u64.wrap n / 1099511627776) (by omega) (by omega)
  rw [w64 (by omega)]; exact h2
def Bytes (l : List Int) : Prop := ∀ x ∈ l, 0 ≤ x ∧ x ≤ 255
theorem bytes_wf {l : List Int} (h : ∀ x ∈ l, (Lit.int .u8 x).wf = true) : Bytes l := by
  intro x hx
  have h1 := h x hx
  unfold Lit.wf at h1
  rw [Bool.and_eq_true, decide_eq_true_iff, decide_eq_true_iff] at h1
  exact h1
def CurAt (m : Nat) (a : Int) : Prop := (0 ≤ a ∧ a ≤ (m : Int)) ∧ m ≤ 1152921504606846976
theorem CurAt.mono {m n : Nat} {a : Int} (h : CurAt m a) (hn : m ≤ n) (hm : n ≤ 1152921504606846976) : CurAt n a := by
  obtain ⟨⟨h1, h2⟩, h3⟩ := h
  exact ⟨⟨h1, by omega⟩, hm⟩
theorem cur_next {l : List Int} (hb : Bytes l) {m : Nat} {a : Int} (s : Int) (h : CurAt m a) (hm : m < 1152921504606846976) :
    ∃ b a' s', spec_l1Cur_next.f l a s = some (b, a', s') ∧ (0 ≤ b ∧ b ≤ 255) ∧ CurAt (m + 1) a' := by
  obtain ⟨⟨h1, h2⟩, _⟩ := h
  have e : wrap64 (a + 1) = a + 1 := w64 (by omega)
  unfold spec_l1Cur_next.f
  rw [e]
  by_cases c1 : a < (l.length : Int)
  · have hr := hb _ (rd_mem h1 c1)
    rw [if_pos c1, if_pos h1, w64 (n := rd l a) (by omega)]
    by_cases c2 : a + 1 ≤ (l.length : Int)
    · rw [if_pos c2]; exact ⟨_, _, _, rfl, hr, ⟨by omega, by omega⟩, by omega⟩
    · rw [if_neg c2]; exact ⟨_, _, _, rfl, draw_in _, ⟨by omega, by omega⟩, by omega⟩
  · rw [if_neg c1]
    by_cases c2 : a + 1 ≤ (l.length : Int)
    · rw [if_pos c2]; exact ⟨_, _, _, rfl, ⟨by omega, by omega⟩, ⟨by omega, by omega⟩, by omega⟩
    · rw [if_neg c2]; exact ⟨_, _, _, rfl, draw_in _, ⟨by omega, by omega⟩, by omega⟩
theorem tmod_in {b n : Int} (hb : 0 ≤ b) (hn : 1 < n) : 0 ≤ Int.tmod b n ∧ Int.tmod b n < n := by
  obtain ⟨c, rfl⟩ : ∃ c : Nat, b = (c : Int) := ⟨b.toNat, by omega⟩
  obtain ⟨k, rfl⟩ : ∃ k : Nat, n = (k : Int) := ⟨n.toNat, by omega⟩
  have e : Int.tmod (c : Int) (k : Int) = ((c % k : Nat) : Int) := rfl
  have := Nat.mod_lt c (show 0 < k by omega)
  rw [e]; omega
theorem cur_pick {l : List Int} (hb : Bytes l) {m : Nat} {a : Int} (s n : Int) (h : CurAt m a) (hm : m + 2 ≤ 1152921504606846976) :
    ∃ x a' s', spec_l1Cur_pick.f l a s n = some (x, a', s') ∧ (0 ≤ x ∧ x ≤ max (n - 1) 0) ∧ CurAt (m + 2) a' := by
  unfold spec_l1Cur_pick.f
  by_cases c1 : n ≤ 1
  · rw [if_pos c1]; exact ⟨_, _, _, rfl, ⟨by omega, by omega⟩, h.mono (by omega) (by omega)⟩
  · rw [if_neg c1]
    obtain ⟨b, a1, s1, h1, h2, h3⟩ := cur_next hb s h (by omega)
    rw [h1, obind]
    simp only
    have c0 : ¬ n = 0 := by omega
    by_cases c2 : n > 200
    · rw [if_pos c2]
      obtain ⟨b2, a2, s2, h4, h5, h6⟩ := cur_next hb s1 h3 (by omega)
      rw [h4, obind, if_neg c0]
      simp only
      rw [w64 (n := b * 256) (by omega), w64 (n := b * 256 + b2) (by omega)]
      have := tmod_in (b := b * 256 + b2) (n := n) (by omega) (by omega)
      exact ⟨_, _, _, rfl, ⟨by omega, by omega⟩, h6⟩
    · rw [if_neg c2, if_neg c0]
      have := tmod_in (b := b) (n := n) (by omega) (by omega)
      exact ⟨_, _, _, rfl, ⟨by omega, by omega⟩, h3.mono (by omega) (by omega)⟩

theorem spec_l1In_eq (a b c : Int) : spec_l1In.f a b c = some (inB a b c) := inB_ite a b c

theorem impl_within_eq (a b c : Int) : impl_within.f a b c = some (inB a b c) := inB_ite a b c

theorem impl_copied_eq (l : List Int) (hl : l.length ≤ 1000000) : impl_copied.f l = some l := by
  unfold impl_copied.f
  rw [obind, if_pos (by simp; omega), List.nil_append]

theorem spec_spWith_eq (l : List Int) (x : Int) (hl : l.length ≤ 1000) : spec_spWith.f l x = some (l ++ [x]) := by
  unfold spec_spWith.f
  have h : spec_l1Own.f l = some l := by
    unfold spec_l1Own.f
    rw [obind, if_pos (by simp; omega), List.nil_append]
  rw [h, obind, if_pos (by omega)]
theorem impl_put_eq (l : List Int) (x : Int) (hl : l.length ≤ 1000) : impl_put.f l x = some (l ++ [x]) := by
  unfold impl_put.f
  rw [impl_copied_eq l (by omega), obind, if_pos (by omega)]
theorem okP_at {n : Nat} {a : List Int} (h : okP n a = true) : (1 ≤ a.length ∧ a.length ≤ 100) ∧ lastN a + 3 ≤ 2 * n ∧ rd a ((a.length : Int) - 1) = (lastN a : Int) := by
  unfold okP at h
  rw [Bool.and_eq_true, Bool.and_eq_true, decide_eq_true_iff, decide_eq_true_iff, List.all_eq_true] at h
  obtain ⟨h1, h2, h3⟩ := h
  refine ⟨h1, h3, ?_⟩
  have e : ((a.length : Int) - 1) = ((a.length - 1 : Nat) : Int) := by omega
  rw [e, rd_nat a (a.length - 1) (by omega)]
  have hm := inB_true.1 (h2 _ (List.getElem_mem (show a.length - 1 < a.length by omega)))
  unfold lastN
  rw [List.getD_eq_getElem?_getD, List.getElem?_eq_getElem (show a.length - 1 < a.length by omega), Option.getD_some]
  omega
theorem plOf_len (n i : Nat) (hn : n ≤ 20) (a : List Int) : (plOf n i a).length ≤ 100 := by
  unfold plOf
  split
  · simp [upL_len]; omega
  · simp [dnL_len]; omega
theorem spec_pl_up (n : Nat) (hn : 2 ≤ n ∧ n ≤ 20) (a : List Int) (ha : a.length ≤ 100) (rows : List (List Int)) (nn i : Int) (R : List (List Int)) (d : Nat) : ∀ (x : Nat) (out : List (List Int)), x + d = 2 * n - 2 → out.length + d ≤ 200000 →
    Ev (fun k => spec_spPlaces.l0 k (n : Int) (out ++ upL a x d) rows nn (wrap64 (i + 1))) R → Ev (fun k => spec_spPlaces.l1 k (n : Int) out a (x : Int) rows nn i) R := by
  have e1 : wrap64 (wrap64 (2 * (n : Int)) - 3) = ((2 * n - 3 : Nat) : Int) := by rw [w64 (n := 2 * (n : Int)) (by omega), w64 (by omega)]; omega
  induction d with
  | zero =>
    intro x out hx ho h
    refine Ev.succ ?_
    simp only [spec_spPlaces.l1, e1, if_neg (show ¬ (x : Int) ≤ ((2 * n - 3 : Nat) : Int) by omega)]
    simpa [upL] using h
  | succ d ih =>
    intro x out hx ho h
    refine Ev.succ ?_
    simp only [spec_spPlaces.l1, e1, if_pos (show (x : Int) ≤ ((2 * n - 3 : Nat) : Int) by omega), spec_spWith_eq a _ (by omega), obind, if_pos (show out.length < 5864062014805 by omega), i_up (show x ≤ 1099511627776 by omega)]
    refine ih (x + 1) (out ++ [a ++ [(x : Int)]]) (by omega) (by simp; omega) ?_
    simpa [upL] using h
theorem spec_pl_dn (n : Nat) (hn : 2 ≤ n ∧ n ≤ 20) (a : List Int) (ha : a.length ≤ 100) (rows : List (List Int)) (nn i : Int) (z : Nat) (hz : z ≤ 100) (R : List (List Int)) (d : Nat) : ∀ (x : Nat) (out : List (List Int)), x = z + d → x ≤ 1000 → out.length + d + 1 ≤ 200000 →
    Ev (fun k => spec_spPlaces.l0 k (n : Int) (out ++ (dnL a x d ++ [a ++ [((2 * n - 2 : Nat) : Int)]])) rows nn (wrap64 (i + 1))) R → Ev (fun k => spec_spPlaces.l2 k (n : Int) out a (z : Int) (x : Int) rows nn i) R := by
  have e1 : wrap64 (wrap64 (2 * (n : Int)) - 2) = ((2 * n - 2 : Nat) : Int) := by rw [w64 (n := 2 * (n : Int)) (by omega), w64 (by omega)]; omega
  have e2 : wrap64 ((z : Int) + 1) = (z : Int) + 1 := w64 (by omega)
  induction d with
  | zero =>
    intro x out hx hx2 ho h
    refine Ev.succ ?_
    simp only [spec_spPlaces.l2, e1, e2, if_neg (show ¬ (x : Int) ≥ (z : Int) + 1 by omega), spec_spWith_eq a _ (by omega), obind, if_pos (show out.length < 5864062014805 by omega)]
    simpa [dnL] using h
  | succ d ih =>
    intro x out hx hx2 ho h
    refine Ev.succ ?_
    obtain ⟨y, rfl⟩ : ∃ y, x = y + 1 := ⟨x - 1, by omega⟩
    simp only [spec_spPlaces.l2, e1, e2, if_pos (show ((y + 1 : Nat) : Int) ≥ (z : Int) + 1 by omega), spec_spWith_eq a _ (by omega), obind, if_pos (show out.length < 5864062014805 by omega), i_down (show y ≤ 1099511627776 by omega)]
    refine ih y (out ++ [a ++ [((y + 1 : Nat) : Int)]]) (by omega) (by omega) (by simp; omega) ?_
    simpa [dnL] using h
theorem spec_pl_row (n : Nat) (hn : 2 ≤ n ∧ n ≤ 20) (R : List (List Int)) (s : List (List Int)) : ∀ (p out : List (List Int)) (nn : Int), nn = ((p ++ s).length : Int) → (∀ a ∈ s, okP n a = true) → (p ++ s).length ≤ 1000 → out.length + 100 * s.length ≤ 190000 →
    (Ev (fun k => spec_spPlaces.l0 (k + 1) (n : Int) (out ++ plS n p.length s) (p ++ s) nn ((p ++ s).length : Int)) R) → Ev (fun k => spec_spPlaces.l0 k (n : Int) out (p ++ s) nn (p.length : Int)) R := by
  induction s with
  | nil =>
    intro p out nn hnn hs hl ho h
    refine Ev.succ ?_
    simpa [plS] using h
  | cons a s ih =>
    intro p out nn hnn hs hl ho h
    obtain ⟨hal, hz, hrd⟩ := okP_at (hs a (List.mem_cons_self ..))
    have hgl := plOf_len n p.length (by omega) a
    have h1 : (((p ++ a :: s).length : Nat) : Int) = p.length + s.length + 1 := by simp; omega
    have er : rd_L2 (p ++ a :: s) (p.length : Int) = a := by simp [rd_L2]
    have e2 : p ++ a :: s = (p ++ [a]) ++ s := by simp
    have hl2 : (p ++ a :: s).length = p.length + s.length + 1 := by simp; omega
    have hls : (a :: s).length = s.length + 1 := rfl
    have c1 : (p.length : Int) < nn := by clear hrd; omega
    have c2 : 0 ≤ (p.length : Int) := Int.natCast_nonneg _
    have c3 : (p.length : Int) < (((p ++ a :: s).length : Nat) : Int) := by clear hrd; omega
    have c4 : 0 ≤ (a.length : Int) - 1 := by clear hrd; omega
    have c5 : (a.length : Int) - 1 < (a.length : Int) := by clear hrd; omega
    have el : (p ++ [a]).length = p.length + 1 := by simp
    have next := ih (p ++ [a]) (out ++ plOf n p.length a) nn (by rw [← e2]; exact hnn) (fun b hb => hs b (List.mem_cons_of_mem _ hb)) (by rw [← e2]; exact hl) (by simp; omega) (by rw [← e2, el, List.append_assoc]; exact h)
    rw [← e2, el] at next
    have et : Int.tmod ((p.length : Nat) : Int) 2 = ((p.length % 2 : Nat) : Int) := rfl
    have ew : wrap64 ((p.length : Int) + 1) = ((p.length + 1 : Nat) : Int) := i_up (by omega)
    have el1 : wrap64 ((a.length : Int) - 1) = (a.length : Int) - 1 := w64 (by omega)
    refine Ev.succ ?_
    simp only [spec_spPlaces.l0]
    simp only [if_pos c1, if_pos c2, if_pos c3, er, el1, hrd, if_pos c4, if_pos c5, et]
    unfold plOf at next
    by_cases hp : p.length % 2 = 0
    · rw [if_pos hp] at next
      have e1 : wrap64 (wrap64 (2 * (n : Int)) - 2) = ((2 * n - 2 : Nat) : Int) := by rw [w64 (n := 2 * (n : Int)) (by omega), w64 (by omega)]; omega
      simp only [hp, if_pos (show ((0 : Nat) : Int) = 0 by rfl), e1, spec_spWith_eq a _ (by omega), obind, if_pos (show out.length < 5864062014805 by omega), i_up (show lastN a ≤ 1099511627776 by omega)]
      refine spec_pl_up n hn  a (by omega) _ _ _ _ (2 * n - 3 - lastN a) (lastN a + 1) (out ++ [a ++ [((2 * n - 2 : Nat) : Int)]]) (by omega) (by simp; omega) ?_
      rw [ew]
      simpa using next
    · rw [if_neg hp] at next
      have e1 : wrap64 (wrap64 (2 * (n : Int)) - 3) = ((2 * n - 3 : Nat) : Int) := by rw [w64 (n := 2 * (n : Int)) (by omega), w64 (by omega)]; omega
      simp only [if_neg (show ¬ ((p.length % 2 : Nat) : Int) = 0 from fun h => hp (Int.natCast_eq_zero.1 h)), e1]
      refine spec_pl_dn n hn  a (by omega) _ _ _ (lastN a) (by omega) _ (2 * n - 3 - lastN a) (2 * n - 3) out (by omega) (by omega) (by omega) ?_
      rw [ew]
      exact next
theorem spec_spPlaces_ev (t : Nat) (h : t < 7) : Ev (fun k => spec_spPlaces.f k ((t + 1 : Nat) : Int)) (plG t) := by
  induction t with
  | zero => refine Ev.done fun k => ?_; simp only [spec_spPlaces.f]; rfl
  | succ t ih =>
    have h1 := ih (by omega)
    obtain ⟨_, g2, g3⟩ := plG_rows t (by omega)
    refine Ev.succ ?_
    simp only [spec_spPlaces.f, if_neg (show ¬ ((t + 1 + 1 : Nat) : Int) = 0 by omega), if_neg (show ¬ ((t + 1 + 1 : Nat) : Int) = 1 by omega), i_down (show t + 1 ≤ 1099511627776 by omega)]
    refine Ev.bind h1 ?_
    refine spec_pl_row (t + 2) (by omega) _ (plG t) [] [] _ rfl (fun a ha => List.all_eq_true.1 g3 a ha) (by simp; omega) (by simp; omega) ?_
    have e : [] ++ plS (t + 2) ([] : List (List Int)).length (plG t) = plG (t + 1) := rfl
    rw [e]
    simp only [spec_spPlaces.l0, List.nil_append, if_neg (show ¬ (((plG t).length : Nat) : Int) < ((plG t).length : Int) by omega)]
    exact Ev.now _
theorem spec_spOnes_loop (s : List Int) : ∀ (w p : List Int) (n i : Int), n = ((p ++ s).length : Int) → i = (p.length : Int) → (p ++ s).length ≤ 1000 → (∀ x ∈ s, 0 ≤ x ∧ x < (w.length : Int)) →
    Ev (fun k => spec_spOnes.l0 k w (p ++ s) n i) (onesF w s) := by
  induction s with
  | nil =>
    intro w p n i hn hi hl hs
    refine Ev.done fun k => ?_
    simp only [spec_spOnes.l0]
    rw [if_neg (by rw [len_nil] at hn; omega)]; rfl
  | cons x s ih =>
    intro w p n i hn hi hl hs
    have h1 := len_mid p s x
    have hx := hs x (List.mem_cons_self ..)
    have := ih (w.set x.toNat 1) (p ++ [x]) n (i + 1) (by rw [← snoc_mid]; exact hn) (by rw [len_snoc]; omega) (by rw [← snoc_mid]; exact hl) (fun y hy => by rw [List.length_set]; exact hs y (List.mem_cons_of_mem _ hy))
    rw [← snoc_mid] at this
    refine Ev.step' this fun k => ?_
    simp only [spec_spOnes.l0]
    rw [if_pos (by omega), if_pos (by omega), if_pos (by omega), rd_mid hi, if_pos hx.1, if_pos hx.2, w64 (by omega)]
theorem okO_at {n : Nat} {a : List Int} (h : okO n a = true) : a.length ≤ 100 ∧ ∀ x ∈ a, 0 ≤ x ∧ x < ((2 * n : Nat) : Int) := by
  unfold okO at h
  rw [Bool.and_eq_true, decide_eq_true_iff, List.all_eq_true] at h
  refine ⟨h.1, fun x hx => ?_⟩
  have := of_decide_eq_true (h.2 x hx)
  omega
theorem spec_spOnes_ev (n : Nat) (hn : n ≤ 20) (a : List Int) (h : okO n a = true) : Ev (fun k => spec_spOnes.f k (n : Int) a) (onesL n a) := by
  obtain ⟨h1, h2⟩ := okO_at h
  have e1 : wrap64 (2 * (n : Int)) = ((2 * n : Nat) : Int) := by rw [w64 (by omega)]; omega
  unfold spec_spOnes.f
  simp only [e1, if_pos (show 0 ≤ ((2 * n : Nat) : Int) by omega), Int.toNat_natCast, if_pos (show 2 * n ≤ 35184372088832 by omega)]
  exact spec_spOnes_loop a (List.replicate (2 * n) 0) [] _ 0 (by simp) (by simp) (by simp; omega) (fun x hx => by rw [List.length_replicate]; exact h2 x hx)
theorem spec_GrayBalanced_loop (n : Nat) (hn : n ≤ 20) (s : List (List Int)) : ∀ (p out : List (List Int)) (nn : Int), nn = ((p ++ s).length : Int) → (∀ a ∈ s, okO n a = true) → (p ++ s).length ≤ 1000 → out.length = p.length →
    Ev (fun k => spec_GrayBalanced.l0 k (n : Int) out (p ++ s) nn (p.length : Int)) (out ++ s.map (onesL n), true) := by
  induction s with
  | nil =>
    intro p out nn hnn hs hl ho
    refine Ev.to (Ev.done fun k => ?_) (show (out, true) = _ by simp)
    simp only [spec_GrayBalanced.l0]
    rw [if_neg (by rw [List.append_nil] at hnn; omega)]
  | cons a s ih =>
    intro p out nn hnn hs hl ho
    have h1 : (((p ++ a :: s).length : Nat) : Int) = p.length + s.length + 1 := by simp; omega
    have er : rd_L2 (p ++ a :: s) (p.length : Int) = a := by simp [rd_L2]
    have e2 : p ++ a :: s = (p ++ [a]) ++ s := by simp
    have hl2 : (p ++ a :: s).length = p.length + s.length + 1 := by simp; omega
    have el : (p ++ [a]).length = p.length + 1 := by simp
    have next := ih (p ++ [a]) (out ++ [onesL n a]) nn (by rw [← e2]; exact hnn) (fun b hb => hs b (List.mem_cons_of_mem _ hb)) (by rw [← e2]; exact hl) (by simp [ho])
    rw [← e2, el] at next
    refine Ev.succ ?_
    simp only [spec_GrayBalanced.l0]
    simp only [if_pos (show (p.length : Int) < nn by omega), if_pos (show 0 ≤ (p.length : Int) by omega), if_pos (show (p.length : Int) < (((p ++ a :: s).length : Nat) : Int) by omega), er]
    refine Ev.bind (spec_spOnes_ev n hn a (hs a (List.mem_cons_self ..))) ?_
    simp only [if_pos (show out.length < 5864062014805 by omega), i_up (show p.length ≤ 1099511627776 by omega)]
    refine Ev.to next (by simp)
theorem spec_GrayBalanced_ev (n : Int) : Ev (fun k => spec_GrayBalanced.f k n) (if inB n 0 7 = true then (balG n.toNat, true) else ([], false)) := by
  unfold spec_GrayBalanced.f
  simp only [spec_l1In_eq, obind]
  cases h : inB n 0 7 with
  | false => simp only [Bool.false_eq_true, if_false]; exact Ev.now _
  | true =>
    have h1 := inB_true.1 h
    obtain ⟨m, rfl⟩ : ∃ m : Nat, n = (m : Int) := ⟨n.toNat, by omega⟩
    simp only [if_true, Int.toNat_natCast]
    cases m with
    | zero =>
      have hp : Ev (fun k => spec_spPlaces.f k ((0 : Nat) : Int)) [[]] := Ev.done fun k => by simp only [spec_spPlaces.f]; rfl
      refine Ev.bind hp ?_
      exact spec_GrayBalanced_loop 0 (by omega) [[]] [] [] _ rfl (fun a ha => by rw [List.mem_singleton.1 ha]; rfl) (by simp) rfl
    | succ t =>
      obtain ⟨g1, g2, _⟩ := plG_rows t (by omega)
      refine Ev.bind (spec_spPlaces_ev t (by omega)) ?_
      exact spec_GrayBalanced_loop (t + 1) (by omega) (plG t) [] [] _ rfl (fun a ha => List.all_eq_true.1 g1 a ha) (by simp; omega) rfl
theorem impl_pl_up (n : Nat) (hn : 2 ≤ n ∧ n ≤ 20) (N : Int) (a : List Int) (ha : a.length ≤ 100) (rows : List (List Int)) (nn i : Int) (R : List (List Int) × Bool) (d : Nat) : ∀ (x : Nat) (out : List (List Int)), x + d = 2 * n - 2 → out.length + d ≤ 200000 →
    Ev (fun k => impl_GrayBalanced.l1 k N (n : Int) (out ++ upL a x d) rows nn (wrap64 (i + 1))) R → Ev (fun k => impl_GrayBalanced.l2 k N (n : Int) out a (x : Int) rows nn i) R := by
  have e1 : wrap64 (wrap64 (2 * (n : Int)) - 3) = ((2 * n - 3 : Nat) : Int) := by rw [w64 (n := 2 * (n : Int)) (by omega), w64 (by omega)]; omega
  induction d with
  | zero =>
    intro x out hx ho h
    refine Ev.succ ?_
    simp only [impl_GrayBalanced.l2, e1, if_neg (show ¬ (x : Int) ≤ ((2 * n - 3 : Nat) : Int) by omega)]
    simpa [upL] using h
  | succ d ih =>
    intro x out hx ho h
    refine Ev.succ ?_
    simp only [impl_GrayBalanced.l2, e1, if_pos (show (x : Int) ≤ ((2 * n - 3 : Nat) : Int) by omega), impl_put_eq a _ (by omega), obind, if_pos (show out.length < 5864062014805 by omega), i_up (show x ≤ 1099511627776 by omega)]
    refine ih (x + 1) (out ++ [a ++ [(x : Int)]]) (by omega) (by simp; omega) ?_
    simpa [upL] using h
theorem impl_pl_dn (n : Nat) (hn : 2 ≤ n ∧ n ≤ 20) (N : Int) (a : List Int) (ha : a.length ≤ 100) (rows : List (List Int)) (nn i : Int) (z : Nat) (hz : z ≤ 100) (R : List (List Int) × Bool) (d : Nat) : ∀ (x : Nat) (out : List (List Int)), x = z + d → x ≤ 1000 → out.length + d + 1 ≤ 200000 →
    Ev (fun k => impl_GrayBalanced.l1 k N (n : Int) (out ++ (dnL a x d ++ [a ++ [((2 * n - 2 : Nat) : Int)]])) rows nn (wrap64 (i + 1))) R → Ev (fun k => impl_GrayBalanced.l3 k N (n : Int) out a (z : Int) (x : Int) rows nn i) R := by
  have e1 : wrap64 (wrap64 (2 * (n : Int)) - 2) = ((2 * n - 2 : Nat) : Int) := by rw [w64 (n := 2 * (n : Int)) (by omega), w64 (by omega)]; omega
  have e2 : wrap64 ((z : Int) + 1) = (z : Int) + 1 := w64 (by omega)
  induction d with
  | zero =>
    intro x out hx hx2 ho h
    refine Ev.succ ?_
    simp only [impl_GrayBalanced.l3, e1, e2, if_neg (show ¬ (x : Int) ≥ (z : Int) + 1 by omega), impl_put_eq a _ (by omega), obind, if_pos (show out.length < 5864062014805 by omega)]
    simpa [dnL] using h
  | succ d ih =>
    intro x out hx hx2 ho h
    refine Ev.succ ?_
    obtain ⟨y, rfl⟩ : ∃ y, x = y + 1 := ⟨x - 1, by omega⟩
    simp only [impl_GrayBalanced.l3, e1, e2, if_pos (show ((y + 1 : Nat) : Int) ≥ (z : Int) + 1 by omega), impl_put_eq a _ (by omega), obind, if_pos (show out.length < 5864062014805 by omega), i_down (show y ≤ 1099511627776 by omega)]
    refine ih y (out ++ [a ++ [((y + 1 : Nat) : Int)]]) (by omega) (by omega) (by simp; omega) ?_
    simpa [dnL] using h
theorem impl_pl_row (n : Nat) (hn : 2 ≤ n ∧ n ≤ 20) (N : Int) (R : List (List Int) × Bool) (s : List (List Int)) : ∀ (p out : List (List Int)) (nn : Int), nn = ((p ++ s).length : Int) → (∀ a ∈ s, okP n a = true) → (p ++ s).length ≤ 1000 → out.length + 100 * s.length ≤ 190000 →
    (Ev (fun k => impl_GrayBalanced.l1 (k + 1) N (n : Int) (out ++ plS n p.length s) (p ++ s) nn ((p ++ s).length : Int)) R) → Ev (fun k => impl_GrayBalanced.l1 k N (n : Int) out (p ++ s) nn (p.length : Int)) R := by
  induction s with
  | nil =>
    intro p out nn hnn hs hl ho h
    refine Ev.succ ?_
    simpa [plS] using h
  | cons a s ih =>
    intro p out nn hnn hs hl ho h
    obtain ⟨hal, hz, hrd⟩ := okP_at (hs a (List.mem_cons_self ..))
    have hgl := plOf_len n p.length (by omega) a
    have h1 : (((p ++ a :: s).length : Nat) : Int) = p.length + s.length + 1 := by simp; omega
    have er : rd_L2 (p ++ a :: s) (p.length : Int) = a := by simp [rd_L2]
    have e2 : p ++ a :: s = (p ++ [a]) ++ s := by simp
    have hl2 : (p ++ a :: s).length = p.length + s.length + 1 := by simp; omega
    have hls : (a :: s).length = s.length + 1 := rfl
    have c1 : (p.length : Int) < nn := by clear hrd; omega
    have c2 : 0 ≤ (p.length : Int) := Int.natCast_nonneg _
    have c3 : (p.length : Int) < (((p ++ a :: s).length : Nat) : Int) := by clear hrd; omega
    have c4 : 0 ≤ (a.length : Int) - 1 := by clear hrd; omega
    have c5 : (a.length : Int) - 1 < (a.length : Int) := by clear hrd; omega
    have el : (p ++ [a]).length = p.length + 1 := by simp
    have next := ih (p ++ [a]) (out ++ plOf n p.length a) nn (by rw [← e2]; exact hnn) (fun b hb => hs b (List.mem_cons_of_mem _ hb)) (by rw [← e2]; exact hl) (by simp; omega) (by rw [← e2, el, List.append_assoc]; exact h)
    rw [← e2, el] at next
    have et : Int.tmod ((p.length : Nat) : Int) 2 = ((p.length % 2 : Nat) : Int) := rfl
    have ew : wrap64 ((p.length : Int) + 1) = ((p.length + 1 : Nat) : Int) := i_up (by omega)
    have el1 : wrap64 ((a.length : Int) - 1) = (a.length : Int) - 1 := w64 (by omega)
    refine Ev.succ ?_
    simp only [impl_GrayBalanced.l1]
    simp only [if_pos c1, if_pos c2, if_pos c3, er, el1, hrd, if_pos c4, if_pos c5, et]
    unfold plOf at next
    by_cases hp : p.length % 2 = 0
    · rw [if_pos hp] at next
      have e1 : wrap64 (wrap64 (2 * (n : Int)) - 2) = ((2 * n - 2 : Nat) : Int) := by rw [w64 (n := 2 * (n : Int)) (by omega), w64 (by omega)]; omega
      simp only [hp, if_pos (show ((0 : Nat) : Int) = 0 by rfl), e1, impl_put_eq a _ (by omega), obind, if_pos (show out.length < 5864062014805 by omega), i_up (show lastN a ≤ 1099511627776 by omega)]
      refine impl_pl_up n hn N a (by omega) _ _ _ _ (2 * n - 3 - lastN a) (lastN a + 1) (out ++ [a ++ [((2 * n - 2 : Nat) : Int)]]) (by omega) (by simp; omega) ?_
      rw [ew]
      simpa using next
    · rw [if_neg hp] at next
      have e1 : wrap64 (wrap64 (2 * (n : Int)) - 3) = ((2 * n - 3 : Nat) : Int) := by rw [w64 (n := 2 * (n : Int)) (by omega), w64 (by omega)]; omega
      simp only [if_neg (show ¬ ((p.length % 2 : Nat) : Int) = 0 from fun h => hp (Int.natCast_eq_zero.1 h)), e1]
      refine impl_pl_dn n hn N a (by omega) _ _ _ (lastN a) (by omega) _ (2 * n - 3 - lastN a) (2 * n - 3) out (by omega) (by omega) (by omega) ?_
      rw [ew]
      exact next
theorem impl_bitsOf_loop (s : List Int) : ∀ (w p : List Int) (n i : Int), n = ((p ++ s).length : Int) → i = (p.length : Int) → (p ++ s).length ≤ 1000 → (∀ x ∈ s, 0 ≤ x ∧ x < (w.length : Int)) →
    Ev (fun k => impl_bitsOf.l0 k w (p ++ s) n i) (onesF w s) := by
  induction s with
  | nil =>
    intro w p n i hn hi hl hs
    refine Ev.done fun k => ?_
    simp only [impl_bitsOf.l0]
    rw [if_neg (by rw [len_nil] at hn; omega)]; rfl
  | cons x s ih =>
    intro w p n i hn hi hl hs
    have h1 := len_mid p s x
    have hx := hs x (List.mem_cons_self ..)
    have := ih (w.set x.toNat 1) (p ++ [x]) n (i + 1) (by rw [← snoc_mid]; exact hn) (by rw [len_snoc]; omega) (by rw [← snoc_mid]; exact hl) (fun y hy => by rw [List.length_set]; exact hs y (List.mem_cons_of_mem _ hy))
    rw [← snoc_mid] at this
    refine Ev.step' this fun k => ?_
    simp only [impl_bitsOf.l0]
    rw [if_pos (by omega), if_pos (by omega), if_pos (by omega), rd_mid hi, if_pos hx.1, if_pos hx.2, w64 (by omega)]
theorem impl_bitsOf_ev (n : Nat) (hn : n ≤ 20) (a : List Int) (h : okO n a = true) : Ev (fun k => impl_bitsOf.f k ((2 * n : Nat) : Int) a) (onesL n a) := by
  obtain ⟨h1, h2⟩ := okO_at h
  unfold impl_bitsOf.f
  simp only [if_pos (show 0 ≤ ((2 * n : Nat) : Int) by omega), Int.toNat_natCast, if_pos (show 2 * n ≤ 35184372088832 by omega)]
  exact impl_bitsOf_loop a (List.replicate (2 * n) 0) [] _ 0 (by simp) (by simp) (by simp; omega) (fun x hx => by rw [List.length_replicate]; exact h2 x hx)
theorem impl_GrayBalanced_l4 (n : Nat) (hn : n ≤ 20) (s : List (List Int)) : ∀ (p out : List (List Int)) (nn : Int), nn = ((p ++ s).length : Int) → (∀ a ∈ s, okO n a = true) → (p ++ s).length ≤ 1000 → out.length = p.length →
    Ev (fun k => impl_GrayBalanced.l4 k (n : Int) out (p ++ s) nn (p.length : Int)) (out ++ s.map (onesL n), true) := by
  have e0 : wrap64 (2 * (n : Int)) = ((2 * n : Nat) : Int) := by rw [w64 (by omega)]; omega
  induction s with
  | nil =>
    intro p out nn hnn hs hl ho
    refine Ev.to (Ev.done fun k => ?_) (show (out, true) = _ by simp)
    simp only [impl_GrayBalanced.l4]
    rw [if_neg (by rw [List.append_nil] at hnn; omega)]
  | cons a s ih =>
    intro p out nn hnn hs hl ho
    have h1 : (((p ++ a :: s).length : Nat) : Int) = p.length + s.length + 1 := by simp; omega
    have er : rd_L2 (p ++ a :: s) (p.length : Int) = a := by simp [rd_L2]
    have e2 : p ++ a :: s = (p ++ [a]) ++ s := by simp
    have hl2 : (p ++ a :: s).length = p.length + s.length + 1 := by simp; omega
    have el : (p ++ [a]).length = p.length + 1 := by simp
    have next := ih (p ++ [a]) (out ++ [onesL n a]) nn (by rw [← e2]; exact hnn) (fun b hb => hs b (List.mem_cons_of_mem _ hb)) (by rw [← e2]; exact hl) (by simp [ho])
    rw [← e2, el] at next
    refine Ev.succ ?_
    simp only [impl_GrayBalanced.l4]
    simp only [if_pos (show (p.length : Int) < nn by omega), if_pos (show 0 ≤ (p.length : Int) by omega), if_pos (show (p.length : Int) < (((p ++ a :: s).length : Nat) : Int) by omega), er, e0]
    refine Ev.bind (impl_bitsOf_ev n hn a (hs a (List.mem_cons_self ..))) ?_
    simp only [if_pos (show out.length < 5864062014805 by omega), i_up (show p.length ≤ 1099511627776 by omega)]
    refine Ev.to next (by simp)
theorem impl_GrayBalanced_l0 (N : Nat) (hN : N < 7) (d : Nat) : ∀ t : Nat, t + d = N → Ev (fun k => impl_GrayBalanced.l0 k ((N + 1 : Nat) : Int) (plG t) ((t + 2 : Nat) : Int)) (balG (N + 1), true) := by
  induction d with
  | zero =>
    intro t ht
    have : t = N := by omega
    subst this
    obtain ⟨g1, g2, _⟩ := plG_rows t (by omega)
    refine Ev.succ ?_
    simp only [impl_GrayBalanced.l0, if_neg (show ¬ ((t + 2 : Nat) : Int) ≤ ((t + 1 : Nat) : Int) by omega)]
    exact impl_GrayBalanced_l4 (t + 1) (by omega) (plG t) [] [] _ rfl (fun a ha => List.all_eq_true.1 g1 a ha) (by simp; omega) rfl
  | succ d ih =>
    intro t ht
    obtain ⟨_, g2, g3⟩ := plG_rows t (by omega)
    refine Ev.succ ?_
    simp only [impl_GrayBalanced.l0, if_pos (show ((t + 2 : Nat) : Int) ≤ ((N + 1 : Nat) : Int) by omega)]
    refine impl_pl_row (t + 2) (by omega) _ _ (plG t) [] [] _ rfl (fun a ha => List.all_eq_true.1 g3 a ha) (by simp; omega) (by simp; omega) ?_
    have e : [] ++ plS (t + 2) ([] : List (List Int)).length (plG t) = plG (t + 1) := rfl
    rw [e]
    simp only [impl_GrayBalanced.l1, List.nil_append, if_neg (show ¬ (((plG t).length : Nat) : Int) < ((plG t).length : Int) by omega), i_up (show t + 2 ≤ 1099511627776 by omega)]
    exact ih (t + 1) (by omega)
theorem impl_GrayBalanced_ev (n : Int) : Ev (fun k => impl_GrayBalanced.f k n) (if inB n 0 7 = true then (balG n.toNat, true) else ([], false)) := by
  unfold impl_GrayBalanced.f
  simp only [impl_within_eq, obind]
  cases h : inB n 0 7 with
  | false => simp only [Bool.false_eq_true, if_false]; exact Ev.now _
  | true =>
    have h1 := inB_true.1 h
    obtain ⟨m, rfl⟩ : ∃ m : Nat, n = (m : Int) := ⟨n.toNat, by omega⟩
    simp only [if_true, Int.toNat_natCast]
    cases m with
    | zero => simp only [if_pos (show ((0 : Nat) : Int) = 0 by rfl)]; exact Ev.now _
    | succ t =>
      simp only [if_neg (show ¬ ((t + 1 : Nat) : Int) = 0 by omega)]
      exact impl_GrayBalanced_l0 t (by omega) t 0 (by omega)

theorem impl_closings_l1 (o n t : Int) (W : List Int) (hW : W.length ≤ 1000) (hin : ∀ x ∈ W, 0 ≤ x ∧ x ≤ 1099511627776) (R : Int) (s : List Int) : ∀ (x prev : Int) (p q : List Int), p ++ x :: s = W → q.length = p.length → (p = [] → prev = 0) → (0 < p.length → rd W ((p.length : Int) - 1) = prev) →
    Ev (fun k => impl_closings.l0 k o (q ++ nxtC prev (x :: s)) n (wrap64 (t + 1))) R →
    Ev (fun k => impl_closings.l1 k o W (q ++ List.replicate (s.length + 1) 0) n t ((W.length : Int) - 1) (p.length : Int)) R := by
  induction s with
  | nil =>
    intro x prev p q h1 h2 h3 h4 hR
    have : W.length = p.length + 1 := by rw [← h1]; simp
    refine Ev.succ ?_
    simp only [impl_closings.l1]
    simp only [if_neg (show ¬ (p.length : Int) < (W.length : Int) - 1 by omega)]
    exact hR
  | cons y s ih =>
    intro x prev p q h1 h2 h3 h4 hR
    have hlen : W.length = p.length + s.length + 2 := by rw [← h1]; simp; omega
    have e0 : rd W ((p.length : Int) + 1) = y := by
      rw [← h1, snoc_mid]; exact rd_mid (by rw [len_snoc])
    have ew : wrap64 ((p.length : Int) + 1) = (p.length : Int) + 1 := w64 (by omega)
    have ew' : wrap64 ((p.length : Int) - 1) = (p.length : Int) - 1 := w64 (by omega)
    have hx := hin x (by rw [← h1]; simp)
    have hy := hin y (by rw [← h1]; simp)
    have hp' : (p ++ [x]) ++ y :: s = W := by rw [← snoc_mid]; exact h1
    have hr : List.replicate ((y :: s).length + 1) (0 : Int) = 0 :: List.replicate (s.length + 1) 0 := rfl
    have hql : ((q ++ 0 :: List.replicate (s.length + 1) (0 : Int)).length : Int) = p.length + s.length + 2 := by simp; omega
    have hset : (q ++ 0 :: List.replicate (s.length + 1) (0 : Int)).set (p.length : Int).toNat y = q ++ y :: List.replicate (s.length + 1) 0 := set_mid (by rw [h2])
    have hnext := fun z => ih y x (p ++ [x]) (q ++ [z]) hp' (by simp [h2]) (by simp) (fun _ => by rw [len_snoc, show (p.length : Int) + 1 - 1 = p.length by omega, ← h1]; exact rd_mid rfl)
    rw [hr]
    refine Ev.succ ?_
    simp only [impl_closings.l1]
    simp only [ew, ew', if_pos (show (p.length : Int) < (W.length : Int) - 1 by omega), if_pos (show 0 ≤ (p.length : Int) + 1 by omega), if_pos (show (p.length : Int) + 1 < (W.length : Int) by omega), if_pos (show 0 ≤ (p.length : Int) by omega), hql, if_pos (show (p.length : Int) < (p.length : Int) + (s.length : Int) + 2 by omega), e0, hset, obind]
    by_cases hpos : (p.length : Int) > 0
    · have hprev := h4 (by omega)
      have hpm : prev ∈ W := by rw [← hprev]; exact rd_mem (by omega) (by omega)
      have hpb := hin prev hpm
      have er : rd (q ++ y :: List.replicate (s.length + 1) 0) (p.length : Int) = y := rd_mid (by rw [h2])
      have es : (q ++ y :: List.replicate (s.length + 1) 0).set (p.length : Int).toNat (y + prev) = q ++ (y + prev) :: List.replicate (s.length + 1) 0 := set_mid (by rw [h2])
      have ev : wrap64 (y + prev) = y + prev := w64 (by omega)
      simp only [if_pos hpos, if_pos (show 0 ≤ (p.length : Int) - 1 by omega), if_pos (show (p.length : Int) - 1 < (W.length : Int) by omega), er, hprev, ev, es]
      have := hnext (y + prev) (by simpa [nxtC] using hR)
      rw [len_snoc, List.append_assoc] at this
      exact this
    · have hp0 : p = [] := List.eq_nil_of_length_eq_zero (by omega)
      have h0 := h3 hp0
      simp only [if_neg hpos]
      have := hnext y (by subst h0; simpa [nxtC] using hR)
      rw [len_snoc, List.append_assoc] at this
      exact this
theorem impl_closings_l0 (n r : Nat) (hn : n ≤ 100) (hr : r ≤ 30) (o : Nat) (ho : o ≤ n) (d : Nat) : ∀ t : Nat, t + d = r →
    Ev (fun k => impl_closings.l0 k (o : Int) (rowC n t) (r : Int) (t : Int)) ((rowC n r).getD o 0) := by
  induction d with
  | zero =>
    intro t ht
    have hl := rowC_len n t
    have : t = r := by omega
    subst this
    refine Ev.succ ?_
    simp only [impl_closings.l0]
    simp only [if_neg (show ¬ (t : Int) < (t : Int) by omega), if_pos (show 0 ≤ (o : Int) by omega), if_pos (show (o : Int) < ((rowC n t).length : Int) by omega)]
    exact Ev.some_ (by simp [rd])
  | succ d ih =>
    intro t ht
    have hl := rowC_len n t
    have e1 : wrap64 (((rowC n t).length : Int) - 1) = ((rowC n t).length : Int) - 1 := w64 (by omega)
    have e2 : wrap64 ((t : Int) + 1) = ((t + 1 : Nat) : Int) := by rw [w64 (by omega)]; omega
    have hb : ∀ x ∈ rowC n t, 0 ≤ x ∧ x ≤ 1099511627776 := fun x hx => by have := rowC_small (n := n) (t := t) (by omega) x hx; omega
    refine Ev.succ ?_
    simp only [impl_closings.l0]
    simp only [if_pos (show (t : Int) < (r : Int) by omega), if_pos (show 0 ≤ ((rowC n t).length : Int) by omega), Int.toNat_natCast, if_pos (show (rowC n t).length ≤ 35184372088832 by omega), e1]
    obtain ⟨x, s, hxs⟩ : ∃ x s, rowC n t = x :: s := by
      cases h : rowC n t with
      | nil => rw [h] at hl; simp at hl
      | cons x s => exact ⟨x, s, rfl⟩
    have hls : (rowC n t).length = s.length + 1 := by rw [hxs]; rfl
    have hrep : List.replicate (rowC n t).length (0 : Int) = [] ++ List.replicate (s.length + 1) 0 := by rw [hls]; rfl
    rw [hrep]
    refine impl_closings_l1 (o : Int) (r : Int) (t : Int) (rowC n t) (by omega) hb _ s x 0 [] [] (by rw [hxs]; rfl) rfl (fun _ => rfl) (by simp) ?_
    rw [e2, List.nil_append, ← hxs]
    exact ih (t + 1) (by omega)
theorem impl_closings_ev (o m : Nat) (h : o + m ≤ 12) : Ev (fun n => impl_closings.f n (o : Int) ((o + 2 * m : Nat) : Int)) ((bw m o : Nat) : Int) := by
  unfold impl_closings.f
  have e1 : wrap64 (wrap64 ((o : Int) + ((o + 2 * m : Nat) : Int)) + 2) = ((o + (o + 2 * m) + 2 : Nat) : Int) := by
    rw [w64 (n := (o : Int) + ((o + 2 * m : Nat) : Int)) (by omega), w64 (by omega)]; omega
  have e2 : (List.replicate (o + (o + 2 * m) + 2) (0 : Int)).set (0 : Int).toNat 1 = rowC (o + (o + 2 * m) + 1) 0 := rfl
  simp only [e1, if_pos (show 0 ≤ ((o + (o + 2 * m) + 2 : Nat) : Int) by omega), Int.toNat_natCast, if_pos (show o + (o + 2 * m) + 2 ≤ 35184372088832 by omega), obind]
  simp only [List.length_replicate, if_pos (show (0 : Int) < ((o + (o + 2 * m) + 2 : Nat) : Int) by omega), e2]
  refine Ev.to (impl_closings_l0 (o + (o + 2 * m) + 1) (o + 2 * m) (by omega) (by omega) o (by omega) (o + 2 * m) 0 (by omega)) ?_
  rw [rowC_get _ _ _ (by omega), bcI_bw _ o m rfl]

theorem impl_IsBalancedWord_loop (l : List Int) (s : List Int) : ∀ (p : List Int) (o n i : Int), 0 ≤ o → o ≤ p.length → n = ((p ++ s).length : Int) → i = (p.length : Int) → (p ++ s).length ≤ 1099511627776 →
    Ev (fun k => impl_IsBalancedWord.l0 k l o (p ++ s) n i) (balW o s && decide ((l.length : Int) ≤ 24)) := by
  induction s with
  | nil =>
    intro p o n i ho ho' hn hi hl
    refine Ev.to (Ev.done fun k => ?_) (show (if o = 0 then decide ((l.length : Int) ≤ 24) else false) = _ by unfold balW; split <;> simp [*])
    simp only [impl_IsBalancedWord.l0]
    rw [if_neg (by rw [len_nil] at hn; omega)]
    split <;> rfl
  | cons x s ih =>
    intro p o n i ho ho' hn hi hl
    have h1 := len_mid p s x
    unfold balW
    cases hb : inB x 0 1 with
    | false =>
      refine Ev.to (Ev.done fun k => ?_) (show false = _ by simp)
      simp only [impl_IsBalancedWord.l0]
      rw [if_pos (by omega), if_pos (by omega), if_pos (by omega), rd_mid hi, impl_within_eq, hb]
      rfl
    | true =>
      have hx := inB_true.1 hb
      by_cases hneg : o + (2 * x - 1) < 0
      · refine Ev.to (Ev.done fun k => ?_) (show false = _ by rw [decide_eq_false (by omega)]; simp)
        simp only [impl_IsBalancedWord.l0]
        rw [if_pos (by omega), if_pos (by omega), if_pos (by omega), rd_mid hi, impl_within_eq, hb]
        simp only [obind, if_true]
        rw [w64 (n := 2 * x) (by omega), w64 (n := 2 * x - 1) (by omega), w64 (n := o + (2 * x - 1)) (by omega), if_pos hneg]
      · have := ih (p ++ [x]) (o + (2 * x - 1)) n (i + 1) (by omega) (by rw [len_snoc]; omega) (by rw [← snoc_mid]; exact hn) (by rw [len_snoc]; omega) (by rw [← snoc_mid]; exact hl)
        rw [← snoc_mid] at this
        refine Ev.to (Ev.step' this fun k => ?_) (by rw [decide_eq_true (show 0 ≤ o + (2 * x - 1) by omega)]; simp)
        simp only [impl_IsBalancedWord.l0]
        rw [if_pos (by omega), if_pos (by omega), if_pos (by omega), rd_mid hi, impl_within_eq, hb]
        simp only [obind, if_true]
        rw [w64 (n := 2 * x) (by omega), w64 (n := 2 * x - 1) (by omega), w64 (n := o + (2 * x - 1)) (by omega), if_neg hneg, w64 (n := i + 1) (by omega)]
theorem impl_IsBalancedWord_ev (l : List Int) (hl : l.length ≤ 1099511627776) : Ev (fun k => impl_IsBalancedWord.f k l) (isB l) :=
  impl_IsBalancedWord_loop l l [] 0 _ 0 (by omega) (by simp) rfl (by simp) (by simpa using hl)

theorem impl_lower_ev (o m r : Nat) (h : o + m ≤ 12) (hr : r + 1 = o + 2 * m) : Ev (fun n => impl_lower.f n (o : Int) (r : Int)) ((lowB m o : Nat) : Int) := by
  unfold impl_lower.f
  cases o with
  | zero =>
    simp only [Int.natCast_zero, if_true, low_zero]
    exact Ev.now _
  | succ o =>
    have e : wrap64 (((o + 1 : Nat) : Int) - 1) = (o : Int) := by rw [w64 (by omega)]; omega
    have er : r = o + 2 * m := by omega
    subst er
    simp only [if_neg (show ¬ ((o + 1 : Nat) : Int) = 0 by omega), e]
    refine Ev.bind (impl_closings_ev o m (by omega)) ?_
    rw [low_succ]
    exact Ev.now _

theorem impl_RankBalanced_loop (a : List Int) (ha : a.length ≤ 24) (s : List Int) : ∀ (p : List Int) (o m rank : Nat), p ++ s = a → balW (o : Int) s = true → s.length = o + 2 * m → o + m ≤ 12 → rank + bw m o ≤ 1125899906842624 →
    Ev (fun f => impl_RankBalanced.l0 f a (rank : Int) (o : Int) a (a.length : Int) (p.length : Int)) (((rank + rkB o m s : Nat) : Int), true) := by
  induction s with
  | nil =>
    intro p o m rank h1 h2 h3 h4 h5
    refine Ev.to (Ev.done fun f => ?_) (show (((rank : Nat) : Int), true) = _ by simp [rkB])
    have : a.length = p.length := by rw [← h1]; simp
    simp only [impl_RankBalanced.l0]
    rw [if_neg (by omega)]
  | cons x s ih =>
    intro p o m rank h1 h2 h3 h4 h5
    have hlen : a.length = p.length + s.length + 1 := by rw [← h1]; simp; omega
    have e0 : rd a (p.length : Int) = x := by rw [← h1]; exact rd_mid rfl
    have hp' : (p ++ [x]) ++ s = a := by rw [← snoc_mid]; exact h1
    have hlc : s.length + 1 = o + 2 * m := h3
    have hlow := low_le m o
    have hb := bw_small h4
    have c1 : (p.length : Int) < (a.length : Int) := by omega
    have c2 : 0 ≤ (p.length : Int) := by omega
    have c3 : p.length ≤ 1099511627776 := by omega
    have c5 : p.length + (s.length + 1) = a.length := by omega
    have c6 : a.length ≤ 1099511627776 := by omega
    rcases balW_step h2 h3 with ⟨rfl, g1, g2, g3⟩ | ⟨rfl, g1, g2, g3⟩
    · obtain ⟨m, rfl⟩ : ∃ q, m = q + 1 := ⟨m - 1, by omega⟩
      have el := @low_one m o
      have b1 : rank + lowB (m + 1) o ≤ 9007199254740992 := by omega
      have b2 : o ≤ 1099511627776 := by omega
      have hih := ih (p ++ [1]) (o + 1) m (rank + lowB (m + 1) o) hp' g2 (by omega) (by omega) (by omega)
      refine Ev.succ ?_
      simp only [impl_RankBalanced.l0]
      simp only [if_pos c1, if_pos c2, e0, i_last c5 c6, i_succ (out := p) (x := (1 : Int)) c3, if_true]
      refine Ev.bind (impl_lower_ev o (m + 1) s.length h4 hlc) ?_
      simp only [i_plus b1, i_up2 b2]
      refine Ev.to hih ?_
      simp only [rkB, if_true, Nat.add_sub_cancel]
      rw [Nat.add_assoc]
    · obtain ⟨o, rfl⟩ : ∃ q, o = q + 1 := ⟨o - 1, by omega⟩
      rw [low_succ] at hlow
      have b2 : o ≤ 1099511627776 := by omega
      have hih := ih (p ++ [0]) o m rank hp' g2 (by omega) (by omega) (by omega)
      refine Ev.succ ?_
      simp only [impl_RankBalanced.l0]
      simp only [if_pos c1, if_pos c2, e0, i_last c5 c6, i_succ (out := p) (x := (0 : Int)) c3, if_neg (show ¬ (0 : Int) = 1 by decide), i_down2 b2]
      refine Ev.to hih ?_
      simp only [rkB, if_neg (show ¬ (0 : Int) = 1 by decide), Nat.add_sub_cancel]
theorem impl_RankBalanced_ev (l : List Int) (hl : l.length ≤ 1099511627776) : Ev (fun f => impl_RankBalanced.f f l) (if isB l = true then ((rkB 0 (l.length / 2) l : Int), true) else (0, false)) := by
  unfold impl_RankBalanced.f
  refine Ev.bind (impl_IsBalancedWord_ev l hl) ?_
  by_cases h : isB l = true
  · obtain ⟨m, h1, h2, h3⟩ := isB_true h
    have hb := bw_small (o := 0) (m := m) (by omega)
    have e : l.length / 2 = m := by omega
    simp only [h, if_true, e]
    refine Ev.to (impl_RankBalanced_loop l (by omega) l [] 0 m 0 rfl h3 (by omega) (by omega) (by omega)) ?_
    simp
  · simp only [if_neg h]
    exact Ev.now _

theorem draw_GrayBalanced (l : List Int) (hb : Bytes l) : ∃ n, spec_DrawGrayBalanced.f l = some n ∧ -1 ≤ n ∧ n ≤ 8 := by
  unfold spec_DrawGrayBalanced.f
  obtain ⟨x, a1, s1, h1, h2, h3⟩ := cur_pick hb 0 10 (show CurAt 0 0 from ⟨by omega, by omega⟩) (by omega)
  simp only [h1, obind]
  exact ⟨_, rfl, by rw [w64 (by omega)]; omega⟩
theorem impl_CountBalanced_ev (n : Nat) (hn : n ≤ 12) : Ev (fun k => impl_CountBalanced.f k (n : Int)) (((bw n 0 : Nat) : Int), true) := by
  unfold impl_CountBalanced.f
  have e : wrap64 (2 * (n : Int)) = ((0 + 2 * n : Nat) : Int) := by rw [w64 (by omega)]; omega
  simp only [impl_within_eq, obind, inB_yes (show 0 ≤ (n : Int) ∧ (n : Int) ≤ 12 by omega), if_true, e]
  refine Ev.bind (impl_closings_ev 0 n (by omega)) ?_
  exact Ev.now _
theorem gray_walk (L : List (List Int)) (hL : L.length ≤ 1000) (hrow : ∀ x ∈ L, x.length ≤ 1000) (N : Nat) (hN : N ≤ 1000) (s : List (List Int)) : ∀ (p : List (List Int)) (mask : Nat) (prev : Option (List Int)), p ++ s = L →
    (∀ b, prev = some b → ∃ q, p = q ++ [b]) → (prev = none → p = []) → chkB N mask prev s = true →
    Ev (fun k => laws_FnGrayBalanced.l0 k L (maskL N mask) L (L.length : Int) (p.length : Int)) true := by
  induction s with
  | nil =>
    intro p mask prev hp h1 h2 hc
    refine Ev.done fun k => ?_
    simp only [laws_FnGrayBalanced.l0]
    rw [if_neg (by rw [← hp, List.append_nil]; omega)]
  | cons a s ih =>
    intro p mask prev hp h1 h2 hc
    unfold chkB at hc
    simp only [Bool.and_eq_true, decide_eq_true_iff, Bool.not_eq_true'] at hc
    obtain ⟨g1, g2, g3, g4, g5⟩ := hc
    have hl : L.length = p.length + s.length + 1 := by rw [← hp]; simp; omega
    have ha : a.length ≤ 1000 := hrow a (by rw [← hp]; simp)
    have er : rd_L2 L (p.length : Int) = a := by rw [← hp]; simp [rd_L2]
    have e2 : (p ++ [a]) ++ s = L := by rw [← hp]; simp
    have hrk := impl_RankBalanced_ev a (by omega)
    rw [if_pos g1] at hrk
    have next := ih (p ++ [a]) (mask ||| 2 ^ rkB 0 (a.length / 2) a) (some a) e2 (fun b hb => ⟨p, by rw [Option.some.inj hb]⟩) (fun h => by cases h) g5
    have el : (p ++ [a]).length = p.length + 1 := by simp
    rw [el] at next
    have ml : (maskL N mask).length = N := by simp [maskL]
    have rdm : rdOf false (maskL N mask) ((rkB 0 (a.length / 2) a : Nat) : Int) = false := by
      unfold rdOf
      rw [Int.toNat_natCast, List.getD_eq_getElem?_getD, List.getElem?_eq_getElem (by omega), Option.getD_some]
      simp only [maskL, List.getElem_map, List.getElem_range]
      exact g3
    refine Ev.succ ?_
    simp only [laws_FnGrayBalanced.l0]
    simp only [if_pos (show (p.length : Int) < (L.length : Int) by omega), if_pos (show 0 ≤ (p.length : Int) by omega), er]
    refine Ev.bind hrk ?_
    simp only [if_true, if_pos (show 0 ≤ ((rkB 0 (a.length / 2) a : Nat) : Int) by omega), ml, if_pos (show ((rkB 0 (a.length / 2) a : Nat) : Int) < (N : Int) by omega), rdm, Bool.false_eq_true, if_false, Int.toNat_natCast, maskL_set, i_up (show p.length ≤ 1099511627776 by omega)]
    cases prev with
    | none =>
      have hp0 : p = [] := h2 rfl
      subst hp0
      simp only [List.length_nil]
      simp only [if_neg (show ¬ ((0 : Nat) : Int) > 0 by omega)]
      exact next
    | some b =>
      obtain ⟨q, hq⟩ := h1 b rfl
      simp only [Bool.and_eq_true, decide_eq_true_iff] at g4
      have hq1 : p.length = q.length + 1 := by rw [hq]; simp
      have ew : wrap64 ((p.length : Int) - 1) = (q.length : Int) := by rw [w64 (by omega)]; omega
      have erb : rd_L2 L (q.length : Int) = b := by rw [← hp, hq]; simp [rd_L2]
      have hf := laws_tFar_ev a b g4.1 (by omega)
      rw [g4.2] at hf
      simp only [if_pos (show (p.length : Int) > 0 by omega), ew, if_pos (show 0 ≤ (q.length : Int) by omega), if_pos (show (q.length : Int) < (L.length : Int) by omega), erb]
      refine Ev.bind hf ?_
      simp only [if_true]
      exact next
theorem FnGrayBalanced : laws_FnGrayBalanced.Pure := by
  intro l0 l1 _ _ hb0 _ _ _
  unfold laws_FnGrayBalanced.f
  rcases laws_big_ok l0 l1 with hbig | ⟨hbig, hl0, hl1⟩
  · exact ⟨0, by rw [hbig, obind, if_pos rfl]⟩
  obtain ⟨n, hd, hn⟩ := draw_GrayBalanced l0 (bytes_wf hb0)
  simp only [hbig, obind, Bool.false_eq_true, if_false, hd]
  have hi := impl_GrayBalanced_ev n
  have hs := spec_GrayBalanced_ev n
  refine (Ev.bind hi (Ev.bind hs ?_)).rounds
  cases hin : inB n 0 7 with
  | false =>
    simp only [Bool.false_eq_true, if_false, bne_self_eq_false]
    refine Ev.bind (laws_tSameRows_self [] (by simp) (by simp)) ?_
    refine Ev.done fun k => ?_
    simp only [laws_FnGrayBalanced.j0, Bool.not_true, Bool.false_eq_true, if_false]
  | true =>
    have h1 := inB_true.1 hin
    obtain ⟨m, rfl⟩ : ∃ m : Nat, n = (m : Int) := ⟨n.toNat, by omega⟩
    obtain ⟨g1, g2⟩ := bal_chk m (by omega)
    have hbw := bw_small (o := 0) (m := m) (by omega)
    have hlen : (balG m).length ≤ 429 := by
      cases m with
      | zero => simp [balG]
      | succ t => simp only [balG, List.length_map]; exact (plG_rows t (by omega)).2.1
    have hrow : ∀ x ∈ balG m, x.length ≤ 1000 := fun x hx => by
      cases m with
      | zero => simp only [balG, List.mem_singleton] at hx; simp [hx]
      | succ t =>
        simp only [balG, List.mem_map] at hx
        obtain ⟨a, _, rfl⟩ := hx
        unfold onesL
        rw [onesF_len, List.length_replicate]; omega
    have hc := impl_CountBalanced_ev m (by omega)
    simp only [if_true, Int.toNat_natCast, bne_self_eq_false, Bool.false_eq_true, if_false]
    refine Ev.bind (laws_tSameRows_self _ (by omega) (fun x hx => by have := hrow x hx; omega)) ?_
    refine Ev.succ ?_
    simp only [laws_FnGrayBalanced.j0, Bool.not_true, Bool.false_eq_true, if_false, if_true]
    refine Ev.bind hc ?_
    simp only [if_true, g2, bne_self_eq_false]
    refine Ev.succ ?_
    simp only [laws_FnGrayBalanced.j1, Bool.false_eq_true, if_false, if_pos (show 0 ≤ ((bw m 0 : Nat) : Int) by omega), Int.toNat_natCast, if_pos (show bw m 0 ≤ 281474976710656 by omega), maskL_zero]
    exact gray_walk (balG m) (by omega) hrow (bw m 0) (by omega) (balG m) [] 0 none rfl (fun b h => by cases h) (fun _ => rfl) g1

end Go.Proofs.Ytmcmglclgdgdnaa.Pure
