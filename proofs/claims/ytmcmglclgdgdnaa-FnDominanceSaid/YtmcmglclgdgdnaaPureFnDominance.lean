/- Conjugates turn dominance round, what dominates comes first, and what dominates what dominates dominates: for all rows of bytes that code and more may be. -/
import Derived.Test.YtmcmglclgdgdnaaHFnDominancex6
import Derived.Test.YtmcmglclgdgdnaaCoreA
import Derived.Test.YtmcmglclgdgdnaaCoreP
import Derived.Test.YtmcmglclgdgdnaaCorePR
import Derived.Test.YtmcmglclgdgdnaaCoreP2
namespace Go.Proofs.Ytmcmglclgdgdnaa.Pure
open Go.RowKit Go.Proofs.Ytmcmglclgdgdnaa.HFnDominance Go.Proofs.YtmcmglclgdgdnaaW.PrintWords Go.Proofs.YtmcmglclgdgdnaaW.PrintLast Go.Proofs.YtmcmglclgdgdnaaW.PrintMore Go.Proofs.Ytmcmglclgdgdnaa.Core
set_option linter.unusedVariables false
set_option linter.unusedSimpArgs false

theorem laws_big_ok (a b : List Int) : laws_big.f a b = some true ∨ (laws_big.f a b = some false ∧ a.length ≤ 1048576 ∧ b.length ≤ 1048576) := by
  unfold laws_big.f
  by_cases h : (a.length : Int) > 1048576
  · rw [if_pos h]; exact .inl rfl
  · rw [if_neg h, w64 (by omega)]
    by_cases h2 : (b.length : Int) > 1048576 - (a.length : Int)
    · rw [decide_eq_true h2]; exact .inl rfl
    · rw [decide_eq_false h2]; exact .inr ⟨rfl, by omega, by omega⟩

theorem laws_tSum_loop (s : List Int) : ∀ (p : List Int) (m n i : Int), (∀ x ∈ s, 0 ≤ x ∧ x ≤ 1048576) → 0 ≤ m → m ≤ 1048576 * p.length → n = ((p ++ s).length : Int) → i = (p.length : Int) → (p ++ s).length ≤ 1073741824 →
    Ev (fun k => laws_tSum.l0 k m (p ++ s) n i) (m + sumL s) := by
  induction s with
  | nil =>
    intro p m n i hs hm hm' hn hi hl
    refine Ev.to (Ev.done fun k => ?_) (show m = _ by simp [sumL])
    simp only [laws_tSum.l0]
    rw [if_neg (by rw [len_nil] at hn; omega)]
  | cons x s ih =>
    intro p m n i hs hm hm' hn hi hl
    have h1 := len_mid p s x
    have hx := hs x (List.mem_cons_self ..)
    have h2 := len_snoc p x
    have := ih (p ++ [x]) (m + x) n (i + 1) (fun y hy => hs y (List.mem_cons_of_mem _ hy)) (by omega) (by omega) (by rw [← snoc_mid]; exact hn) (by omega) (by rw [← snoc_mid]; exact hl)
    rw [← snoc_mid] at this
    refine Ev.to (Ev.step' this fun k => ?_) (by simp [sumL]; omega)
    simp only [laws_tSum.l0]
    rw [if_pos (by omega), if_pos (by omega), if_pos (by omega), rd_mid hi, w64 (by omega), w64 (by omega)]
theorem laws_tSum_ev (l : List Int) (hs : ∀ x ∈ l, 0 ≤ x ∧ x ≤ 1048576) (hl : l.length ≤ 1073741824) : Ev (fun k => laws_tSum.f k l) (sumL l) :=
  Ev.to (laws_tSum_loop l [] 0 _ 0 hs (by omega) (by simp) rfl (by simp) (by simpa using hl)) (by simp)

/-! ### the reader of draws: it tells a number always -/
theorem and255 (E : Int) (h0 : 0 ≤ E) (h1 : E ≤ 18446744073709551615) : 0 ≤ Go.bits .and .u64 E 255 ∧ Go.bits .and .u64 E 255 ≤ 255 := by
  have h := Go.bits_and_u64_nat E.toNat 255 (by omega) (by omega)
  rw [Int.toNat_of_nonneg h0] at h
  have h2 : E.toNat &&& 255 ≤ 255 := Nat.and_le_right
  have h3 : Go.bits .and .u64 E 255 = ((E.toNat &&& 255 : Nat) : Int) := h
  omega
theorem u64_in (n : Int) : 0 ≤ IntKind.u64.wrap n ∧ IntKind.u64.wrap n ≤ 18446744073709551615 := by
  have e : IntKind.u64.wrap n = n % 18446744073709551616 := rfl
  rw [e]; omega
theorem draw_in (n : Int) : 0 ≤ wrap64 (Go.bits .and .u64 (IntKind.u64.wrap n / 1099511627776) 255) ∧ wrap64 (Go.bits .and .u64 (IntKind.u64.wrap n / 1099511627776) 255) ≤ 255 := by
  have h := u64_in n
  have h2 := and255 (IntKind.u64.wrap n / 1099511627776) (by omega) (by omega)
  rw [w64 (by omega)]; exact h2
def Bytes (l : List Int) : Prop := ∀ x ∈ l, 0 ≤ x ∧ x ≤ 255
theorem bytes_wf {l : List Int} (h : ∀ x ∈ l, (Lit.int .u8 x).wf = true) : Bytes l := by
  intro x hx
  have h1 := h x hx
  unfold Lit.wf at h1
  rw [Bool.and_eq_true, decide_eq_true_iff, decide_eq_true_iff] at h1
  exact h1
def CurAt (m : Nat) (a : Int) : Prop := (0 ≤ a ∧ a ≤ (m : Int)) ∧ m ≤ 1152921504606846976
theorem CurAt.mono {m n : Nat} {a : Int} (h : CurAt m a) (hn : m ≤ n) (hm : n ≤ 1152921504606846976) : CurAt n a := by
  obtain ⟨⟨h1, h2⟩, h3⟩ := h
  exact ⟨⟨h1, by omega⟩, hm⟩
theorem cur_next {l : List Int} (hb : Bytes l) {m : Nat} {a : Int} (s : Int) (h : CurAt m a) (hm : m < 1152921504606846976) :
    ∃ b a' s', spec_l1Cur_next.f l a s = some (b, a', s') ∧ (0 ≤ b ∧ b ≤ 255) ∧ CurAt (m + 1) a' := by
  obtain ⟨⟨h1, h2⟩, _⟩ := h
  have e : wrap64 (a + 1) = a + 1 := w64 (by omega)
  unfold spec_l1Cur_next.f
  rw [e]
  by_cases c1 : a < (l.length : Int)
  · have hr := hb _ (rd_mem h1 c1)
    rw [if_pos c1, if_pos h1, w64 (n := rd l a) (by omega)]
    by_cases c2 : a + 1 ≤ (l.length : Int)
    · rw [if_pos c2]; exact ⟨_, _, _, rfl, hr, ⟨by omega, by omega⟩, by omega⟩
    · rw [if_neg c2]; exact ⟨_, _, _, rfl, draw_in _, ⟨by omega, by omega⟩, by omega⟩
  · rw [if_neg c1]
    by_cases c2 : a + 1 ≤ (l.length : Int)
    · rw [if_pos c2]; exact ⟨_, _, _, rfl, ⟨by omega, by omega⟩, ⟨by omega, by omega⟩, by omega⟩
    · rw [if_neg c2]; exact ⟨_, _, _, rfl, draw_in _, ⟨by omega, by omega⟩, by omega⟩
theorem tmod_in {b n : Int} (hb : 0 ≤ b) (hn : 1 < n) : 0 ≤ Int.tmod b n ∧ Int.tmod b n < n := by
  obtain ⟨c, rfl⟩ : ∃ c : Nat, b = (c : Int) := ⟨b.toNat, by omega⟩
  obtain ⟨k, rfl⟩ : ∃ k : Nat, n = (k : Int) := ⟨n.toNat, by omega⟩
  have e : Int.tmod (c : Int) (k : Int) = ((c % k : Nat) : Int) := rfl
  have := Nat.mod_lt c (show 0 < k by omega)
  rw [e]; omega
theorem cur_pick {l : List Int} (hb : Bytes l) {m : Nat} {a : Int} (s n : Int) (h : CurAt m a) (hm : m + 2 ≤ 1152921504606846976) :
    ∃ x a' s', spec_l1Cur_pick.f l a s n = some (x, a', s') ∧ (0 ≤ x ∧ x ≤ max (n - 1) 0) ∧ CurAt (m + 2) a' := by
  unfold spec_l1Cur_pick.f
  by_cases c1 : n ≤ 1
  · rw [if_pos c1]; exact ⟨_, _, _, rfl, ⟨by omega, by omega⟩, h.mono (by omega) (by omega)⟩
  · rw [if_neg c1]
    obtain ⟨b, a1, s1, h1, h2, h3⟩ := cur_next hb s h (by omega)
    rw [h1, obind]
    simp only
    have c0 : ¬ n = 0 := by omega
    by_cases c2 : n > 200
    · rw [if_pos c2]
      obtain ⟨b2, a2, s2, h4, h5, h6⟩ := cur_next hb s1 h3 (by omega)
      rw [h4, obind, if_neg c0]
      simp only
      rw [w64 (n := b * 256) (by omega), w64 (n := b * 256 + b2) (by omega)]
      have := tmod_in (b := b * 256 + b2) (n := n) (by omega) (by omega)
      exact ⟨_, _, _, rfl, ⟨by omega, by omega⟩, h6⟩
    · rw [if_neg c2, if_neg c0]
      have := tmod_in (b := b) (n := n) (by omega) (by omega)
      exact ⟨_, _, _, rfl, ⟨by omega, by omega⟩, h3.mono (by omega) (by omega)⟩
theorem cur_one {l : List Int} (hb : Bytes l) {m : Nat} {a : Int} (s n : Int) (h : CurAt m a) (hm : m + 2 ≤ 1152921504606846976) :
    ∃ x a' s', spec_l1Cur_one.f l a s n = some (x, a', s') ∧ CurAt (m + 2) a' := by
  unfold spec_l1Cur_one.f
  obtain ⟨b, a1, s1, h1, h2, h3⟩ := cur_pick hb s n h hm
  rw [h1, obind]
  exact ⟨_, _, _, rfl, h3⟩

theorem cur_among {l : List Int} (hb : Bytes l) {m : Nat} {a : Int} (s : Int) (L : List Int) (hL : 0 < L.length) (h : CurAt m a) (hm : m + 2 ≤ 1152921504606846976) :
    ∃ x a' s', spec_l1Cur_among.f l a s L = some (x, a', s') ∧ x ∈ L ∧ CurAt (m + 2) a' := by
  unfold spec_l1Cur_among.f
  obtain ⟨b, a1, s1, h1, h2, h3⟩ := cur_pick hb s (L.length : Int) h hm
  rw [h1, obind]
  simp only
  have c1 : b < (L.length : Int) := by omega
  rw [if_pos h2.1, if_pos c1]
  exact ⟨_, _, _, rfl, rd_mem h2.1 c1, h3⟩

theorem l1Least_eq (a b : Int) : spec_l1Least.f a b = some (min a b) := by unfold spec_l1Least.f; exact least_min a b
theorem cur_parted_loop {l : List Int} (hb : Bytes l) (n : Nat) : ∀ (w : List Int) (q : Nat) (most : Int) (m : Nat) (a s : Int), q ≤ n → 1 ≤ most ∨ q = 0 → w.length + n ≤ 20 → CurAt m a → m + 2 * n + 6 ≤ 1152921504606846976 →
    ∃ r a' s', Ev (fun k => spec_l1Cur_parted.l0 k w (q : Int) most l a s) (r, a', s') ∧ r.length ≤ 22 ∧ CurAt (m + 2 * n + 6) a' := by
  induction n with
  | zero =>
    intro w q most m a s hq hmost hw hc hm
    have : q = 0 := by omega
    subst this
    have c0 : ¬ ((0 : Nat) : Int) > 0 := by omega
    have cl : w.length < 17592186044416 := by omega
    obtain ⟨x, a1, s1, h1, h2, h3⟩ := cur_pick hb s 14 hc (by omega)
    by_cases c1 : x = 0
    · obtain ⟨y, a2, s2, h4, h5, h6⟩ := cur_pick hb s1 4 h3 (by omega)
      refine ⟨w ++ [y], a2, s2, Ev.done fun k => ?_, by simp; omega, h6.mono (by omega) (by omega)⟩
      simp only [spec_l1Cur_parted.l0, if_neg c0, h1, obind, if_pos c1, h4, if_pos cl]
    · by_cases c2 : x = 1
      · obtain ⟨y, a2, s2, h4, h5, h6⟩ := cur_among hb s1 [(-1), 0, 20, 21] (by simp) h3 (by omega)
        have c3 : ([y] : List Int).length + w.length < 17592186044416 := by simp; omega
        refine ⟨[y] ++ w, a2, s2, Ev.done fun k => ?_, by simp; omega, h6.mono (by omega) (by omega)⟩
        simp only [spec_l1Cur_parted.l0, if_neg c0, h1, obind, if_neg c1, if_pos c2, h4, if_pos c3]
      · refine ⟨w, a1, s1, Ev.done fun k => ?_, by omega, h3.mono (by omega) (by omega)⟩
        simp only [spec_l1Cur_parted.l0, if_neg c0, h1, obind, if_neg c1, if_neg c2]
  | succ n ih =>
    intro w q most m a s hq hmost hw hc hm
    by_cases h0 : q ≤ n
    · obtain ⟨r, a', s', h1, h2, h3⟩ := ih w q most m a s h0 hmost (by omega) hc (by omega)
      exact ⟨r, a', s', h1, h2, h3.mono (by omega) (by omega)⟩
    · have hq1 : q = n + 1 := by omega
      subst hq1
      have c0 : ((n + 1 : Nat) : Int) > 0 := by omega
      have cl : w.length < 17592186044416 := by omega
      have hmost' : 1 ≤ most := by omega
      obtain ⟨x, a1, s1, h1, h2, h3⟩ := cur_pick hb s (min ((n + 1 : Nat) : Int) most) hc (by omega)
      have e1 : wrap64 (1 + x) = 1 + x := w64 (by omega)
      obtain ⟨q', hq'⟩ : ∃ q' : Nat, ((n + 1 : Nat) : Int) - (1 + x) = (q' : Int) := ⟨(((n + 1 : Nat) : Int) - (1 + x)).toNat, by omega⟩
      have e2 : wrap64 (((n + 1 : Nat) : Int) - (1 + x)) = (q' : Int) := by rw [w64 (by omega)]; exact hq'
      obtain ⟨r, a', s', h4, h5, h6⟩ := ih (w ++ [1 + x]) q' (1 + x) (m + 2) a1 s1 (by omega) (by omega) (by simp; omega) h3 (by omega)
      refine ⟨r, a', s', Ev.succ ?_, h5, h6.mono (by omega) (by omega)⟩
      simp only [spec_l1Cur_parted.l0, if_pos c0, l1Least_eq, obind, h1, if_pos cl, e1, e2]
      exact h4
theorem cur_parted {l : List Int} (hb : Bytes l) {m : Nat} {a : Int} (s : Int) (h : CurAt m a) (hm : m + 100 ≤ 1152921504606846976) :
    ∃ w a' s', Ev (fun k => spec_l1Cur_parted.f k l a s) (w, a', s') ∧ w.length ≤ 22 ∧ CurAt (m + 100) a' := by
  unfold spec_l1Cur_parted.f
  obtain ⟨x, a1, s1, h1, h2, h3⟩ := cur_pick hb s 21 h (by omega)
  simp only [h1, obind]
  obtain ⟨n, rfl⟩ : ∃ n : Nat, x = (n : Int) := ⟨x.toNat, by omega⟩
  obtain ⟨r, a3, s3, h6, h7, h8⟩ := cur_parted_loop hb n [] n (n : Int) _ _ s1 (Nat.le_refl _) (by omega) (by simp; omega) h3 (by omega)
  exact ⟨r, a3, s3, h6, h7, h8.mono (by omega) (by omega)⟩

theorem spec_l1In_eq (a b c : Int) : spec_l1In.f a b c = some (inB a b c) := inB_ite a b c

theorem spec_l1All_loop (lo hi : Int) (s : List Int) : ∀ (p : List Int) (n i : Int), n = ((p ++ s).length : Int) → i = (p.length : Int) → (p ++ s).length ≤ 1099511627776 →
    Ev (fun k => spec_l1All.l0 k lo hi (p ++ s) n i) (s.all fun x => inB x lo hi) := by
  induction s with
  | nil =>
    intro p n i hn hx hl
    refine Ev.done fun k => ?_
    simp only [spec_l1All.l0]
    rw [if_neg (by rw [len_nil] at hn; omega)]
    rfl
  | cons x s ih =>
    intro p n i hn hx hl
    have h1 := len_mid p s x
    cases hb : inB x lo hi with
    | true =>
      have := ih (p ++ [x]) n (i + 1) (by rw [← snoc_mid]; exact hn) (by rw [len_snoc]; omega) (by rw [← snoc_mid]; exact hl)
      rw [← snoc_mid] at this
      refine Ev.to (Ev.step' this fun k => ?_) (by simp [hb])
      simp only [spec_l1All.l0]
      rw [if_pos (by omega), if_pos (by omega), if_pos (by omega), rd_mid hx, spec_l1In_eq, hb, w64 (by omega)]
      rfl
    | false =>
      refine Ev.to (Ev.done fun k => ?_) (show false = _ by simp [hb])
      simp only [spec_l1All.l0]
      rw [if_pos (by omega), if_pos (by omega), if_pos (by omega), rd_mid hx, spec_l1In_eq, hb]
      rfl
theorem spec_l1All_ev (l : List Int) (lo hi : Int) (hl : l.length ≤ 1099511627776) : Ev (fun k => spec_l1All.f k l lo hi) (l.all fun x => inB x lo hi) :=
  spec_l1All_loop lo hi l [] _ 0 rfl (by simp) (by simpa using hl)

theorem spec_spSum_loop (s : List Int) : ∀ (p : List Int) (m n i : Int), (∀ x ∈ s, 0 ≤ x ∧ x ≤ 1048576) → 0 ≤ m → m ≤ 1048576 * p.length → n = ((p ++ s).length : Int) → i = (p.length : Int) → (p ++ s).length ≤ 1073741824 →
    Ev (fun k => spec_spSum.l0 k m (p ++ s) n i) (m + sumL s) := by
  induction s with
  | nil =>
    intro p m n i hs hm hm' hn hi hl
    refine Ev.to (Ev.done fun k => ?_) (show m = _ by simp [sumL])
    simp only [spec_spSum.l0]
    rw [if_neg (by rw [len_nil] at hn; omega)]
  | cons x s ih =>
    intro p m n i hs hm hm' hn hi hl
    have h1 := len_mid p s x
    have hx := hs x (List.mem_cons_self ..)
    have h2 := len_snoc p x
    have := ih (p ++ [x]) (m + x) n (i + 1) (fun y hy => hs y (List.mem_cons_of_mem _ hy)) (by omega) (by omega) (by rw [← snoc_mid]; exact hn) (by omega) (by rw [← snoc_mid]; exact hl)
    rw [← snoc_mid] at this
    refine Ev.to (Ev.step' this fun k => ?_) (by simp [sumL]; omega)
    simp only [spec_spSum.l0]
    rw [if_pos (by omega), if_pos (by omega), if_pos (by omega), rd_mid hi, w64 (by omega), w64 (by omega)]
theorem spec_spSum_ev (l : List Int) (hs : ∀ x ∈ l, 0 ≤ x ∧ x ≤ 1048576) (hl : l.length ≤ 1073741824) : Ev (fun k => spec_spSum.f k l) (sumL l) :=
  Ev.to (spec_spSum_loop l [] 0 _ 0 hs (by omega) (by simp) rfl (by simp) (by simpa using hl)) (by simp)

theorem spec_spParted_loop (l : List Int) (hl : l.length ≤ 20) (hin : ∀ x ∈ l, 1 ≤ x ∧ x ≤ 20) (s : List Int) : ∀ (p : List Int) (m i : Int), p ++ s = l → 0 < p.length → rd l ((p.length : Int) - 1) = m → i = (p.length : Int) →
    Ev (fun k => spec_spParted.l0 k l i) (descL m s && decide (sumL l ≤ 20)) := by
  induction s with
  | nil =>
    intro p m i hp hp0 hm hi
    have hpl : p = l := by simpa using hp
    refine Ev.succ ?_
    simp only [spec_spParted.l0]
    simp only [if_neg (show ¬ i < (l.length : Int) by subst hpl; omega)]
    refine Ev.bind (spec_spSum_ev l (fun x hx => by have := hin x hx; omega) (by omega)) ?_
    refine Ev.some_ ?_
    simp [descL]
  | cons x s ih =>
    intro p m i hp hp0 hm hi
    have h1 := len_mid p s x
    rw [hp] at h1
    have hr : rd l i = x := by rw [← hp]; exact rd_mid hi
    have hp' : (p ++ [x]) ++ s = l := by rw [← snoc_mid]; exact hp
    have h2 := len_snoc p x
    have e1 : wrap64 (i - 1) = (p.length : Int) - 1 := by rw [w64 (by omega)]; omega
    by_cases hgt : x > m
    · refine Ev.to (Ev.done fun k => ?_) (show false = _ by rw [descL, decide_eq_false (by omega)]; rfl)
      simp only [spec_spParted.l0]
      rw [if_pos (by omega), if_pos (by omega), e1, if_pos (by omega), if_pos (by omega), hr, hm, if_pos hgt]
    · have hih := ih (p ++ [x]) x (i + 1) hp' (by simp) (by rw [h2, show (p.length : Int) + 1 - 1 = p.length by omega, ← hp]; exact rd_mid rfl) (by omega)
      refine Ev.to (Ev.step' hih fun k => ?_) (by rw [descL, decide_eq_true (show x ≤ m by omega)]; simp)
      simp only [spec_spParted.l0]
      rw [if_pos (by omega), if_pos (by omega), e1, if_pos (by omega), if_pos (by omega), hr, hm, if_neg hgt, w64 (n := i + 1) (by omega)]
theorem spec_spParted_ev (l : List Int) (hl : l.length ≤ 1073741824) : Ev (fun k => spec_spParted.f k l) (isP l) := by
  unfold spec_spParted.f isP
  by_cases h20 : (l.length : Int) > 20
  · simp only [if_pos h20]
    refine Ev.succ ?_
    simp only [spec_spParted.j0, if_true]
    refine Ev.some_ ?_
    rw [decide_eq_false (show ¬ (l.length : Int) ≤ 20 by omega)]
    simp
  · simp only [if_neg h20]
    rw [decide_eq_true (show (l.length : Int) ≤ 20 by omega), Bool.true_and]
    refine Ev.bind (spec_l1All_ev l 1 20 (by omega)) ?_
    refine Ev.succ ?_
    simp only [spec_spParted.j0]
    rw [parL_split]
    cases ha : (l.all fun x => inB x 1 20) with
    | false =>
      simp only [Bool.not_false, if_true]
      exact Ev.some_ (by simp)
    | true =>
      have hin := all_in.1 ha
      simp only [Bool.not_true, Bool.false_eq_true, if_false, Bool.true_and]
      cases l with
      | nil =>
        refine Ev.succ ?_
        simp only [spec_spParted.l0]
        simp only [List.length_nil, Int.natCast_zero, if_neg (show ¬ (1 : Int) < 0 by omega)]
        refine Ev.bind (spec_spSum_ev [] (by simp) (by simp)) ?_
        exact Ev.some_ (by simp [descL])
      | cons x s =>
        have hx := hin x (List.mem_cons_self ..)
        refine Ev.to (spec_spParted_loop (x :: s) (by omega) hin s [x] x 1 rfl (by simp) (by simp [rd]) (by simp)) ?_
        rw [descL, decide_eq_true (show x ≤ 20 by omega), Bool.true_and]

set_option maxRecDepth 100000 in
theorem spec_spCount_small : ∀ n : Nat, n < 21 → ∀ m : Nat, m < 21 → spec_spCount.f 600 (n : Int) (m : Int) = some ((pc n m : Nat) : Int) := by
  decide +kernel
theorem spec_spCount_ev (n m : Nat) (hn : n ≤ 20) (hm : m ≤ 20) : Ev (fun k => spec_spCount.f k (n : Int) (m : Int)) ((pc n m : Nat) : Int) :=
  Ev.of (g := fun k => spec_spCount.f k (n : Int) (m : Int)) (spec_spCount.mono _ _) (spec_spCount_small n (by omega) m (by omega))

theorem spec_l1Least_eq (a b : Int) : spec_l1Least.f a b = some (min a b) := least_min a b

theorem spec_spPartedWith_l0 (n : Nat) (hn : n ≤ 20) (h1 : 1 ≤ n) (x : Nat) : ∀ (rank : Nat) (T : List Int), x ≤ n → rank < pc n x → T.length ≤ 1000 →
    Ev (fun k => spec_spPartedWith.f k ((n - (findX n x rank).1 : Nat) : Int) ((findX n x rank).1 : Int) ((findX n x rank).2 : Int)) T →
    Ev (fun k => spec_spPartedWith.l0 k (n : Int) (rank : Int) (x : Int)) (((findX n x rank).1 : Int) :: T) := by
  induction x with
  | zero => intro rank T hx h; rw [pc_none n (by omega) h1] at h; omega
  | succ x ih =>
    intro rank T hx h hT hR
    have hs := pc_small (n := n) (x := x + 1) hn (by omega)
    rw [pc_step hn hx] at h hs
    have e1 : wrap64 ((n : Int) - ((x + 1 : Nat) : Int)) = ((n - (x + 1) : Nat) : Int) := by rw [w64 (by omega)]; omega
    have e2 : wrap64 (((x + 1 : Nat) : Int) - 1) = (x : Int) := by rw [w64 (by omega)]; omega
    unfold findX at hR ⊢
    refine Ev.succ ?_
    simp only [spec_spPartedWith.l0]
    simp only [e1, e2]
    refine Ev.bind (spec_spCount_ev (n - (x + 1)) (x + 1) (by omega) (by omega)) ?_
    by_cases c : rank < pc (n - (x + 1)) (x + 1)
    · rw [if_pos c] at hR ⊢
      simp only [if_neg (show ¬ (rank : Int) ≥ ((pc (n - (x + 1)) (x + 1) : Nat) : Int) by omega), obind]
      refine Ev.bind hR ?_
      simp only [List.length_singleton, if_pos (show 1 + T.length < 17592186044416 by omega)]
      exact Ev.some_ rfl
    · rw [if_neg c] at hR ⊢
      have e3 : wrap64 ((rank : Int) - ((pc (n - (x + 1)) (x + 1) : Nat) : Int)) = ((rank - pc (n - (x + 1)) (x + 1) : Nat) : Int) := by rw [w64 (by omega)]; omega
      simp only [if_pos (show (rank : Int) ≥ ((pc (n - (x + 1)) (x + 1) : Nat) : Int) by omega)]
      refine Ev.bind (spec_spCount_ev (n - (x + 1)) (x + 1) (by omega) (by omega)) ?_
      simp only [e3]
      exact ih _ T (by omega) (by omega) hT hR
theorem spec_spPartedWith_ev (f : Nat) : ∀ (n most rank : Nat), n ≤ f → f ≤ 1000 → n ≤ 20 → most ≤ 20 → rank < pc n most →
    Ev (fun k => spec_spPartedWith.f k (n : Int) (most : Int) (rank : Int)) (unPF f n most rank) := by
  induction f with
  | zero =>
    intro n most rank hf hF hn hm h
    obtain rfl : n = 0 := by omega
    refine Ev.succ ?_
    simp only [spec_spPartedWith.f]
    simp only [Int.natCast_zero, if_true]
    exact Ev.some_ (by simp [unPF])
  | succ f ih =>
    intro n most rank hf hF hn hm h
    refine Ev.succ ?_
    simp only [spec_spPartedWith.f]
    by_cases hn0 : n = 0
    · subst hn0
      simp only [Int.natCast_zero, if_true]
      exact Ev.some_ (by simp [unPF])
    · have e : min (n : Int) (most : Int) = ((min most n : Nat) : Int) := by rw [i_min, Nat.min_comm]
      rw [pc_min hn hm] at h
      obtain ⟨g1, g2, g3⟩ := findX_fits hn (by omega) (min most n) rank (Nat.min_le_right _ _) h
      have g4 : min most n ≤ n := Nat.min_le_right _ _
      simp only [if_neg (show ¬ (n : Int) = 0 by omega), spec_l1Least_eq, obind, e]
      rw [unPF, if_neg hn0]
      exact spec_spPartedWith_l0 n hn (by omega) (min most n) rank _ g4 h (Nat.le_trans (unPF_len _ _ _ _) (by omega)) (ih _ _ _ (by omega) (by omega) (by omega) (by omega) g3)

theorem impl_within_eq (a b c : Int) : impl_within.f a b c = some (inB a b c) := inB_ite a b c

set_option maxRecDepth 100000 in
theorem impl_countParted_small : ∀ n : Nat, n < 21 → ∀ m : Nat, m < 21 → impl_countParted.f 600 (n : Int) (m : Int) = some ((pc n m : Nat) : Int) := by
  decide +kernel
theorem impl_countParted_ev (n m : Nat) (hn : n ≤ 20) (hm : m ≤ 20) : Ev (fun k => impl_countParted.f k (n : Int) (m : Int)) ((pc n m : Nat) : Int) :=
  Ev.of (g := fun k => impl_countParted.f k (n : Int) (m : Int)) (impl_countParted.mono _ _) (impl_countParted_small n (by omega) m (by omega))

theorem impl_partedWith_l1 (n : Nat) (hn : n ≤ 20) (h1 : 1 ≤ n) (out : List Int) (ho : out.length ≤ 1000) (x : Nat) : ∀ (rank : Nat) (R : List Int), x ≤ n → rank < pc n x →
    Ev (fun k => impl_partedWith.l0 k ((n - (findX n x rank).1 : Nat) : Int) ((findX n x rank).2 : Int) (out ++ [((findX n x rank).1 : Int)]) ((findX n x rank).1 : Int)) R →
    Ev (fun k => impl_partedWith.l1 k (n : Int) (rank : Int) out (x : Int)) R := by
  induction x with
  | zero => intro rank R hx h; rw [pc_none n (by omega) h1] at h; omega
  | succ x ih =>
    intro rank R hx h hR
    have hs := pc_small (n := n) (x := x + 1) hn (by omega)
    rw [pc_step hn hx] at h hs
    have e1 : wrap64 ((n : Int) - ((x + 1 : Nat) : Int)) = ((n - (x + 1) : Nat) : Int) := by rw [w64 (by omega)]; omega
    have e2 : wrap64 (((x + 1 : Nat) : Int) - 1) = (x : Int) := by rw [w64 (by omega)]; omega
    unfold findX at hR
    refine Ev.succ ?_
    simp only [impl_partedWith.l1]
    simp only [e1, e2]
    refine Ev.bind (impl_countParted_ev (n - (x + 1)) (x + 1) (by omega) (by omega)) ?_
    by_cases c : rank < pc (n - (x + 1)) (x + 1)
    · rw [if_pos c] at hR
      simp only [if_pos (show (rank : Int) < ((pc (n - (x + 1)) (x + 1) : Nat) : Int) by omega), if_pos (show out.length < 17592186044416 by omega)]
      exact hR
    · rw [if_neg c] at hR
      have e3 : wrap64 ((rank : Int) - ((pc (n - (x + 1)) (x + 1) : Nat) : Int)) = ((rank - pc (n - (x + 1)) (x + 1) : Nat) : Int) := by rw [w64 (by omega)]; omega
      simp only [if_neg (show ¬ (rank : Int) < ((pc (n - (x + 1)) (x + 1) : Nat) : Int) by omega), e3]
      exact ih _ R (by omega) (by omega) hR
theorem impl_partedWith_l0 (f : Nat) : ∀ (n most rank : Nat) (out : List Int), n ≤ f → n ≤ 20 → most ≤ 20 → out.length + n ≤ 1000 → rank < pc n most →
    Ev (fun k => impl_partedWith.l0 k (n : Int) (rank : Int) out (most : Int)) (out ++ unPF f n most rank) := by
  induction f with
  | zero =>
    intro n most rank out hf hn hm ho h
    obtain rfl : n = 0 := by omega
    refine Ev.succ ?_
    simp only [impl_partedWith.l0]
    simp only [Int.natCast_zero, if_neg (show ¬ (0 : Int) > 0 by decide)]
    exact Ev.some_ (by simp [unPF])
  | succ f ih =>
    intro n most rank out hf hn hm ho h
    refine Ev.succ ?_
    simp only [impl_partedWith.l0]
    by_cases hn0 : n = 0
    · subst hn0
      simp only [Int.natCast_zero, if_neg (show ¬ (0 : Int) > 0 by decide)]
      exact Ev.some_ (by simp [unPF])
    · have e : mn (most : Int) (n : Int) = ((min most n : Nat) : Int) := i_mn _ _
      rw [pc_min hn hm] at h
      obtain ⟨g1, g2, g3⟩ := findX_fits hn (by omega) (min most n) rank (Nat.min_le_right _ _) h
      have g4 : min most n ≤ n := Nat.min_le_right _ _
      simp only [if_pos (show (n : Int) > 0 by omega), e]
      refine impl_partedWith_l1 n hn (by omega) out (by omega) (min most n) rank _ g4 h ?_
      refine Ev.to (ih _ _ _ (out ++ [((findX n (min most n) rank).1 : Int)]) (by omega) (by omega) (by omega) (by simp; omega) g3) ?_
      rw [unPF, if_neg hn0]
      simp
theorem impl_PartedWith_ev (n rank : Int) : Ev (fun k => impl_PartedWith.f k n rank) (if isPk n rank = true then (unP n.toNat n.toNat rank.toNat, true) else ([], false)) := by
  unfold isPk impl_PartedWith.f
  by_cases hn : 0 ≤ n ∧ n ≤ 20
  · obtain ⟨m, rfl⟩ : ∃ m : Nat, n = (m : Int) := ⟨n.toNat, by omega⟩
    have hs := pc_small (n := m) (x := m) (by omega) (by omega)
    simp only [impl_within_eq, inB_yes hn, obind, if_true, Bool.true_and, Int.toNat_natCast]
    refine Ev.bind (impl_countParted_ev m m (by omega) (by omega)) ?_
    simp only [w64 (show -9223372036854775808 ≤ ((pc m m : Nat) : Int) - 1 ∧ ((pc m m : Nat) : Int) - 1 ≤ 9223372036854775807 by omega)]
    by_cases hr : 0 ≤ rank ∧ rank ≤ ((pc m m : Nat) : Int) - 1
    · obtain ⟨q, rfl⟩ : ∃ q : Nat, rank = (q : Int) := ⟨rank.toNat, by omega⟩
      simp only [inB_yes hr, if_true, Int.toNat_natCast]
      refine Ev.bind (a := unP m m q) ?_ (Ev.now _)
      unfold impl_partedWith.f
      exact impl_partedWith_l0 m m m q [] (Nat.le_refl _) (by omega) (by omega) (by simp; omega) (by omega)
    · simp only [inB_no hr, Bool.false_eq_true, if_false]
      exact Ev.now _
  · simp only [impl_within_eq, inB_no hn, obind, Bool.false_and, Bool.false_eq_true, if_false]
    exact Ev.now _

theorem impl_sum_loop (s : List Int) : ∀ (p : List Int) (m n i : Int), (∀ x ∈ s, 0 ≤ x ∧ x ≤ 1048576) → 0 ≤ m → m ≤ 1048576 * p.length → n = ((p ++ s).length : Int) → i = (p.length : Int) → (p ++ s).length ≤ 1073741824 →
    Ev (fun k => impl_sum.l0 k m (p ++ s) n i) (m + sumL s) := by
  induction s with
  | nil =>
    intro p m n i hs hm hm' hn hi hl
    refine Ev.to (Ev.done fun k => ?_) (show m = _ by simp [sumL])
    simp only [impl_sum.l0]
    rw [if_neg (by rw [len_nil] at hn; omega)]
  | cons x s ih =>
    intro p m n i hs hm hm' hn hi hl
    have h1 := len_mid p s x
    have hx := hs x (List.mem_cons_self ..)
    have h2 := len_snoc p x
    have := ih (p ++ [x]) (m + x) n (i + 1) (fun y hy => hs y (List.mem_cons_of_mem _ hy)) (by omega) (by omega) (by rw [← snoc_mid]; exact hn) (by omega) (by rw [← snoc_mid]; exact hl)
    rw [← snoc_mid] at this
    refine Ev.to (Ev.step' this fun k => ?_) (by simp [sumL]; omega)
    simp only [impl_sum.l0]
    rw [if_pos (by omega), if_pos (by omega), if_pos (by omega), rd_mid hi, w64 (by omega), w64 (by omega)]
theorem impl_sum_ev (l : List Int) (hs : ∀ x ∈ l, 0 ≤ x ∧ x ≤ 1048576) (hl : l.length ≤ 1073741824) : Ev (fun k => impl_sum.f k l) (sumL l) :=
  Ev.to (impl_sum_loop l [] 0 _ 0 hs (by omega) (by simp) rfl (by simp) (by simpa using hl)) (by simp)

theorem impl_IsParted_loop (l : List Int) (hl : l.length ≤ 1073741824) (s : List Int) : ∀ (p : List Int) (m n i : Int), p ++ s = l → (∀ x ∈ p, 1 ≤ x ∧ x ≤ 20) → (p = [] → m = 20) → (0 < p.length → rd l ((p.length : Int) - 1) = m) → n = (l.length : Int) → i = (p.length : Int) →
    Ev (fun k => impl_IsParted.l0 k l l n i) (parL m s && (decide ((l.length : Int) ≤ 20) && decide (sumL l ≤ 20))) := by
  induction s with
  | nil =>
    intro p m n i hp hin h0 hm hn hi
    have hpl : p = l := by simpa using hp
    refine Ev.succ ?_
    simp only [impl_IsParted.l0]
    simp only [if_neg (show ¬ i < n by subst hpl; omega)]
    by_cases h20 : (l.length : Int) ≤ 20
    · simp only [if_pos h20]
      refine Ev.bind (impl_sum_ev l (fun x hx => by have := hin x (hpl ▸ hx); omega) hl) ?_
      refine Ev.some_ ?_
      simp [parL, h20]
    · simp only [if_neg h20]
      refine Ev.some_ ?_
      simp [h20]
  | cons x s ih =>
    intro p m n i hp hin h0 hm hn hi
    have h1 := len_mid p s x
    rw [hp] at h1
    have hr : rd l i = x := by rw [← hp]; exact rd_mid hi
    have hp' : (p ++ [x]) ++ s = l := by rw [← snoc_mid]; exact hp
    have h2 := len_snoc p x
    cases hb : inB x 1 20 with
    | false =>
      refine Ev.to (Ev.done fun k => ?_) (show false = _ by simp [parL, hb])
      simp only [impl_IsParted.l0]
      rw [if_pos (by omega), if_pos (by omega), if_pos (by omega), hr, impl_within_eq, hb]
      rfl
    | true =>
      have hx := inB_true.1 hb
      have hih := ih (p ++ [x]) x n (i + 1) hp' (by intro y hy; rcases List.mem_append.1 hy with hy | hy; exact hin y hy; simp at hy; omega) (by simp) (fun _ => by rw [h2, show (p.length : Int) + 1 - 1 = p.length by omega, ← hp]; exact rd_mid rfl) hn (by omega)
      by_cases hpos : i > 0
      · have hr1 := hm (by omega)
        have e1 : wrap64 (i - 1) = (p.length : Int) - 1 := by rw [w64 (by omega)]; omega
        by_cases hlt : m < x
        · refine Ev.to (Ev.done fun k => ?_) (show false = _ by rw [parL, hb, decide_eq_false (by omega)]; rfl)
          simp only [impl_IsParted.l0]
          rw [if_pos (by omega), if_pos (by omega), if_pos (by omega), hr, impl_within_eq, hb]
          simp only [obind, if_true]
          rw [if_pos hpos, e1, if_pos (by omega), if_pos (by omega), hr1, if_pos hlt]
        · refine Ev.to (Ev.step' hih fun k => ?_) (by rw [parL, hb, decide_eq_true (show x ≤ m by omega)]; simp)
          simp only [impl_IsParted.l0]
          rw [if_pos (by omega), if_pos (by omega), if_pos (by omega), hr, impl_within_eq, hb]
          simp only [obind, if_true]
          rw [if_pos hpos, e1, if_pos (by omega), if_pos (by omega), hr1, if_neg hlt, w64 (n := i + 1) (by omega)]
      · have hp0 : p = [] := List.eq_nil_of_length_eq_zero (by omega)
        have hm20 := h0 hp0
        refine Ev.to (Ev.step' hih fun k => ?_) (by rw [parL, hb, decide_eq_true (show x ≤ m by omega)]; simp)
        simp only [impl_IsParted.l0]
        rw [if_pos (by omega), if_pos (by omega), if_pos (by omega), hr, impl_within_eq, hb]
        simp only [obind, if_true]
        rw [if_neg hpos, w64 (n := i + 1) (by omega)]
theorem impl_IsParted_ev (l : List Int) (hl : l.length ≤ 1073741824) : Ev (fun k => impl_IsParted.f k l) (isP l) :=
  impl_IsParted_loop l hl l [] 20 _ 0 rfl (by simp) (fun _ => rfl) (by simp) rfl (by simp)

theorem impl_DominatesParted_loop (a b : List Int) (ha : ∀ x ∈ a, 1 ≤ x ∧ x ≤ 20) (hb : ∀ x ∈ b, 1 ≤ x ∧ x ≤ 20) (hal : a.length ≤ 20) (hbl : b.length ≤ 20) (n : Nat) (hn : n ≤ 21) (d : Nat) : ∀ i : Nat, i + d = n →
    Ev (fun k => impl_DominatesParted.l0 k a b (n : Int) (i : Int)) (domR a b d i && decide (sumL a = sumL b), true) := by
  have bnd : ∀ l : List Int, (∀ x ∈ l, 1 ≤ x ∧ x ≤ 20) → ∀ j : Nat, ∀ x ∈ l.take j, 0 ≤ x ∧ x ≤ 1048576 := fun l h j x hx => by have := h x (List.mem_of_mem_take hx); omega
  have bnd0 : ∀ l : List Int, (∀ x ∈ l, 1 ≤ x ∧ x ≤ 20) → ∀ x ∈ l, 0 ≤ x ∧ x ≤ 1048576 := fun l h x hx => by have := h x hx; omega
  have cut : ∀ (l : List Int) (i : Nat), l.take (mn (i : Int) (l.length : Int)).toNat = l.take i := by
    intro l i
    rw [mn_min]
    by_cases h : i ≤ l.length
    · rw [show min (i : Int) (l.length : Int) = (i : Int) by omega, Int.toNat_natCast]
    · rw [show min (i : Int) (l.length : Int) = (l.length : Int) by omega, Int.toNat_natCast, List.take_of_length_le (Nat.le_refl _), List.take_of_length_le (by omega)]
  induction d with
  | zero =>
    intro i hi
    refine Ev.succ ?_
    simp only [impl_DominatesParted.l0]
    simp only [if_neg (show ¬ (i : Int) < (n : Int) by omega)]
    refine Ev.bind (impl_sum_ev a (bnd0 a ha) (by omega)) (Ev.bind (impl_sum_ev b (bnd0 b hb) (by omega)) ?_)
    refine Ev.some_ ?_
    simp only [domR, Bool.true_and]
    congr 1
  | succ d ih =>
    intro i hi
    have h1 := ih (i + 1) (by omega)
    have e1 : wrap64 ((i : Int) + 1) = ((i + 1 : Nat) : Int) := by rw [w64 (by omega)]; omega
    have hm : ∀ l : List Int, 0 ≤ mn (i : Int) (l.length : Int) ∧ mn (i : Int) (l.length : Int) ≤ (l.length : Int) := fun l => by rw [mn_min]; omega
    refine Ev.succ ?_
    simp only [impl_DominatesParted.l0]
    simp only [if_pos (show (i : Int) < (n : Int) by omega), if_pos (hm a).1, if_pos (hm a).2, if_pos (hm b).1, if_pos (hm b).2, cut, e1]
    refine Ev.bind (impl_sum_ev (a.take i) (bnd a ha i) (by simp; omega)) (Ev.bind (impl_sum_ev (b.take i) (bnd b hb i) (by simp; omega)) ?_)
    by_cases hlt : sumL (a.take i) < sumL (b.take i)
    · simp only [if_pos hlt]
      refine Ev.some_ ?_
      rw [domR, decide_eq_false (by omega)]; simp
    · simp only [if_neg hlt]
      refine Ev.to h1 ?_
      rw [domR, decide_eq_true (show sumL (b.take i) ≤ sumL (a.take i) by omega), Bool.true_and]
theorem impl_DominatesParted_ev (a b : List Int) (hal : a.length ≤ 1073741824) (hbl : b.length ≤ 1073741824) :
    Ev (fun k => impl_DominatesParted.f k a b) (if (isP a && isP b) = true then (domP a b, true) else (false, false)) := by
  unfold impl_DominatesParted.f
  refine Ev.bind (impl_IsParted_ev a hal) ?_
  cases hA : isP a with
  | false =>
    simp only [Bool.false_and, Bool.false_eq_true, if_false]
    refine Ev.succ ?_
    simp only [impl_DominatesParted.j0, if_true]
    exact Ev.now _
  | true =>
    simp only [Bool.true_and, if_true]
    refine Ev.bind (impl_IsParted_ev b hbl) ?_
    refine Ev.succ ?_
    simp only [impl_DominatesParted.j0]
    cases hB : isP b with
    | false =>
      simp only [Bool.not_false, if_true, Bool.false_eq_true, if_false]
      exact Ev.now _
    | true =>
      simp only [Bool.not_true, Bool.false_eq_true, if_false, if_true]
      obtain ⟨_, h2, _, h4⟩ := isP_true hA
      obtain ⟨_, h6, _, h8⟩ := isP_true hB
      have e : wrap64 (mx (a.length : Int) (b.length : Int) + 1) = ((max a.length b.length + 1 : Nat) : Int) := by rw [mx_max, w64 (by omega)]; omega
      simp only [e]
      refine Ev.to (impl_DominatesParted_loop a b h4 h8 h2 h6 (max a.length b.length + 1) (by omega) (max a.length b.length + 1) 0 (by omega)) ?_
      rw [dom_same (fun x hx => by have := h4 x hx; omega) (fun x hx => by have := h8 x hx; omega)]
      rfl

theorem spec_DominatesParted_loop (a b : List Int) (ha : ∀ x ∈ a, 1 ≤ x ∧ x ≤ 20) (hb : ∀ x ∈ b, 1 ≤ x ∧ x ≤ 20) (hal : a.length ≤ 20) (hbl : b.length ≤ 20) (d : Nat) : ∀ i : Nat, i + d = b.length →
    Ev (fun k => spec_DominatesParted.l0 k a b (b.length : Int) (i : Int)) (domR a b d (i + 1), true) := by
  have bnd : ∀ l : List Int, (∀ x ∈ l, 1 ≤ x ∧ x ≤ 20) → ∀ j : Nat, ∀ x ∈ l.take j, 0 ≤ x ∧ x ≤ 1048576 := fun l h j x hx => by have := h x (List.mem_of_mem_take hx); omega
  have cut : ∀ (l : List Int) (i : Nat), l.take (min (i : Int) (l.length : Int)).toNat = l.take i := by
    intro l i
    by_cases h : i ≤ l.length
    · rw [show min (i : Int) (l.length : Int) = (i : Int) by omega, Int.toNat_natCast]
    · rw [show min (i : Int) (l.length : Int) = (l.length : Int) by omega, Int.toNat_natCast, List.take_of_length_le (Nat.le_refl _), List.take_of_length_le (by omega)]
  induction d with
  | zero =>
    intro i hi
    refine Ev.succ ?_
    simp only [spec_DominatesParted.l0]
    simp only [if_neg (show ¬ (i : Int) < (b.length : Int) by omega)]
    exact Ev.now _
  | succ d ih =>
    intro i hi
    have h1 := ih (i + 1) (by omega)
    have e1 : wrap64 ((i : Int) + 1) = ((i + 1 : Nat) : Int) := by rw [w64 (by omega)]; omega
    refine Ev.succ ?_
    simp only [spec_DominatesParted.l0]
    simp only [if_pos (show (i : Int) < (b.length : Int) by omega), e1, spec_l1Least_eq, obind, if_pos (show 0 ≤ min ((i + 1 : Nat) : Int) (a.length : Int) by omega), if_pos (show min ((i + 1 : Nat) : Int) (a.length : Int) ≤ (a.length : Int) by omega), cut, if_pos (show 0 ≤ ((i + 1 : Nat) : Int) by omega), if_pos (show ((i + 1 : Nat) : Int) ≤ (b.length : Int) by omega), Int.toNat_natCast]
    refine Ev.bind (spec_spSum_ev (a.take (i + 1)) (bnd a ha (i + 1)) (by simp; omega)) (Ev.bind (spec_spSum_ev (b.take (i + 1)) (bnd b hb (i + 1)) (by simp; omega)) ?_)
    by_cases hlt : sumL (a.take (i + 1)) < sumL (b.take (i + 1))
    · simp only [if_pos hlt]
      refine Ev.some_ ?_
      rw [domR, decide_eq_false (by omega)]; simp
    · simp only [if_neg hlt]
      refine Ev.to h1 ?_
      rw [domR, decide_eq_true (show sumL (b.take (i + 1)) ≤ sumL (a.take (i + 1)) by omega), Bool.true_and]
theorem spec_DominatesParted_ev (a b : List Int) (hal : a.length ≤ 1073741824) (hbl : b.length ≤ 1073741824) :
    Ev (fun k => spec_DominatesParted.f k a b) (if (isP a && isP b) = true then (domP a b, true) else (false, false)) := by
  unfold spec_DominatesParted.f
  refine Ev.bind (spec_spParted_ev a hal) ?_
  cases hA : isP a with
  | false =>
    simp only [Bool.false_and, Bool.false_eq_true, if_false]
    refine Ev.succ ?_
    simp only [spec_DominatesParted.j0, if_true]
    exact Ev.now _
  | true =>
    simp only [Bool.true_and, if_true]
    refine Ev.bind (spec_spParted_ev b hbl) ?_
    refine Ev.succ ?_
    simp only [spec_DominatesParted.j0]
    cases hB : isP b with
    | false =>
      simp only [Bool.not_false, if_true, Bool.false_eq_true, if_false]
      exact Ev.now _
    | true =>
      simp only [Bool.not_true, Bool.false_eq_true, if_false, if_true]
      obtain ⟨_, h2, _, h4⟩ := isP_true hA
      obtain ⟨_, h6, _, h8⟩ := isP_true hB
      refine Ev.bind (spec_spSum_ev a (fun x hx => by have := h4 x hx; omega) hal) (Ev.bind (spec_spSum_ev b (fun x hx => by have := h8 x hx; omega) hbl) ?_)
      unfold domP
      by_cases hs : sumL a = sumL b
      · simp only [if_pos hs]
        refine Ev.to (spec_DominatesParted_loop a b h4 h8 h2 h6 b.length 0 (by omega)) ?_
        rw [decide_eq_true hs, Bool.true_and]
      · simp only [if_neg hs]
        exact Ev.some_ (by rw [decide_eq_false hs, Bool.false_and])

theorem impl_ConjugateOf_inner (l : List Int) (hl : l.length ≤ 20) (out : List Int) (s : List Int) : ∀ (p : List Int) (c : Int) (R : List Int × Bool), p ++ s = l → 0 ≤ c → c ≤ p.length → out.length ≤ 1000 →
    Ev (fun k => impl_ConjugateOf.l0 k l (out ++ [c + cntGt (out.length : Int) s])) R →
    Ev (fun k => impl_ConjugateOf.l1 k l out c l (l.length : Int) (p.length : Int)) R := by
  induction s with
  | nil =>
    intro p c R hp hc hc' ho hR
    have : l.length = p.length := by rw [← hp]; simp
    refine Ev.succ ?_
    simp only [impl_ConjugateOf.l1]
    simp only [if_neg (show ¬ (p.length : Int) < (l.length : Int) by omega), if_pos (show out.length < 17592186044416 by omega)]
    simpa [cntGt] using hR
  | cons x s ih =>
    intro p c R hp hc hc' ho hR
    have hlen : l.length = p.length + s.length + 1 := by rw [← hp]; simp; omega
    have e0 : rd l (p.length : Int) = x := by rw [← hp]; exact rd_mid rfl
    have e1 := i_succ (out := p) (x := x) (by omega)
    have hp' : (p ++ [x]) ++ s = l := by rw [← snoc_mid]; exact hp
    have h2 := len_snoc p x
    refine Ev.succ ?_
    simp only [impl_ConjugateOf.l1]
    simp only [if_pos (show (p.length : Int) < (l.length : Int) by omega), if_pos (show 0 ≤ (p.length : Int) by omega), e0, e1]
    by_cases hx : x > (out.length : Int)
    · simp only [if_pos hx, w64 (show -9223372036854775808 ≤ c + 1 ∧ c + 1 ≤ 9223372036854775807 by omega)]
      refine ih (p ++ [x]) (c + 1) R hp' (by omega) (by omega) ho ?_
      simp only [cntGt, if_pos hx] at hR
      rw [Int.add_assoc]; exact hR
    · simp only [if_neg hx]
      refine ih (p ++ [x]) c R hp' hc (by omega) ho ?_
      simp only [cntGt, if_neg hx, Int.zero_add] at hR
      exact hR
theorem impl_ConjugateOf_loop (l : List Int) (hl : l.length ≤ 20) (h0 : 0 < l.length) (hx : rd l 0 ≤ 20) (d : Nat) : ∀ (out : List Int), (out.length : Int) + d = rd l 0 →
    Ev (fun k => impl_ConjugateOf.l0 k l out) (out ++ conjF l d (out.length : Int), true) := by
  induction d with
  | zero =>
    intro out ho
    refine Ev.succ ?_
    simp only [impl_ConjugateOf.l0]
    simp only [if_pos (show (l.length : Int) > 0 by omega), if_pos (show (0 : Int) < (l.length : Int) by omega), decide_eq_false (show ¬ (out.length : Int) < rd l 0 by omega)]
    refine Ev.succ ?_
    simp only [impl_ConjugateOf.j1, Bool.false_eq_true, if_false]
    exact Ev.some_ (by simp [conjF])
  | succ d ih =>
    intro out ho
    have hih := ih (out ++ [cntGt (out.length : Int) l]) (by rw [len_snoc]; omega)
    refine Ev.succ ?_
    simp only [impl_ConjugateOf.l0]
    simp only [if_pos (show (l.length : Int) > 0 by omega), if_pos (show (0 : Int) < (l.length : Int) by omega), decide_eq_true (show (out.length : Int) < rd l 0 by omega)]
    refine Ev.succ ?_
    simp only [impl_ConjugateOf.j1, if_true]
    refine impl_ConjugateOf_inner l hl out l [] 0 _ rfl (by omega) (by simp) (by omega) ?_
    rw [Int.zero_add]
    refine Ev.to hih ?_
    rw [len_snoc]
    simp [conjF]
theorem impl_ConjugateOf_ev (l : List Int) (hl : l.length ≤ 1073741824) : Ev (fun k => impl_ConjugateOf.f k l) (if isP l = true then (conjL l, true) else ([], false)) := by
  unfold impl_ConjugateOf.f
  refine Ev.bind (impl_IsParted_ev l hl) ?_
  by_cases h : isP l = true
  · obtain ⟨_, h2, _, h4⟩ := isP_true h
    have hh := head_small h
    simp only [h, if_true]
    cases l with
    | nil =>
      refine Ev.succ ?_
      simp only [impl_ConjugateOf.l0]
      simp only [List.length_nil, Int.natCast_zero, if_neg (show ¬ (0 : Int) > 0 by decide)]
      refine Ev.succ ?_
      simp only [impl_ConjugateOf.j1, Bool.false_eq_true, if_false]
      exact Ev.now _
    | cons x s =>
      have hx : (x :: s).headD 0 = x := rfl
      rw [hx] at hh
      have hr : rd (x :: s) 0 = x := by simp [rd]
      refine Ev.to (impl_ConjugateOf_loop (x :: s) h2 (by simp) (by rw [hr]; omega) x.toNat [] (by rw [hr]; simp; omega)) ?_
      simp [conjL]
  · simp only [if_neg h]
    exact Ev.now _

theorem impl_RankParted_l1 (a : List Int) (n x : Nat) (hn : n ≤ 20) (i : Int) (R : Int × Bool) (y : Nat) : ∀ (rank : Nat), y ≤ n → rank + 627 * y ≤ 1000000 →
    Ev (fun k => impl_RankParted.l0 k ((rank + above n x y : Nat) : Int) (wrap64 ((n : Int) - (x : Int))) (x : Int) a (a.length : Int) (wrap64 (i + 1))) R →
    Ev (fun k => impl_RankParted.l1 k (rank : Int) (n : Int) (x : Int) (y : Int) a (a.length : Int) i) R := by
  induction y with
  | zero =>
    intro rank hy hr hR
    refine Ev.succ ?_
    simp only [impl_RankParted.l1]
    simp only [if_neg (show ¬ ((0 : Nat) : Int) > (x : Int) by omega)]
    exact hR
  | succ y ih =>
    intro rank hy hr hR
    refine Ev.succ ?_
    simp only [impl_RankParted.l1]
    unfold above at hR
    by_cases c : x < y + 1
    · rw [if_pos c] at hR
      have hs := pc_small (n := n - (y + 1)) (x := y + 1) (by omega) (by omega)
      have e1 : wrap64 ((n : Int) - ((y + 1 : Nat) : Int)) = ((n - (y + 1) : Nat) : Int) := by rw [w64 (by omega)]; omega
      have e2 : wrap64 (((y + 1 : Nat) : Int) - 1) = (y : Int) := by rw [w64 (by omega)]; omega
      have e3 : wrap64 ((rank : Int) + ((pc (n - (y + 1)) (y + 1) : Nat) : Int)) = ((rank + pc (n - (y + 1)) (y + 1) : Nat) : Int) := by rw [w64 (by omega)]; omega
      simp only [if_pos (show ((y + 1 : Nat) : Int) > (x : Int) by omega), e1, e2]
      refine Ev.bind (impl_countParted_ev (n - (y + 1)) (y + 1) (by omega) (by omega)) ?_
      simp only [e3]
      refine ih _ (by omega) (by omega) ?_
      rw [Nat.add_assoc]; exact hR
    · rw [if_neg c] at hR
      simp only [if_neg (show ¬ ((y + 1 : Nat) : Int) > (x : Int) by omega)]
      exact hR
theorem impl_RankParted_l0 (a : List Int) (ha : a.length ≤ 20) (hin : ∀ x ∈ a, 1 ≤ x ∧ x ≤ 20) (s : List Int) : ∀ (p : List Int) (n most rank : Nat), p ++ s = a → sumL s = (n : Int) → n ≤ 20 → rank ≤ 13000 * p.length →
    Ev (fun k => impl_RankParted.l0 k (rank : Int) (n : Int) (most : Int) a (a.length : Int) (p.length : Int)) (((rank + rkP n most s : Nat) : Int), true) := by
  induction s with
  | nil =>
    intro p n most rank hp hs hn hr
    have : a.length = p.length := by rw [← hp]; simp
    refine Ev.succ ?_
    simp only [impl_RankParted.l0]
    simp only [if_neg (show ¬ (p.length : Int) < (a.length : Int) by omega)]
    exact Ev.some_ (by simp [rkP])
  | cons x s ih =>
    intro p n most rank hp hs hn hr
    have hlen : a.length = p.length + s.length + 1 := by rw [← hp]; simp; omega
    have hsub : ∀ y ∈ x :: s, 1 ≤ y ∧ y ≤ 20 := fun y hy => hin y (by rw [← hp]; exact List.mem_append_right _ hy)
    have hx := hsub x (List.mem_cons_self ..)
    have hs0 : 0 ≤ sumL s := sumL_nonneg fun y hy => by have := hsub y (List.mem_cons_of_mem _ hy); omega
    have hsx : sumL (x :: s) = x + sumL s := rfl
    obtain ⟨q, rfl⟩ : ∃ q : Nat, x = (q : Int) := ⟨x.toNat, by omega⟩
    have e0 : rd a (p.length : Int) = (q : Int) := by rw [← hp]; exact rd_mid rfl
    have e1 : wrap64 ((p.length : Int) + 1) = ((p ++ [(q : Int)]).length : Int) := i_succ (by omega)
    have e2 : wrap64 ((n : Int) - (q : Int)) = ((n - q : Nat) : Int) := by rw [w64 (by omega)]; omega
    have hp' : (p ++ [(q : Int)]) ++ s = a := by rw [← snoc_mid]; exact hp
    have hab := above_le (n := n) hn q (min most n) (by omega)
    have hab2 : 627 * min most n ≤ 12540 := by omega
    refine Ev.succ ?_
    simp only [impl_RankParted.l0]
    simp only [if_pos (show (p.length : Int) < (a.length : Int) by omega), if_pos (show 0 ≤ (p.length : Int) by omega), e0, i_mn]
    refine impl_RankParted_l1 a n q hn (p.length : Int) _ (min most n) rank (Nat.min_le_right _ _) (by omega) ?_
    simp only [e1, e2]
    refine Ev.to (ih (p ++ [(q : Int)]) (n - q) q (rank + above n q (min most n)) hp' (by omega) (by omega) (by rw [List.length_append, List.length_singleton]; omega)) ?_
    simp only [rkP, Int.toNat_natCast]
    rw [Nat.add_assoc]
theorem impl_RankParted_ev (l : List Int) (hl : l.length ≤ 1073741824) : Ev (fun f => impl_RankParted.f f l) (if isP l = true then ((rkP (sumL l).toNat (sumL l).toNat l : Int), true) else (0, false)) := by
  unfold impl_RankParted.f
  refine Ev.bind (impl_IsParted_ev l hl) ?_
  by_cases h : isP l = true
  · obtain ⟨_, h2, h3, h4⟩ := isP_true h
    have h0 : 0 ≤ sumL l := sumL_nonneg fun y hy => by have := h4 y hy; omega
    simp only [h, if_true]
    refine Ev.bind (impl_sum_ev l (fun x hx => by have := h4 x hx; omega) hl) ?_
    obtain ⟨n, hn⟩ : ∃ n : Nat, sumL l = (n : Int) := ⟨(sumL l).toNat, by omega⟩
    rw [hn]
    refine Ev.to (impl_RankParted_l0 l h2 h4 l [] n n 0 rfl hn (by omega) (by simp)) ?_
    simp
  · simp only [if_neg h]
    exact Ev.now _

theorem parL_sum (l : List Int) {n : Nat} (h : isP l = true) (hs : sumL l = (n : Int)) : parL (n : Int) l = true := by
  obtain ⟨h1, h2, h3, h4⟩ := isP_true h
  cases l with
  | nil => rfl
  | cons x s =>
    obtain ⟨g1, g2, g3⟩ := parL_cons h1
    have := sumL_nonneg fun y hy => (by have := parL_in g3 y hy; omega : 0 ≤ y)
    simp only [sumL] at hs
    exact parL_mk g1 (by omega) g3
theorem impl_CountParted_ev (n m : Int) : Ev (fun k => impl_CountParted.f k n m) (if (inB n 0 20 && inB m 0 20) = true then (((pc n.toNat m.toNat : Nat) : Int), true) else (0, false)) := by
  unfold impl_CountParted.f
  simp only [impl_within_eq, obind]
  cases h : inB n 0 20 with
  | false => simp only [Bool.false_eq_true, if_false, Bool.false_and]; exact Ev.now _
  | true =>
    simp only [if_true, Bool.true_and]
    cases h2 : inB m 0 20 with
    | false => simp only [Bool.false_eq_true, if_false]; exact Ev.now _
    | true =>
      have h1 := inB_true.1 h
      have h3 := inB_true.1 h2
      obtain ⟨n, rfl⟩ : ∃ a : Nat, n = (a : Int) := ⟨n.toNat, by omega⟩
      obtain ⟨m, rfl⟩ : ∃ a : Nat, m = (a : Int) := ⟨m.toNat, by omega⟩
      simp only [if_true, Int.toNat_natCast]
      refine Ev.bind (impl_countParted_ev n m (by omega) (by omega)) ?_
      exact Ev.now _

theorem draw_dom_two {l : List Int} (hb : Bytes l) (x : List Int) (hx : x.length ≤ 100) {m : Nat} {a : Int} (s : Int) (hc : CurAt m a) (hm : m + 200 ≤ 1152921504606846976) :
    ∃ r, Ev (fun k => spec_DrawDominatesParted.j0 k x false l a s) r ∧ r.1.length ≤ 100 ∧ r.2.length ≤ 100 := by
  obtain ⟨w, a1, s1, h1, h2, h3⟩ := cur_parted hb s hc (by omega)
  refine ⟨(x, w), Ev.succ ?_, hx, by simp only; omega⟩
  simp only [spec_DrawDominatesParted.j0, Bool.false_eq_true, if_false]
  refine Ev.bind h1 ?_
  exact Ev.now _
theorem draw_DominatesParted (l : List Int) (hb : Bytes l) : ∃ r, Ev (fun k => spec_DrawDominatesParted.f k l) r ∧ r.1.length ≤ 100 ∧ r.2.length ≤ 100 := by
  unfold spec_DrawDominatesParted.f
  obtain ⟨w, a, s, h1, h2, h3⟩ := cur_parted hb 0 (show CurAt 0 0 from ⟨by omega, by omega⟩) (by omega)
  have h4 := spec_spParted_ev w (by omega)
  cases hp : isP w with
  | false =>
    rw [hp] at h4
    obtain ⟨r, h5, h6⟩ := draw_dom_two hb w (by omega) s h3 (by omega)
    refine ⟨r, Ev.bind h1 (Ev.bind h4 ?_), h6⟩
    simp only [Bool.false_eq_true, if_false]
    exact h5
  | true =>
    rw [hp] at h4
    obtain ⟨b, a1, s1, h5, h6⟩ := cur_one hb s 2 h3 (by omega)
    cases b with
    | false =>
      obtain ⟨r, h7, h8⟩ := draw_dom_two hb w (by omega) s1 h6 (by omega)
      refine ⟨r, Ev.bind h1 (Ev.bind h4 ?_), h8⟩
      simp only [if_true, h5, obind]
      exact h7
    | true =>
      obtain ⟨p1, p2, p3, p4⟩ := isP_true hp
      have hs := spec_spSum_ev w (fun x hx => by have := p4 x hx; omega) (by omega)
      have hn := sumL_nonneg fun x hx => (by have := p4 x hx; omega : 0 ≤ x)
      obtain ⟨n, hn⟩ : ∃ n : Nat, sumL w = (n : Int) := ⟨(sumL w).toNat, by omega⟩
      have hc := spec_spCount_ev n n (by omega) (by omega)
      have hpc := pc_small (n := n) (x := n) (by omega) (by omega)
      have hpos := rkP_lt w n 20 (by omega) (by omega) p1 hn
      rw [← pc_min (by omega) (by omega), pc_min (by omega) (by omega), Nat.min_eq_right (show n ≤ 20 by omega)] at hpos
      obtain ⟨x, a2, s2, h7, h8, h9⟩ := cur_pick hb s1 ((pc n n : Nat) : Int) h6 (by omega)
      obtain ⟨r, rfl⟩ : ∃ r : Nat, x = (r : Int) := ⟨x.toNat, by omega⟩
      have hu := spec_spPartedWith_ev n n n r (Nat.le_refl _) (by omega) (by omega) (by omega) (by omega)
      have hul := unPF_len n n n r
      refine ⟨(w, unPF n n n r), Ev.bind h1 (Ev.bind h4 ?_), by simp only; omega, by simp only; omega⟩
      simp only [if_true, h5, obind]
      refine Ev.succ ?_
      simp only [spec_DrawDominatesParted.j0, if_true]
      rw [hn] at hs
      refine Ev.bind hs (Ev.bind hc ?_)
      simp only [h7, obind]
      refine Ev.bind hu ?_
      exact Ev.now _
theorem far_rank {q n c : Nat} (hq : q ≤ 6) (hn : n < c) (hc : c ≤ 627) :
    ∃ r : Nat, wrap64 ((n : Int) + wrap64 (Int.tdiv (wrap64 ((q : Int) * wrap64 (wrap64 ((c : Int) - 1) - (n : Int)))) 7)) = (r : Int) ∧ r < c := by
  obtain ⟨D, hD⟩ : ∃ D : Nat, D + n + 1 = c := ⟨c - 1 - n, by omega⟩
  have e1 : wrap64 (wrap64 ((c : Int) - 1) - (n : Int)) = (D : Int) := by
    rw [w64 (n := (c : Int) - 1) (by omega), w64 (by omega)]; omega
  have hm : q * D ≤ 6 * D := Nat.mul_le_mul_right _ hq
  have e2 : wrap64 ((q : Int) * (D : Int)) = ((q * D : Nat) : Int) := by
    rw [i_mul]; generalize q * D = z at hm; exact w64 (by omega)
  have e3 : Int.tdiv ((q * D : Nat) : Int) 7 = ((q * D / 7 : Nat) : Int) := rfl
  have hd : q * D / 7 ≤ D := by generalize q * D = z at hm; omega
  refine ⟨n + q * D / 7, ?_, by omega⟩
  rw [e1, e2, e3]
  generalize q * D / 7 = z at hd
  rw [w64 (n := (z : Int)) (by omega), w64 (by omega)]; omega
theorem FnDominance : laws_FnDominance.Pure := by
  intro l0 l1 _ _ hb0 _ _ _
  unfold laws_FnDominance.f
  rcases laws_big_ok l0 l1 with hbig | ⟨hbig, hl0, hl1⟩
  · exact ⟨0, by rw [hbig, obind, if_pos rfl]⟩
  simp only [hbig, obind, Bool.false_eq_true, if_false]
  obtain ⟨⟨a, b⟩, hd, ha, hb⟩ := draw_DominatesParted l0 (bytes_wf hb0)
  simp only at ha hb
  have hi := impl_DominatesParted_ev a b (by omega) (by omega)
  have hs := spec_DominatesParted_ev a b (by omega) (by omega)
  refine (Ev.bind hd (Ev.bind hi (Ev.bind hs ?_))).rounds
  simp only [bne_self_eq_false, Bool.false_eq_true, if_false]
  refine Ev.succ ?_
  simp only [laws_FnDominance.j0, Bool.false_eq_true, if_false]
  cases hp : (isP a && isP b) with
  | false => simp only [Bool.false_eq_true, if_false]; exact Ev.now _
  | true =>
    rw [Bool.and_eq_true] at hp
    obtain ⟨hpa, hpb⟩ := hp
    obtain ⟨a1, a2, a3, a4⟩ := isP_true hpa
    obtain ⟨b1, b2, b3, b4⟩ := isP_true hpb
    have hca := impl_ConjugateOf_ev a (by omega)
    have hcb := impl_ConjugateOf_ev b (by omega)
    rw [if_pos hpa] at hca
    rw [if_pos hpb] at hcb
    have qa := conj_isP hpa
    have qb := conj_isP hpb
    have hdc := impl_DominatesParted_ev (conjL b) (conjL a) (by have := (isP_true qb).2.1; omega) (by have := (isP_true qa).2.1; omega)
    rw [qa, qb, if_pos (by rfl), dom_conj hpa hpb] at hdc
    simp only [if_true]
    refine Ev.bind hca (Ev.bind hcb (Ev.bind hdc ?_))
    simp only [if_true, bne_self_eq_false]
    refine Ev.succ ?_
    simp only [laws_FnDominance.j1, Bool.false_eq_true, if_false]
    cases hdom : domP a b with
    | false => simp only [Bool.false_eq_true, if_false]; exact Ev.now _
    | true =>
      obtain ⟨e1, e2⟩ := (domP_iff (nonneg_of_isP hpa) (nonneg_of_isP hpb)).1 hdom
      have hn0 := sumL_nonneg (nonneg_of_isP hpa)
      obtain ⟨n, hn⟩ : ∃ n : Nat, sumL a = (n : Int) := ⟨(sumL a).toNat, by omega⟩
      have hnb : sumL b = (n : Int) := by omega
      have hra := impl_RankParted_ev a (by omega)
      have hrb := impl_RankParted_ev b (by omega)
      rw [if_pos hpa, hn, Int.toNat_natCast] at hra
      rw [if_pos hpb, hnb, Int.toNat_natCast] at hrb
      have hts := laws_tSum_ev a (fun x hx => by have := a4 x hx; omega) (by omega)
      rw [hn] at hts
      have hct := impl_CountParted_ev (n : Int) (n : Int)
      rw [if_pos (by rw [inB_yes (show 0 ≤ (n : Int) ∧ (n : Int) ≤ 20 by omega)]; rfl)] at hct
      simp only [Int.toNat_natCast] at hct
      have ra := parL_mono (m' := (n : Int)) (m := 20) (l := a)
      have pan : parL (n : Int) a = true := parL_sum a hpa hn
      have pbn : parL (n : Int) b = true := parL_sum b hpb hnb
      have hab := rk_dom a b n n (by omega) (by omega) pan pbn hn hnb e2
      have hbc := rkP_lt b n n (by omega) (by omega) pbn hnb
      rw [Nat.min_self] at hbc
      have hpc := pc_small (n := n) (x := n) (by omega) (by omega)
      have hq : ((l1.length : Int) % 7) = ((l1.length % 7 : Nat) : Int) := rfl
      obtain ⟨r, hr, hrc⟩ := far_rank (q := l1.length % 7) (by omega) hbc hpc
      have hw := impl_PartedWith_ev (n : Int) (r : Int)
      have hk : isPk (n : Int) (r : Int) = true := by
        unfold isPk; rw [inB_yes (by omega), Bool.true_and, Int.toNat_natCast, inB_yes (by omega)]
      rw [if_pos hk] at hw
      simp only [Int.toNat_natCast] at hw
      obtain ⟨hcs, hcp⟩ := unP_ok (n := n) (rank := r) (by omega) hrc
      have hcl := unP_len n n r
      have hbC := impl_DominatesParted_ev b (unP n n r) (by omega) (by omega)
      have haC := impl_DominatesParted_ev a (unP n n r) (by omega) (by omega)
      rw [hpb, hcp, if_pos (by rfl)] at hbC
      rw [hpa, hcp, if_pos (by rfl)] at haC
      simp only [if_true]
      refine Ev.bind hra (Ev.bind hrb (Ev.bind hts (Ev.bind hts (Ev.bind hct (Ev.bind hts ?_)))))
      simp only [hq, hr]
      refine Ev.bind hw (Ev.bind hbC (Ev.bind haC ?_))
      simp only [if_true, if_pos (show ((rkP n n a : Nat) : Int) ≤ ((rkP n n b : Nat) : Int) by omega)]
      cases hl : domP b (unP n n r) with
      | false => simp only [Bool.false_eq_true, if_false]; exact Ev.now _
      | true =>
        simp only [if_true]
        rw [dom_trans hpa hpb hcp hdom hl]
        exact Ev.now _

end Go.Proofs.Ytmcmglclgdgdnaa.Pure
