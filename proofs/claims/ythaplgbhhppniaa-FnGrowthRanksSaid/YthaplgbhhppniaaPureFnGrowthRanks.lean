/- Ranks of growths and growths of ranks undo each other, in lexicographic order, as many as are counted: for all rows of bytes that code and more may be. -/
import Derived.Test.YthaplgbhhppniaaHFnGrowthRanksx4
import Derived.Test.YthaplgbhhppniaaCoreA
import Derived.Test.YthaplgbhhppniaaCoreG
namespace Go.Proofs.Ythaplgbhhppniaa.Pure
open Go.RowKit Go.Proofs.Ythaplgbhhppniaa.HFnGrowthRanks Go.Proofs.YthaplgbhhppniaaW.PrintWords Go.Proofs.YthaplgbhhppniaaW.PrintLast Go.Proofs.YthaplgbhhppniaaW.PrintMore Go.Proofs.Ythaplgbhhppniaa.Core
set_option linter.unusedVariables false
set_option linter.unusedSimpArgs false

theorem laws_big_ok (a b : List Int) : laws_big.f a b = some true ∨ (laws_big.f a b = some false ∧ a.length ≤ 1048576 ∧ b.length ≤ 1048576) := by
  unfold laws_big.f
  by_cases h : (a.length : Int) > 1048576
  · rw [if_pos h]; exact .inl rfl
  · rw [if_neg h, w64 (by omega)]
    by_cases h2 : (b.length : Int) > 1048576 - (a.length : Int)
    · rw [decide_eq_true h2]; exact .inl rfl
    · rw [decide_eq_false h2]; exact .inr ⟨rfl, by omega, by omega⟩

theorem laws_tSame_loop (s : List Int) : ∀ (p : List Int) (n i : Int), n = ((p ++ s).length : Int) → i = (p.length : Int) → (p ++ s).length ≤ 1099511627776 →
    Ev (fun k => laws_tSame.l0 k (p ++ s) (p ++ s) n i) true := by
  induction s with
  | nil =>
    intro p n i hn hi hl
    refine Ev.done fun k => ?_
    simp only [laws_tSame.l0]
    rw [if_neg (by rw [len_nil] at hn; omega)]
  | cons x s ih =>
    intro p n i hn hi hl
    have h1 := len_mid p s x
    have := ih (p ++ [x]) n (i + 1) (by rw [← snoc_mid]; exact hn) (by rw [len_snoc]; omega) (by rw [← snoc_mid]; exact hl)
    rw [← snoc_mid] at this
    refine Ev.step' this fun k => ?_
    simp only [laws_tSame.l0]
    rw [if_pos (by omega), if_pos (by omega), if_pos (by omega), if_pos (by omega), if_pos trivial, w64 (by omega)]
theorem laws_tSame_self (l : List Int) (hl : l.length ≤ 1099511627776) : Ev (fun k => laws_tSame.f k l l) true := by
  unfold laws_tSame.f
  simp only [if_true]
  exact laws_tSame_loop l [] _ 0 (by simp) (by simp) (by simpa using hl)

theorem laws_tLess_loop (s : List Int) : ∀ (t p : List Int) (i : Int), i = (p.length : Int) → (p ++ s).length ≤ 1099511627776 → (p ++ t).length ≤ 1099511627776 →
    Ev (fun k => laws_tLess.l0 k (p ++ s) (p ++ t) i) (lexLt s t) := by
  induction s with
  | nil =>
    intro t p i hi hl hl2
    have c1 : ¬ i < (((p ++ ([] : List Int)).length : Nat) : Int) := by rw [len_nil]; omega
    refine Ev.succ ?_
    simp only [laws_tLess.l0, if_neg c1]
    refine Ev.done fun k => ?_
    simp only [laws_tLess.j1, Bool.false_eq_true, if_false]
    cases t with
    | nil => simp [lexLt]
    | cons y t => simp [lexLt]; omega
  | cons x s ih =>
    intro t p i hi hl hl2
    have h1 := len_mid p s x
    have c1 : i < (((p ++ x :: s).length : Nat) : Int) := by omega
    refine Ev.succ ?_
    simp only [laws_tLess.l0, if_pos c1]
    cases t with
    | nil =>
      have c2 : ¬ i < (((p ++ ([] : List Int)).length : Nat) : Int) := by rw [len_nil]; omega
      refine Ev.done fun k => ?_
      simp only [decide_eq_false c2, laws_tLess.j1, Bool.false_eq_true, if_false]
      simp [lexLt]; omega
    | cons y t =>
      have h2 := len_mid p t y
      have c2 : i < (((p ++ y :: t).length : Nat) : Int) := by omega
      have c3 : 0 ≤ i := by omega
      refine Ev.succ ?_
      simp only [decide_eq_true c2, laws_tLess.j1, if_true, if_pos c3, if_pos c1, if_pos c2, rd_mid (p := p) (s := s) (x := x) hi, rd_mid (p := p) (s := t) (x := y) hi]
      unfold lexLt
      by_cases e : x = y
      · subst e
        have := ih t (p ++ [x]) (i + 1) (by rw [len_snoc]; omega) (by rw [← snoc_mid]; exact hl) (by rw [← snoc_mid]; exact hl2)
        rw [← snoc_mid, ← snoc_mid] at this
        simp only [if_true, w64 (show -9223372036854775808 ≤ i + 1 ∧ i + 1 ≤ 9223372036854775807 by omega)]
        exact this
      · simp only [if_neg e]
        exact Ev.now _
theorem laws_tLess_ev (a b : List Int) (ha : a.length ≤ 1099511627776) (hb : b.length ≤ 1099511627776) : Ev (fun k => laws_tLess.f k a b) (lexLt a b) :=
  laws_tLess_loop a b [] 0 (by simp) (by simpa using ha) (by simpa using hb)

/-! ### the reader of draws: it tells a number always -/
theorem and255 (E : Int) (h0 : 0 ≤ E) (h1 : E ≤ 18446744073709551615) : 0 ≤ Go.bits .and .u64 E 255 ∧ Go.bits .and .u64 E 255 ≤ 255 := by
  have h := Go.bits_and_u64_nat E.toNat 255 (by omega) (by omega)
  rw [Int.toNat_of_nonneg h0] at h
  have h2 : E.toNat &&& 255 ≤ 255 := Nat.and_le_right
  have h3 : Go.bits .and .u64 E 255 = ((E.toNat &&& 255 : Nat) : Int) := h
  omega
theorem u64_in (n : Int) : 0 ≤ IntKind.u64.wrap n ∧ IntKind.u64.wrap n ≤ 18446744073709551615 := by
  have e : IntKind.u64.wrap n = n % 18446744073709551616 := rfl
  rw [e]; omega
theorem draw_in (n : Int) : 0 ≤ wrap64 (Go.bits .and .u64 (IntKind.u64.wrap n / 1099511627776) 255) ∧ wrap64 (Go.bits .and .u64 (IntKind.u64.wrap n / 1099511627776) 255) ≤ 255 := by
  have h := u64_in n
  have h2 := and255 (IntKind.u64.wrap n / 1099511627776) (by omega) (by omega)
  rw [w64 (by omega)]; exact h2
def Bytes (l : List Int) : Prop := ∀ x ∈ l, 0 ≤ x ∧ x ≤ 255
theorem bytes_wf {l : List Int} (h : ∀ x ∈ l, (Lit.int .u8 x).wf = true) : Bytes l := by
  intro x hx
  have h1 := h x hx
  unfold Lit.wf at h1
  rw [Bool.and_eq_true, decide_eq_true_iff, decide_eq_true_iff] at h1
  exact h1
def CurAt (m : Nat) (a : Int) : Prop := (0 ≤ a ∧ a ≤ (m : Int)) ∧ m ≤ 1152921504606846976
theorem CurAt.mono {m n : Nat} {a : Int} (h : CurAt m a) (hn : m ≤ n) (hm : n ≤ 1152921504606846976) : CurAt n a := by
  obtain ⟨⟨h1, h2⟩, h3⟩ := h
  exact ⟨⟨h1, by omega⟩, hm⟩
theorem cur_next {l : List Int} (hb : Bytes l) {m : Nat} {a : Int} (s : Int) (h : CurAt m a) (hm : m < 1152921504606846976) :
    ∃ b a' s', spec_l1Cur_next.f l a s = some (b, a', s') ∧ (0 ≤ b ∧ b ≤ 255) ∧ CurAt (m + 1) a' := by
  obtain ⟨⟨h1, h2⟩, _⟩ := h
  have e : wrap64 (a + 1) = a + 1 := w64 (by omega)
  unfold spec_l1Cur_next.f
  rw [e]
  by_cases c1 : a < (l.length : Int)
  · have hr := hb _ (rd_mem h1 c1)
    rw [if_pos c1, if_pos h1, w64 (n := rd l a) (by omega)]
    by_cases c2 : a + 1 ≤ (l.length : Int)
    · rw [if_pos c2]; exact ⟨_, _, _, rfl, hr, ⟨by omega, by omega⟩, by omega⟩
    · rw [if_neg c2]; exact ⟨_, _, _, rfl, draw_in _, ⟨by omega, by omega⟩, by omega⟩
  · rw [if_neg c1]
    by_cases c2 : a + 1 ≤ (l.length : Int)
    · rw [if_pos c2]; exact ⟨_, _, _, rfl, ⟨by omega, by omega⟩, ⟨by omega, by omega⟩, by omega⟩
    · rw [if_neg c2]; exact ⟨_, _, _, rfl, draw_in _, ⟨by omega, by omega⟩, by omega⟩
theorem tmod_in {b n : Int} (hb : 0 ≤ b) (hn : 1 < n) : 0 ≤ Int.tmod b n ∧ Int.tmod b n < n := by
  obtain ⟨c, rfl⟩ : ∃ c : Nat, b = (c : Int) := ⟨b.toNat, by omega⟩
  obtain ⟨k, rfl⟩ : ∃ k : Nat, n = (k : Int) := ⟨n.toNat, by omega⟩
  have e : Int.tmod (c : Int) (k : Int) = ((c % k : Nat) : Int) := rfl
  have := Nat.mod_lt c (show 0 < k by omega)
  rw [e]; omega
theorem cur_pick {l : List Int} (hb : Bytes l) {m : Nat} {a : Int} (s n : Int) (h : CurAt m a) (hm : m + 2 ≤ 1152921504606846976) :
    ∃ x a' s', spec_l1Cur_pick.f l a s n = some (x, a', s') ∧ (0 ≤ x ∧ x ≤ max (n - 1) 0) ∧ CurAt (m + 2) a' := by
  unfold spec_l1Cur_pick.f
  by_cases c1 : n ≤ 1
  · rw [if_pos c1]; exact ⟨_, _, _, rfl, ⟨by omega, by omega⟩, h.mono (by omega) (by omega)⟩
  · rw [if_neg c1]
    obtain ⟨b, a1, s1, h1, h2, h3⟩ := cur_next hb s h (by omega)
    rw [h1, obind]
    simp only
    have c0 : ¬ n = 0 := by omega
    by_cases c2 : n > 200
    · rw [if_pos c2]
      obtain ⟨b2, a2, s2, h4, h5, h6⟩ := cur_next hb s1 h3 (by omega)
      rw [h4, obind, if_neg c0]
      simp only
      rw [w64 (n := b * 256) (by omega), w64 (n := b * 256 + b2) (by omega)]
      have := tmod_in (b := b * 256 + b2) (n := n) (by omega) (by omega)
      exact ⟨_, _, _, rfl, ⟨by omega, by omega⟩, h6⟩
    · rw [if_neg c2, if_neg c0]
      have := tmod_in (b := b) (n := n) (by omega) (by omega)
      exact ⟨_, _, _, rfl, ⟨by omega, by omega⟩, h3.mono (by omega) (by omega)⟩
theorem cur_one {l : List Int} (hb : Bytes l) {m : Nat} {a : Int} (s n : Int) (h : CurAt m a) (hm : m + 2 ≤ 1152921504606846976) :
    ∃ x a' s', spec_l1Cur_one.f l a s n = some (x, a', s') ∧ CurAt (m + 2) a' := by
  unfold spec_l1Cur_one.f
  obtain ⟨b, a1, s1, h1, h2, h3⟩ := cur_pick hb s n h hm
  rw [h1, obind]
  exact ⟨_, _, _, rfl, h3⟩

theorem cur_among {l : List Int} (hb : Bytes l) {m : Nat} {a : Int} (s : Int) (L : List Int) (hL : 0 < L.length) (h : CurAt m a) (hm : m + 2 ≤ 1152921504606846976) :
    ∃ x a' s', spec_l1Cur_among.f l a s L = some (x, a', s') ∧ x ∈ L ∧ CurAt (m + 2) a' := by
  unfold spec_l1Cur_among.f
  obtain ⟨b, a1, s1, h1, h2, h3⟩ := cur_pick hb s (L.length : Int) h hm
  rw [h1, obind]
  simp only
  have c1 : b < (L.length : Int) := by omega
  rw [if_pos h2.1, if_pos c1]
  exact ⟨_, _, _, rfl, rd_mem h2.1 c1, h3⟩

theorem cur_counted9 {l : List Int} (hb : Bytes l) {m : Nat} {a : Int} (s : Int) (h : CurAt m a) (hm : m + 4 ≤ 1152921504606846976) :
    ∃ x a' s', spec_l1Cur_counted9.f l a s = some (x, a', s') ∧ (-1 ≤ x ∧ x ≤ 13) ∧ CurAt (m + 4) a' := by
  unfold spec_l1Cur_counted9.f
  obtain ⟨b, a1, s1, h1, h2⟩ := cur_one hb s 6 h (by omega)
  rw [h1, obind]
  cases b with
  | true =>
    simp only [if_true]
    obtain ⟨x, a2, s2, h3, h4, h5⟩ := cur_among hb s1 [(-1), 0, 1, 12, 13] (by decide) h2 (by omega)
    rw [h3, obind]
    simp only [List.mem_cons, List.not_mem_nil, or_false] at h4
    exact ⟨_, _, _, rfl, by omega, h5⟩
  | false =>
    simp only [Bool.false_eq_true, if_false]
    obtain ⟨x, a2, s2, h3, h4, h5⟩ := cur_pick hb s1 8 h2 (by omega)
    rw [h3, obind]
    exact ⟨_, _, _, rfl, by omega, h5⟩
theorem cur_rank9 {l : List Int} (hb : Bytes l) {m : Nat} {a : Int} (s n : Int) (hn : 0 ≤ n ∧ n ≤ 1099511627776) (h : CurAt m a) (hm : m + 4 ≤ 1152921504606846976) :
    ∃ x a' s', spec_l1Cur_rank9.f l a s n = some (x, a', s') ∧ (-1 ≤ x ∧ x ≤ n) ∧ CurAt (m + 4) a' := by
  unfold spec_l1Cur_rank9.f
  obtain ⟨b, a1, s1, h1, h2⟩ := cur_one hb s 6 h (by omega)
  rw [h1, obind, w64 (n := n - 1) (by omega)]
  cases b with
  | true =>
    simp only [if_true]
    obtain ⟨x, a2, s2, h3, h4, h5⟩ := cur_among hb s1 [(-1), 0, n - 1, n] (by simp) h2 (by omega)
    rw [h3, obind]
    simp only [List.mem_cons, List.not_mem_nil, or_false] at h4
    exact ⟨_, _, _, rfl, by omega, h5⟩
  | false =>
    simp only [Bool.false_eq_true, if_false]
    obtain ⟨x, a2, s2, h3, h4, h5⟩ := cur_pick hb s1 n h2 (by omega)
    rw [h3, obind]
    exact ⟨_, _, _, rfl, by omega, h5⟩

theorem spec_l1In_eq (a b c : Int) : spec_l1In.f a b c = some (inB a b c) := inB_ite a b c

theorem spec_l1Least_eq (a b : Int) : spec_l1Least.f a b = some (min a b) := least_min a b

theorem spec_l1Most_eq (a b : Int) : spec_l1Most.f a b = some (max a b) := most_max a b

theorem spec_spTop_loop (s : List Int) : ∀ (p : List Int) (m n i : Int), n = ((p ++ s).length : Int) → i = (p.length : Int) → (p ++ s).length ≤ 1099511627776 →
    Ev (fun k => spec_spTop.l0 k m (p ++ s) n i) (s.foldl max m) := by
  induction s with
  | nil =>
    intro p m n i hn hi hl
    refine Ev.to (Ev.done fun k => ?_) (show m = _ by simp)
    simp only [spec_spTop.l0]
    rw [if_neg (by rw [len_nil] at hn; omega)]
  | cons x s ih =>
    intro p m n i hn hi hl
    have h1 := len_mid p s x
    have := ih (p ++ [x]) (max m x) n (i + 1) (by rw [← snoc_mid]; exact hn) (by rw [len_snoc]; omega) (by rw [← snoc_mid]; exact hl)
    rw [← snoc_mid] at this
    refine Ev.to (Ev.step' this fun k => ?_) (by simp)
    simp only [spec_spTop.l0]
    rw [if_pos (by omega), if_pos (by omega), if_pos (by omega), rd_mid hi, spec_l1Most_eq, w64 (by omega)]
    rfl
theorem spec_spTop_ev (l : List Int) (hl : l.length ≤ 1099511627776) : Ev (fun k => spec_spTop.f k l) (l.foldl max (-1)) :=
  spec_spTop_loop l [] (-1) _ 0 rfl (by simp) (by simpa using hl)

set_option maxRecDepth 100000 in
theorem spec_spEnds_small : ∀ k : Nat, k < 14 → ∀ r : Nat, k + r < 14 → spec_spEnds.f 16 (k : Int) (r : Int) = some ((gc r k : Nat) : Int) := by
  intro k hk r hr
  have key : ∀ k : Nat, k < 14 → ∀ r : Nat, r < 14 → k + r < 14 → spec_spEnds.f 16 (k : Int) (r : Int) = some ((gc r k : Nat) : Int) := by decide +kernel
  exact key k hk r (by omega) hr
theorem spec_spEnds_ev (k r : Nat) (h : k + r < 14) : Ev (fun n => spec_spEnds.f n (k : Int) (r : Int)) ((gc r k : Nat) : Int) :=
  Ev.of (g := fun n => spec_spEnds.f n (k : Int) (r : Int)) (spec_spEnds.mono _ _) (spec_spEnds_small k (by omega) r h)

theorem impl_within_eq (a b c : Int) : impl_within.f a b c = some (inB a b c) := inB_ite a b c

set_option maxRecDepth 100000 in
theorem impl_goings_small : ∀ k : Nat, k < 14 → ∀ r : Nat, k + r < 14 → impl_goings.f 400 (k : Int) (r : Int) = some ((gc r k : Nat) : Int) := by
  intro k hk r hr
  have key : ∀ k : Nat, k < 14 → ∀ r : Nat, r < 14 → k + r < 14 → impl_goings.f 400 (k : Int) (r : Int) = some ((gc r k : Nat) : Int) := by decide +kernel
  exact key k hk r (by omega) hr
theorem impl_goings_ev (k r : Nat) (h : k + r < 14) : Ev (fun n => impl_goings.f n (k : Int) (r : Int)) ((gc r k : Nat) : Int) :=
  Ev.of (g := fun n => impl_goings.f n (k : Int) (r : Int)) (impl_goings.mono _ _) (impl_goings_small k (by omega) r h)

set_option maxRecDepth 100000 in
theorem gc_small : ∀ k : Nat, k < 14 → ∀ r : Nat, k + r < 14 → gc r k ≤ 27644437 := by
  intro k hk r hr
  have key : ∀ k : Nat, k < 14 → ∀ r : Nat, r < 14 → k + r < 14 → gc r k ≤ 27644437 := by decide +kernel
  exact key k hk r (by omega) hr

theorem impl_GrowthWith_loop (n : Nat) (hn : n ≤ 12) (r : Nat) : ∀ (k rank : Nat) (out : List Int), out.length + r = n → k ≤ out.length → rank ≤ 1099511627776 →
    Ev (fun f => impl_GrowthWith.l0 f (n : Int) (rank : Int) out (k : Int) (n : Int) (out.length : Int)) (out ++ unr r k rank, true) := by
  induction r with
  | zero =>
    intro k rank out h1 h2 h3
    refine Ev.to (Ev.done fun f => ?_) (show (out, true) = _ by simp [unr])
    simp only [impl_GrowthWith.l0]
    rw [if_neg (by omega)]
  | succ r ih =>
    intro k rank out h1 h2 h3
    have hg := gc_pos r k
    have hgb := gc_small k (by omega) r (by omega)
    have hle := @step_le r k rank
    have hmk : min k (rank / gc r k) ≤ k := Nat.min_le_left _ _
    have hdiv : rank / gc r k ≤ rank := Nat.div_le_self _ _
    have hq0 := Int.natCast_nonneg (rank / gc r k)
    have e1 := i_last (n := n) (i := out.length) (r := r) h1 (by omega)
    have e2 := i_div (rank := rank) (g := gc r k) h3
    have e3 := i_mn k (rank / gc r k)
    have e4 := i_mul (min k (rank / gc r k)) (gc r k)
    have e5 := i_sub hle h3
    have e6 := i_max (k := k) (x := min k (rank / gc r k)) (by omega)
    have e7 := i_succ (out := out) (x := ((min k (rank / gc r k) : Nat) : Int)) (by omega)
    have := ih (max k (min k (rank / gc r k) + 1)) (rank - min k (rank / gc r k) * gc r k) (out ++ [((min k (rank / gc r k) : Nat) : Int)]) (by simp; omega) (by rw [List.length_append, List.length_singleton]; exact Nat.max_le.2 ⟨by omega, by omega⟩) (Nat.le_trans (Nat.sub_le _ _) h3)
    refine Ev.succ ?_
    simp only [impl_GrowthWith.l0]
    simp only [if_pos (show (out.length : Int) < (n : Int) by omega), e1]
    refine Ev.bind (impl_goings_ev k r (by omega)) ?_
    simp only [if_neg (show ¬ ((gc r k : Nat) : Int) = 0 by omega)]
    refine Ev.bind (impl_goings_ev k r (by omega)) ?_
    simp only [if_pos (show out.length < 17592186044416 by omega), e2, e3, e4, e5, e6, e7]
    refine Ev.to this ?_
    simp [unr]
/-- Ranks that there are. -/
def isRk (n rank : Int) : Bool := inB n 1 12 && inB rank 0 ((gc n.toNat 0 : Nat) - 1)
theorem impl_GrowthWith_ev (n rank : Int) : Ev (fun f => impl_GrowthWith.f f n rank) (if isRk n rank = true then (unr n.toNat 0 rank.toNat, true) else ([], false)) := by
  unfold isRk impl_GrowthWith.f
  by_cases hn : 1 ≤ n ∧ n ≤ 12
  · obtain ⟨m, rfl⟩ : ∃ m : Nat, n = (m : Int) := ⟨n.toNat, by omega⟩
    have hgb := gc_small 0 (by omega) m (by omega)
    have hg := gc_pos m 0
    simp only [impl_within_eq, inB_yes hn, obind, if_true, Bool.true_and, Int.toNat_natCast]
    refine Ev.bind (impl_goings_ev 0 m (by omega)) ?_
    simp only [w64 (show -9223372036854775808 ≤ ((gc m 0 : Nat) : Int) - 1 ∧ ((gc m 0 : Nat) : Int) - 1 ≤ 9223372036854775807 by omega)]
    refine Ev.succ ?_
    simp only [impl_GrowthWith.j0]
    by_cases hr : 0 ≤ rank ∧ rank ≤ ((gc m 0 : Nat) : Int) - 1
    · obtain ⟨q, rfl⟩ : ∃ q : Nat, rank = (q : Int) := ⟨rank.toNat, by omega⟩
      simp only [inB_yes hr, Bool.not_true, Bool.false_eq_true, if_false, if_true, Int.toNat_natCast]
      exact impl_GrowthWith_loop m (by omega) m 0 q [] (by simp) (by simp) (by omega)
    · simp only [inB_no hr, Bool.not_false, if_true, Bool.false_eq_true, if_false]
      exact Ev.now _
  · simp only [impl_within_eq, inB_no hn, obind, Bool.false_and, Bool.false_eq_true, if_false]
    refine Ev.succ ?_
    simp only [impl_GrowthWith.j0, if_true]
    exact Ev.now _

theorem spec_GrowthWith_loop (n : Nat) (hn : n ≤ 12) (r : Nat) : ∀ (k rank : Nat) (out : List Int), out.length + r = n → k ≤ out.length → out.foldl max (-1) = (k : Int) - 1 → rank ≤ 1099511627776 →
    Ev (fun f => spec_GrowthWith.l0 f (n : Int) (rank : Int) out (out.length : Int)) (out ++ unr r k rank, true) := by
  induction r with
  | zero =>
    intro k rank out h1 h2 ht h3
    refine Ev.to (Ev.done fun f => ?_) (show (out, true) = _ by simp [unr])
    simp only [spec_GrowthWith.l0]
    rw [if_neg (by omega)]
  | succ r ih =>
    intro k rank out h1 h2 ht h3
    have hg := gc_pos r k
    have hgb := gc_small k (by omega) r (by omega)
    have hle := @step_le r k rank
    have hmk : min k (rank / gc r k) ≤ k := Nat.min_le_left _ _
    have hdiv : rank / gc r k ≤ rank := Nat.div_le_self _ _
    have hq0 := Int.natCast_nonneg (rank / gc r k)
    have e0 : wrap64 ((k : Int) - 1 + 1) = (k : Int) := by rw [w64 (by omega)]; omega
    have e1 := i_last (n := n) (i := out.length) (r := r) h1 (by omega)
    have e2 := i_div (rank := rank) (g := gc r k) h3
    have e3 : min ((rank / gc r k : Nat) : Int) (k : Int) = ((min k (rank / gc r k) : Nat) : Int) := by rw [i_min, Nat.min_comm]
    have e4 := i_mul (min k (rank / gc r k)) (gc r k)
    have e5 := i_sub hle h3
    have e6 : max ((k : Int) - 1) ((min k (rank / gc r k) : Nat) : Int) = ((max k (min k (rank / gc r k) + 1) : Nat) : Int) - 1 := by
      generalize min k (rank / gc r k) = x
      omega
    have e7 := i_succ (out := out) (x := ((min k (rank / gc r k) : Nat) : Int)) (by omega)
    have := ih (max k (min k (rank / gc r k) + 1)) (rank - min k (rank / gc r k) * gc r k) (out ++ [((min k (rank / gc r k) : Nat) : Int)]) (by simp; omega) (by rw [List.length_append, List.length_singleton]; exact Nat.max_le.2 ⟨by omega, by omega⟩) (by rw [List.foldl_append, ht]; exact e6) (Nat.le_trans (Nat.sub_le _ _) h3)
    refine Ev.succ ?_
    simp only [spec_GrowthWith.l0]
    simp only [if_pos (show (out.length : Int) < (n : Int) by omega)]
    refine Ev.bind (spec_spTop_ev out (by omega)) ?_
    simp only [ht, e0, e1]
    refine Ev.bind (spec_spEnds_ev k r (by omega)) ?_
    simp only [if_neg (show ¬ ((gc r k : Nat) : Int) = 0 by omega), e2, spec_l1Least_eq, obind, e3, e4, e5, e7, if_pos (show out.length < 17592186044416 by omega)]
    refine Ev.to this ?_
    simp [unr]
theorem spec_GrowthWith_ev (n rank : Int) : Ev (fun f => spec_GrowthWith.f f n rank) (if isRk n rank = true then (unr n.toNat 0 rank.toNat, true) else ([], false)) := by
  unfold isRk spec_GrowthWith.f
  by_cases hn : 1 ≤ n ∧ n ≤ 12
  · obtain ⟨m, rfl⟩ : ∃ m : Nat, n = ((m + 1 : Nat) : Int) := ⟨n.toNat - 1, by omega⟩
    have hgb := gc_small 0 (by omega) (m + 1) (by omega)
    have hg := gc_pos (m + 1) 0
    have hz : gc (m + 1) 0 = gc m 1 := gc_zero m
    have e1 : wrap64 (((m + 1 : Nat) : Int) - 1) = (m : Int) := by rw [w64 (by omega)]; omega
    simp only [spec_l1In_eq, inB_yes hn, obind, if_true, Bool.true_and, Int.toNat_natCast, e1]
    refine Ev.bind (spec_spEnds_ev 1 m (by omega)) ?_
    rw [← hz]
    simp only [w64 (show -9223372036854775808 ≤ ((gc (m + 1) 0 : Nat) : Int) - 1 ∧ ((gc (m + 1) 0 : Nat) : Int) - 1 ≤ 9223372036854775807 by omega)]
    refine Ev.succ ?_
    simp only [spec_GrowthWith.j0]
    by_cases hr : 0 ≤ rank ∧ rank ≤ ((gc (m + 1) 0 : Nat) : Int) - 1
    · obtain ⟨q, rfl⟩ : ∃ q : Nat, rank = (q : Int) := ⟨rank.toNat, by omega⟩
      simp only [inB_yes hr, Bool.not_true, Bool.false_eq_true, if_false, if_true, Int.toNat_natCast]
      rw [unr_zero]
      exact spec_GrowthWith_loop (m + 1) (by omega) m 1 q [0] (by simp; omega) (by simp) (by decide) (by omega)
    · simp only [inB_no hr, Bool.not_false, if_true, Bool.false_eq_true, if_false]
      exact Ev.now _
  · simp only [spec_l1In_eq, inB_no hn, obind, Bool.false_and, Bool.false_eq_true, if_false]
    refine Ev.succ ?_
    simp only [spec_GrowthWith.j0, if_true]
    exact Ev.now _

theorem impl_CountGrowths_ev (n : Int) : Ev (fun k => impl_CountGrowths.f k n) (if inB n 1 12 = true then (((gc n.toNat 0 : Nat) : Int), true) else (0, false)) := by
  unfold impl_CountGrowths.f
  simp only [impl_within_eq, obind]
  cases h : inB n 1 12 with
  | false => simp only [Bool.false_eq_true, if_false]; exact Ev.now _
  | true =>
    have h1 := inB_true.1 h
    obtain ⟨m, rfl⟩ : ∃ m : Nat, n = (m : Int) := ⟨n.toNat, by omega⟩
    simp only [if_true]
    refine Ev.bind (impl_goings_ev 0 m (by omega)) ?_
    exact Ev.now _
theorem spec_CountGrowths_ev (n : Int) : Ev (fun k => spec_CountGrowths.f k n) (if inB n 1 12 = true then (((gc n.toNat 0 : Nat) : Int), true) else (0, false)) := by
  unfold spec_CountGrowths.f
  simp only [spec_l1In_eq, obind]
  cases h : inB n 1 12 with
  | false => simp only [Bool.false_eq_true, if_false]; exact Ev.now _
  | true =>
    have h1 := inB_true.1 h
    obtain ⟨m, rfl⟩ : ∃ m : Nat, n = ((m + 1 : Nat) : Int) := ⟨(n - 1).toNat, by omega⟩
    have e : wrap64 (((m + 1 : Nat) : Int) - 1) = (m : Int) := by rw [w64 (by omega)]; omega
    simp only [if_true, e, Int.toNat_natCast, gc_zero]
    refine Ev.bind (spec_spEnds_ev 1 m (by omega)) ?_
    exact Ev.now _

theorem impl_IsGrowth_loop (l : List Int) (s : List Int) : ∀ (p : List Int) (m n i : Int), -1 ≤ m → m + 1 ≤ p.length → n = ((p ++ s).length : Int) → i = (p.length : Int) → (p ++ s).length ≤ 1099511627776 →
    Ev (fun k => impl_IsGrowth.l0 k l m (p ++ s) n i) (growW m s && inB l.length 1 12) := by
  induction s with
  | nil =>
    intro p m n i hm hm' hn hi hl
    refine Ev.to (Ev.done fun k => ?_) (show inB l.length 1 12 = _ by unfold growW; simp)
    simp only [impl_IsGrowth.l0]
    rw [if_neg (by rw [len_nil] at hn; omega), impl_within_eq]
    rfl
  | cons x s ih =>
    intro p m n i hm hm' hn hi hl
    have h1 := len_mid p s x
    unfold growW
    cases hb : inB x 0 (m + 1) with
    | false =>
      refine Ev.to (Ev.done fun k => ?_) (show false = _ by simp)
      simp only [impl_IsGrowth.l0]
      rw [if_pos (by omega), if_pos (by omega), if_pos (by omega), rd_mid hi, w64 (n := m + 1) (by omega), impl_within_eq, hb]
      rfl
    | true =>
      have hx := inB_true.1 hb
      have := ih (p ++ [x]) (max m x) n (i + 1) (by omega) (by rw [len_snoc]; omega) (by rw [← snoc_mid]; exact hn) (by rw [len_snoc]; omega) (by rw [← snoc_mid]; exact hl)
      rw [← snoc_mid] at this
      refine Ev.to (Ev.step' this fun k => ?_) (by simp)
      simp only [impl_IsGrowth.l0]
      rw [if_pos (by omega), if_pos (by omega), if_pos (by omega), rd_mid hi, w64 (n := m + 1) (by omega), impl_within_eq, hb]
      simp only [obind, if_true, mx_max]
      rw [w64 (n := i + 1) (by omega)]
theorem impl_IsGrowth_ev (l : List Int) (hl : l.length ≤ 1099511627776) : Ev (fun k => impl_IsGrowth.f k l) (isG l) :=
  impl_IsGrowth_loop l l [] (-1) _ 0 (by omega) (by simp) rfl (by simp) (by simpa using hl)

theorem impl_RankGrowth_loop (a : List Int) (ha : a.length ≤ 12) (s : List Int) : ∀ (p : List Int) (k rank : Nat), p ++ s = a → growW ((k : Int) - 1) s = true → k ≤ p.length → rank + gc s.length k ≤ 1099511627776 →
    Ev (fun f => impl_RankGrowth.l0 f a (rank : Int) (k : Int) a (a.length : Int) (p.length : Int)) (((rank + rkG k s : Nat) : Int), true) := by
  induction s with
  | nil =>
    intro p k rank h1 h2 h3 h4
    refine Ev.to (Ev.done fun f => ?_) (show (((rank : Nat) : Int), true) = _ by simp [rkG])
    have : a.length = p.length := by rw [← h1]; simp
    simp only [impl_RankGrowth.l0]
    rw [if_neg (by omega)]
  | cons x s ih =>
    intro p k rank h1 h2 h3 h4
    obtain ⟨hx, h2'⟩ := growW_next h2
    have hlen : a.length = p.length + s.length + 1 := by rw [← h1]; simp; omega
    have hgb := gc_small k (by omega) s.length (by omega)
    have hst := @rk_step s.length k x.toNat (by omega)
    have hlc : (x :: s).length = s.length + 1 := rfl
    rw [hlc] at h4
    have e0 : rd a (p.length : Int) = x := by rw [← h1]; exact rd_mid rfl
    have e1 := i_last (n := a.length) (i := p.length) (r := s.length) (by omega) (by omega)
    have e2 : x * ((gc s.length k : Nat) : Int) = ((x.toNat * gc s.length k : Nat) : Int) := by
      rw [← i_mul, Int.toNat_of_nonneg hx.1]
    have e3 := i_add (rank := rank) (P := x.toNat * gc s.length k) (Nat.le_trans (Nat.le_trans (Nat.le_add_right _ _) hst) (Nat.le_trans (Nat.le_add_left _ _) h4)) (Nat.le_trans (Nat.le_add_right _ _) h4)
    have e4 : mx (k : Int) (wrap64 (x + 1)) = ((max k (x.toNat + 1) : Nat) : Int) := by
      rw [← i_max (by omega), Int.toNat_of_nonneg hx.1]
    have e5 := i_succ (out := p) (x := x) (by omega)
    have := ih (p ++ [x]) (max k (x.toNat + 1)) (rank + x.toNat * gc s.length k) (by rw [← snoc_mid]; exact h1) h2' (by rw [List.length_append, List.length_singleton]; exact Nat.max_le.2 ⟨by omega, by omega⟩) (Nat.le_trans (by rw [Nat.add_assoc]; exact Nat.add_le_add_left hst _) h4)
    refine Ev.succ ?_
    simp only [impl_RankGrowth.l0]
    simp only [if_pos (show (p.length : Int) < (a.length : Int) by omega), if_pos (show 0 ≤ (p.length : Int) by omega), e0, e1]
    refine Ev.bind (impl_goings_ev k s.length (by omega)) ?_
    simp only [e2, e3, e4, e5]
    refine Ev.to this ?_
    simp only [rkG]
    rw [Nat.add_assoc]
theorem impl_RankGrowth_ev (l : List Int) (hl : l.length ≤ 1099511627776) : Ev (fun f => impl_RankGrowth.f f l) (if isG l = true then ((rkG 0 l : Int), true) else (0, false)) := by
  unfold impl_RankGrowth.f
  refine Ev.bind (impl_IsGrowth_ev l hl) ?_
  by_cases h : isG l = true
  · obtain ⟨h1, h2, h3⟩ := isG_true h
    have hgb := gc_small 0 (by omega) l.length (by omega)
    simp only [h, if_true]
    refine Ev.to (impl_RankGrowth_loop l h3 l [] 0 0 rfl h1 (by simp) (by omega)) ?_
    simp
  · simp only [if_neg h]
    exact Ev.now _

theorem draw_GrowthWith (l : List Int) (hb : Bytes l) : ∃ n rank, Ev (fun k => spec_DrawGrowthWith.f k l) (n, rank) ∧ (-1 ≤ n ∧ n ≤ 13) ∧ (-1 ≤ rank ∧ rank ≤ 1099511627776) := by
  unfold spec_DrawGrowthWith.f
  obtain ⟨n, a1, s1, h1, h2, h3⟩ := cur_counted9 hb 0 (show CurAt 0 0 from ⟨by omega, by omega⟩) (by omega)
  simp only [h1, obind, spec_l1In_eq]
  cases h : inB n 1 12 with
  | false =>
    simp only [Bool.false_eq_true, if_false]
    obtain ⟨x, a2, s2, h4, h5, h6⟩ := cur_pick hb s1 3 h3 (by omega)
    simp only [h4, obind]
    exact ⟨_, _, Ev.now _, h2, by omega⟩
  | true =>
    have hn := inB_true.1 h
    obtain ⟨m, rfl⟩ : ∃ m : Nat, n = ((m + 1 : Nat) : Int) := ⟨(n - 1).toNat, by omega⟩
    have e : wrap64 (((m + 1 : Nat) : Int) - 1) = (m : Int) := by rw [w64 (by omega)]; omega
    have hg := gc_small 1 (by omega) m (by omega)
    obtain ⟨x, a2, s2, h4, h5, h6⟩ := cur_rank9 hb s1 ((gc m 1 : Nat) : Int) (by omega) h3 (by omega)
    refine ⟨_, x, ?_, h2, by omega⟩
    simp only [if_true, e]
    refine Ev.bind (spec_spEnds_ev 1 m (by omega)) ?_
    simp only [h4, obind]
    exact Ev.now _
theorem FnGrowthRanks : laws_FnGrowthRanks.Pure := by
  intro l0 l1 _ _ hb0 _ _ _
  unfold laws_FnGrowthRanks.f
  rcases laws_big_ok l0 l1 with hbig | ⟨hbig, hl0, hl1⟩
  · exact ⟨0, by rw [hbig, obind, if_pos rfl]⟩
  simp only [hbig, obind, Bool.false_eq_true, if_false]
  obtain ⟨n, rank, hd, hn, hr⟩ := draw_GrowthWith l0 (bytes_wf hb0)
  have hi := impl_GrowthWith_ev n rank
  have hs := spec_GrowthWith_ev n rank
  have hci := impl_CountGrowths_ev n
  have hcs := spec_CountGrowths_ev n
  refine (Ev.bind hd (Ev.bind hi (Ev.bind hs ?_))).rounds
  have hlen : (if isRk n rank = true then (unr n.toNat 0 rank.toNat, true) else ([], false) : List Int × Bool).1.length ≤ 100 := by
    split
    · show (unr _ _ _).length ≤ 100
      rw [unr_len]; omega
    · simp
  simp only [bne_self_eq_false, Bool.false_eq_true, if_false]
  refine Ev.bind (laws_tSame_self _ (by omega)) ?_
  refine Ev.succ ?_
  simp only [laws_FnGrowthRanks.j0, Bool.not_true, Bool.false_eq_true, if_false]
  refine Ev.bind hci (Ev.bind hcs ?_)
  simp only [bne_self_eq_false, Bool.false_eq_true, if_false, if_true]
  cases hc : inB n 1 12 with
  | false =>
    have e : isRk n rank = false := by unfold isRk; rw [hc, Bool.false_and]
    simp only [e, Bool.false_eq_true, if_false, bne_self_eq_false]
    refine Ev.done fun k => ?_
    simp only [laws_FnGrowthRanks.j1, Bool.false_eq_true, if_false]
  | true =>
    have hn := inB_true.1 hc
    obtain ⟨m, rfl⟩ : ∃ m : Nat, n = (m : Int) := ⟨n.toNat, by omega⟩
    have hg := gc_small 0 (by omega) m (by omega)
    simp only [if_true, Int.toNat_natCast]
    by_cases h0 : rank ≥ 0
    · simp only [if_pos h0]
      obtain ⟨r, rfl⟩ : ∃ r : Nat, rank = (r : Int) := ⟨rank.toNat, by omega⟩
      have e : isRk (m : Int) (r : Int) = decide ((r : Int) < ((gc m 0 : Nat) : Int)) := by
        unfold isRk; rw [hc, Bool.true_and, Int.toNat_natCast, Bool.eq_iff_iff, inB_true, decide_eq_true_iff]; omega
      have e1 : isRk (m : Int) ((r : Int) + 1) = decide ((r : Int) + 1 < ((gc m 0 : Nat) : Int)) := by
        unfold isRk; rw [hc, Bool.true_and, Int.toNat_natCast, Bool.eq_iff_iff, inB_true, decide_eq_true_iff]; omega
      rw [← e]
      cases hk : isRk (m : Int) (r : Int) with
      | false =>
        simp only [Bool.false_eq_true, if_false, bne_self_eq_false]
        refine Ev.done fun k => ?_
        simp only [laws_FnGrowthRanks.j1, Bool.false_eq_true, if_false]
      | true =>
        simp only [if_true, bne_self_eq_false, Int.toNat_natCast]
        rw [hk] at e
        have hlt : r < gc m 0 := by have := of_decide_eq_true e.symm; omega
        have hG : isG (unr m 0 r) = true := by
          unfold isG
          rw [unr_len, inB_yes (by omega), Bool.and_true]
          have := unr_grow m 0 r
          exact this
        have hrk := impl_RankGrowth_ev (unr m 0 r) (by rw [unr_len]; omega)
        rw [if_pos hG, rk_unr m 0 r hlt] at hrk
        have hiG := impl_IsGrowth_ev (unr m 0 r) (by rw [unr_len]; omega)
        rw [hG] at hiG
        have hi2 := impl_GrowthWith_ev (m : Int) ((r : Int) + 1)
        rw [e1] at hi2
        refine Ev.succ ?_
        simp only [laws_FnGrowthRanks.j1, Bool.false_eq_true, if_false, if_true]
        rw [show wrap64 ((r : Int) + 1) = (r : Int) + 1 from w64 (by omega)]
        refine Ev.bind hrk (Ev.bind hi2 ?_)
        simp only [if_true]
        refine Ev.bind hiG ?_
        simp only [if_true]
        by_cases hx : (r : Int) + 1 < ((gc m 0 : Nat) : Int)
        · simp only [decide_eq_true hx, if_true, beq_self_eq_true]
          have er : ((r : Int) + 1).toNat = r + 1 := by omega
          rw [er, Int.toNat_natCast]
          refine Ev.bind (laws_tLess_ev _ _ (by rw [unr_len]; omega) (by rw [unr_len]; omega)) ?_
          rw [unr_lt m 0 r (r + 1) (by omega) (by omega)]
          exact Ev.now _
        · simp only [decide_eq_false hx, Bool.false_eq_true, if_false, beq_self_eq_true, if_true]
          exact Ev.now _
    · have e : isRk (m : Int) rank = false := by
        unfold isRk; rw [inB_no (b := 0) (by omega), Bool.and_false]
      simp only [if_neg h0, e, Bool.false_eq_true, if_false, bne_self_eq_false]
      refine Ev.done fun k => ?_
      simp only [laws_FnGrowthRanks.j1, Bool.false_eq_true, if_false]

end Go.Proofs.Ythaplgbhhppniaa.Pure
