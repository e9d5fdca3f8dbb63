/- Parted numbers are listed by rank from the greatest one down, counted, and their conjugates undo each other: for all rows of bytes that code and more may be. -/
import Derived.Test.YthaplgbhhppniaaHFnPartedNumbersx6
import Derived.Test.YthaplgbhhppniaaCoreA
import Derived.Test.YthaplgbhhppniaaCoreP
import Derived.Test.YthaplgbhhppniaaCorePR
import Derived.Test.YthaplgbhhppniaaCoreP2
import Derived.Test.YthaplgbhhppniaaCoreP3
namespace Go.Proofs.Ythaplgbhhppniaa.Pure
open Go.RowKit Go.Proofs.Ythaplgbhhppniaa.HFnPartedNumbers Go.Proofs.YthaplgbhhppniaaW.PrintWords Go.Proofs.YthaplgbhhppniaaW.PrintLast Go.Proofs.YthaplgbhhppniaaW.PrintMore Go.Proofs.Ythaplgbhhppniaa.Core
set_option linter.unusedVariables false
set_option linter.unusedSimpArgs false

theorem laws_big_ok (a b : List Int) : laws_big.f a b = some true ∨ (laws_big.f a b = some false ∧ a.length ≤ 1048576 ∧ b.length ≤ 1048576) := by
  unfold laws_big.f
  by_cases h : (a.length : Int) > 1048576
  · rw [if_pos h]; exact .inl rfl
  · rw [if_neg h, w64 (by omega)]
    by_cases h2 : (b.length : Int) > 1048576 - (a.length : Int)
    · rw [decide_eq_true h2]; exact .inl rfl
    · rw [decide_eq_false h2]; exact .inr ⟨rfl, by omega, by omega⟩

theorem laws_tSum_loop (s : List Int) : ∀ (p : List Int) (m n i : Int), (∀ x ∈ s, 0 ≤ x ∧ x ≤ 1048576) → 0 ≤ m → m ≤ 1048576 * p.length → n = ((p ++ s).length : Int) → i = (p.length : Int) → (p ++ s).length ≤ 1073741824 →
    Ev (fun k => laws_tSum.l0 k m (p ++ s) n i) (m + sumL s) := by
  induction s with
  | nil =>
    intro p m n i hs hm hm' hn hi hl
    refine Ev.to (Ev.done fun k => ?_) (show m = _ by simp [sumL])
    simp only [laws_tSum.l0]
    rw [if_neg (by rw [len_nil] at hn; omega)]
  | cons x s ih =>
    intro p m n i hs hm hm' hn hi hl
    have h1 := len_mid p s x
    have hx := hs x (List.mem_cons_self ..)
    have h2 := len_snoc p x
    have := ih (p ++ [x]) (m + x) n (i + 1) (fun y hy => hs y (List.mem_cons_of_mem _ hy)) (by omega) (by omega) (by rw [← snoc_mid]; exact hn) (by omega) (by rw [← snoc_mid]; exact hl)
    rw [← snoc_mid] at this
    refine Ev.to (Ev.step' this fun k => ?_) (by simp [sumL]; omega)
    simp only [laws_tSum.l0]
    rw [if_pos (by omega), if_pos (by omega), if_pos (by omega), rd_mid hi, w64 (by omega), w64 (by omega)]
theorem laws_tSum_ev (l : List Int) (hs : ∀ x ∈ l, 0 ≤ x ∧ x ≤ 1048576) (hl : l.length ≤ 1073741824) : Ev (fun k => laws_tSum.f k l) (sumL l) :=
  Ev.to (laws_tSum_loop l [] 0 _ 0 hs (by omega) (by simp) rfl (by simp) (by simpa using hl)) (by simp)

theorem laws_tSame_loop (s : List Int) : ∀ (p : List Int) (n i : Int), n = ((p ++ s).length : Int) → i = (p.length : Int) → (p ++ s).length ≤ 1099511627776 →
    Ev (fun k => laws_tSame.l0 k (p ++ s) (p ++ s) n i) true := by
  induction s with
  | nil =>
    intro p n i hn hi hl
    refine Ev.done fun k => ?_
    simp only [laws_tSame.l0]
    rw [if_neg (by rw [len_nil] at hn; omega)]
  | cons x s ih =>
    intro p n i hn hi hl
    have h1 := len_mid p s x
    have := ih (p ++ [x]) n (i + 1) (by rw [← snoc_mid]; exact hn) (by rw [len_snoc]; omega) (by rw [← snoc_mid]; exact hl)
    rw [← snoc_mid] at this
    refine Ev.step' this fun k => ?_
    simp only [laws_tSame.l0]
    rw [if_pos (by omega), if_pos (by omega), if_pos (by omega), if_pos (by omega), if_pos trivial, w64 (by omega)]
theorem laws_tSame_self (l : List Int) (hl : l.length ≤ 1099511627776) : Ev (fun k => laws_tSame.f k l l) true := by
  unfold laws_tSame.f
  simp only [if_true]
  exact laws_tSame_loop l [] _ 0 (by simp) (by simp) (by simpa using hl)

theorem laws_tLess_loop (s : List Int) : ∀ (t p : List Int) (i : Int), i = (p.length : Int) → (p ++ s).length ≤ 1099511627776 → (p ++ t).length ≤ 1099511627776 →
    Ev (fun k => laws_tLess.l0 k (p ++ s) (p ++ t) i) (lexLt s t) := by
  induction s with
  | nil =>
    intro t p i hi hl hl2
    have c1 : ¬ i < (((p ++ ([] : List Int)).length : Nat) : Int) := by rw [len_nil]; omega
    refine Ev.succ ?_
    simp only [laws_tLess.l0, if_neg c1]
    refine Ev.done fun k => ?_
    simp only [laws_tLess.j1, Bool.false_eq_true, if_false]
    cases t with
    | nil => simp [lexLt]
    | cons y t => simp [lexLt]; omega
  | cons x s ih =>
    intro t p i hi hl hl2
    have h1 := len_mid p s x
    have c1 : i < (((p ++ x :: s).length : Nat) : Int) := by omega
    refine Ev.succ ?_
    simp only [laws_tLess.l0, if_pos c1]
    cases t with
    | nil =>
      have c2 : ¬ i < (((p ++ ([] : List Int)).length : Nat) : Int) := by rw [len_nil]; omega
      refine Ev.done fun k => ?_
      simp only [decide_eq_false c2, laws_tLess.j1, Bool.false_eq_true, if_false]
      simp [lexLt]; omega
    | cons y t =>
      have h2 := len_mid p t y
      have c2 : i < (((p ++ y :: t).length : Nat) : Int) := by omega
      have c3 : 0 ≤ i := by omega
      refine Ev.succ ?_
      simp only [decide_eq_true c2, laws_tLess.j1, if_true, if_pos c3, if_pos c1, if_pos c2, rd_mid (p := p) (s := s) (x := x) hi, rd_mid (p := p) (s := t) (x := y) hi]
      unfold lexLt
      by_cases e : x = y
      · subst e
        have := ih t (p ++ [x]) (i + 1) (by rw [len_snoc]; omega) (by rw [← snoc_mid]; exact hl) (by rw [← snoc_mid]; exact hl2)
        rw [← snoc_mid, ← snoc_mid] at this
        simp only [if_true, w64 (show -9223372036854775808 ≤ i + 1 ∧ i + 1 ≤ 9223372036854775807 by omega)]
        exact this
      · simp only [if_neg e]
        exact Ev.now _
theorem laws_tLess_ev (a b : List Int) (ha : a.length ≤ 1099511627776) (hb : b.length ≤ 1099511627776) : Ev (fun k => laws_tLess.f k a b) (lexLt a b) :=
  laws_tLess_loop a b [] 0 (by simp) (by simpa using ha) (by simpa using hb)

/-! ### the reader of draws: it tells a number always -/
theorem and255 (E : Int) (h0 : 0 ≤ E) (h1 : E ≤ 18446744073709551615) : 0 ≤ Go.bits .and .u64 E 255 ∧ Go.bits .and .u64 E 255 ≤ 255 := by
  have h := Go.bits_and_u64_nat E.toNat 255 (by omega) (by omega)
  rw [Int.toNat_of_nonneg h0] at h
  have h2 : E.toNat &&& 255 ≤ 255 := Nat.and_le_right
  have h3 : Go.bits .and .u64 E 255 = ((E.toNat &&& 255 : Nat) : Int) := h
  omega
theorem u64_in (n : Int) : 0 ≤ IntKind.u64.wrap n ∧ IntKind.u64.wrap n ≤ 18446744073709551615 := by
  have e : IntKind.u64.wrap n = n % 18446744073709551616 := rfl
  rw [e]; omega
theorem draw_in (n : Int) : 0 ≤ wrap64 (Go.bits .and .u64 (IntKind.u64.wrap n / 1099511627776) 255) ∧ wrap64 (Go.bits .and .u64 (IntKind.u64.wrap n / 1099511627776) 255) ≤ 255 := by
  have h := u64_in n
  have h2 := and255 (IntKind.u64.wrap n / 1099511627776) (by omega) (by omega)
  rw [w64 (by omega)]; exact h2
def Bytes (l : List Int) : Prop := ∀ x ∈ l, 0 ≤ x ∧ x ≤ 255
theorem bytes_wf {l : List Int} (h : ∀ x ∈ l, (Lit.int .u8 x).wf = true) : Bytes l := by
  intro x hx
  have h1 := h x hx
  unfold Lit.wf at h1
  rw [Bool.and_eq_true, decide_eq_true_iff, decide_eq_true_iff] at h1
  exact h1
def CurAt (m : Nat) (a : Int) : Prop := (0 ≤ a ∧ a ≤ (m : Int)) ∧ m ≤ 1152921504606846976
theorem CurAt.mono {m n : Nat} {a : Int} (h : CurAt m a) (hn : m ≤ n) (hm : n ≤ 1152921504606846976) : CurAt n a := by
  obtain ⟨⟨h1, h2⟩, h3⟩ := h
  exact ⟨⟨h1, by omega⟩, hm⟩
theorem cur_next {l : List Int} (hb : Bytes l) {m : Nat} {a : Int} (s : Int) (h : CurAt m a) (hm : m < 1152921504606846976) :
    ∃ b a' s', spec_l1Cur_next.f l a s = some (b, a', s') ∧ (0 ≤ b ∧ b ≤ 255) ∧ CurAt (m + 1) a' := by
  obtain ⟨⟨h1, h2⟩, _⟩ := h
  have e : wrap64 (a + 1) = a + 1 := w64 (by omega)
  unfold spec_l1Cur_next.f
  rw [e]
  by_cases c1 : a < (l.length : Int)
  · have hr := hb _ (rd_mem h1 c1)
    rw [if_pos c1, if_pos h1, w64 (n := rd l a) (by omega)]
    by_cases c2 : a + 1 ≤ (l.length : Int)
    · rw [if_pos c2]; exact ⟨_, _, _, rfl, hr, ⟨by omega, by omega⟩, by omega⟩
    · rw [if_neg c2]; exact ⟨_, _, _, rfl, draw_in _, ⟨by omega, by omega⟩, by omega⟩
  · rw [if_neg c1]
    by_cases c2 : a + 1 ≤ (l.length : Int)
    · rw [if_pos c2]; exact ⟨_, _, _, rfl, ⟨by omega, by omega⟩, ⟨by omega, by omega⟩, by omega⟩
    · rw [if_neg c2]; exact ⟨_, _, _, rfl, draw_in _, ⟨by omega, by omega⟩, by omega⟩
theorem tmod_in {b n : Int} (hb : 0 ≤ b) (hn : 1 < n) : 0 ≤ Int.tmod b n ∧ Int.tmod b n < n := by
  obtain ⟨c, rfl⟩ : ∃ c : Nat, b = (c : Int) := ⟨b.toNat, by omega⟩
  obtain ⟨k, rfl⟩ : ∃ k : Nat, n = (k : Int) := ⟨n.toNat, by omega⟩
  have e : Int.tmod (c : Int) (k : Int) = ((c % k : Nat) : Int) := rfl
  have := Nat.mod_lt c (show 0 < k by omega)
  rw [e]; omega
theorem cur_pick {l : List Int} (hb : Bytes l) {m : Nat} {a : Int} (s n : Int) (h : CurAt m a) (hm : m + 2 ≤ 1152921504606846976) :
    ∃ x a' s', spec_l1Cur_pick.f l a s n = some (x, a', s') ∧ (0 ≤ x ∧ x ≤ max (n - 1) 0) ∧ CurAt (m + 2) a' := by
  unfold spec_l1Cur_pick.f
  by_cases c1 : n ≤ 1
  · rw [if_pos c1]; exact ⟨_, _, _, rfl, ⟨by omega, by omega⟩, h.mono (by omega) (by omega)⟩
  · rw [if_neg c1]
    obtain ⟨b, a1, s1, h1, h2, h3⟩ := cur_next hb s h (by omega)
    rw [h1, obind]
    simp only
    have c0 : ¬ n = 0 := by omega
    by_cases c2 : n > 200
    · rw [if_pos c2]
      obtain ⟨b2, a2, s2, h4, h5, h6⟩ := cur_next hb s1 h3 (by omega)
      rw [h4, obind, if_neg c0]
      simp only
      rw [w64 (n := b * 256) (by omega), w64 (n := b * 256 + b2) (by omega)]
      have := tmod_in (b := b * 256 + b2) (n := n) (by omega) (by omega)
      exact ⟨_, _, _, rfl, ⟨by omega, by omega⟩, h6⟩
    · rw [if_neg c2, if_neg c0]
      have := tmod_in (b := b) (n := n) (by omega) (by omega)
      exact ⟨_, _, _, rfl, ⟨by omega, by omega⟩, h3.mono (by omega) (by omega)⟩
theorem cur_one {l : List Int} (hb : Bytes l) {m : Nat} {a : Int} (s n : Int) (h : CurAt m a) (hm : m + 2 ≤ 1152921504606846976) :
    ∃ x a' s', spec_l1Cur_one.f l a s n = some (x, a', s') ∧ CurAt (m + 2) a' := by
  unfold spec_l1Cur_one.f
  obtain ⟨b, a1, s1, h1, h2, h3⟩ := cur_pick hb s n h hm
  rw [h1, obind]
  exact ⟨_, _, _, rfl, h3⟩

theorem cur_among {l : List Int} (hb : Bytes l) {m : Nat} {a : Int} (s : Int) (L : List Int) (hL : 0 < L.length) (h : CurAt m a) (hm : m + 2 ≤ 1152921504606846976) :
    ∃ x a' s', spec_l1Cur_among.f l a s L = some (x, a', s') ∧ x ∈ L ∧ CurAt (m + 2) a' := by
  unfold spec_l1Cur_among.f
  obtain ⟨b, a1, s1, h1, h2, h3⟩ := cur_pick hb s (L.length : Int) h hm
  rw [h1, obind]
  simp only
  have c1 : b < (L.length : Int) := by omega
  rw [if_pos h2.1, if_pos c1]
  exact ⟨_, _, _, rfl, rd_mem h2.1 c1, h3⟩

theorem cur_rank9 {l : List Int} (hb : Bytes l) {m : Nat} {a : Int} (s n : Int) (hn : 0 ≤ n ∧ n ≤ 1099511627776) (h : CurAt m a) (hm : m + 4 ≤ 1152921504606846976) :
    ∃ x a' s', spec_l1Cur_rank9.f l a s n = some (x, a', s') ∧ (-1 ≤ x ∧ x ≤ n) ∧ CurAt (m + 4) a' := by
  unfold spec_l1Cur_rank9.f
  obtain ⟨b, a1, s1, h1, h2⟩ := cur_one hb s 6 h (by omega)
  rw [h1, obind, w64 (n := n - 1) (by omega)]
  cases b with
  | true =>
    simp only [if_true]
    obtain ⟨x, a2, s2, h3, h4, h5⟩ := cur_among hb s1 [(-1), 0, n - 1, n] (by simp) h2 (by omega)
    rw [h3, obind]
    simp only [List.mem_cons, List.not_mem_nil, or_false] at h4
    exact ⟨_, _, _, rfl, by omega, h5⟩
  | false =>
    simp only [Bool.false_eq_true, if_false]
    obtain ⟨x, a2, s2, h3, h4, h5⟩ := cur_pick hb s1 n h2 (by omega)
    rw [h3, obind]
    exact ⟨_, _, _, rfl, by omega, h5⟩

set_option maxRecDepth 100000 in
theorem spec_spCount_small : ∀ n : Nat, n < 21 → ∀ m : Nat, m < 21 → spec_spCount.f 600 (n : Int) (m : Int) = some ((pc n m : Nat) : Int) := by
  decide +kernel
theorem spec_spCount_ev (n m : Nat) (hn : n ≤ 20) (hm : m ≤ 20) : Ev (fun k => spec_spCount.f k (n : Int) (m : Int)) ((pc n m : Nat) : Int) :=
  Ev.of (g := fun k => spec_spCount.f k (n : Int) (m : Int)) (spec_spCount.mono _ _) (spec_spCount_small n (by omega) m (by omega))

theorem spec_l1In_eq (a b c : Int) : spec_l1In.f a b c = some (inB a b c) := inB_ite a b c

theorem spec_l1Least_eq (a b : Int) : spec_l1Least.f a b = some (min a b) := least_min a b

theorem spec_spPartedWith_l0 (n : Nat) (hn : n ≤ 20) (h1 : 1 ≤ n) (x : Nat) : ∀ (rank : Nat) (T : List Int), x ≤ n → rank < pc n x → T.length ≤ 1000 →
    Ev (fun k => spec_spPartedWith.f k ((n - (findX n x rank).1 : Nat) : Int) ((findX n x rank).1 : Int) ((findX n x rank).2 : Int)) T →
    Ev (fun k => spec_spPartedWith.l0 k (n : Int) (rank : Int) (x : Int)) (((findX n x rank).1 : Int) :: T) := by
  induction x with
  | zero => intro rank T hx h; rw [pc_none n (by omega) h1] at h; omega
  | succ x ih =>
    intro rank T hx h hT hR
    have hs := pc_small (n := n) (x := x + 1) hn (by omega)
    rw [pc_step hn hx] at h hs
    have e1 : wrap64 ((n : Int) - ((x + 1 : Nat) : Int)) = ((n - (x + 1) : Nat) : Int) := by rw [w64 (by omega)]; omega
    have e2 : wrap64 (((x + 1 : Nat) : Int) - 1) = (x : Int) := by rw [w64 (by omega)]; omega
    unfold findX at hR ⊢
    refine Ev.succ ?_
    simp only [spec_spPartedWith.l0]
    simp only [e1, e2]
    refine Ev.bind (spec_spCount_ev (n - (x + 1)) (x + 1) (by omega) (by omega)) ?_
    by_cases c : rank < pc (n - (x + 1)) (x + 1)
    · rw [if_pos c] at hR ⊢
      simp only [if_neg (show ¬ (rank : Int) ≥ ((pc (n - (x + 1)) (x + 1) : Nat) : Int) by omega), obind]
      refine Ev.bind hR ?_
      simp only [List.length_singleton, if_pos (show 1 + T.length < 17592186044416 by omega)]
      exact Ev.some_ rfl
    · rw [if_neg c] at hR ⊢
      have e3 : wrap64 ((rank : Int) - ((pc (n - (x + 1)) (x + 1) : Nat) : Int)) = ((rank - pc (n - (x + 1)) (x + 1) : Nat) : Int) := by rw [w64 (by omega)]; omega
      simp only [if_pos (show (rank : Int) ≥ ((pc (n - (x + 1)) (x + 1) : Nat) : Int) by omega)]
      refine Ev.bind (spec_spCount_ev (n - (x + 1)) (x + 1) (by omega) (by omega)) ?_
      simp only [e3]
      exact ih _ T (by omega) (by omega) hT hR
theorem spec_spPartedWith_ev (f : Nat) : ∀ (n most rank : Nat), n ≤ f → f ≤ 1000 → n ≤ 20 → most ≤ 20 → rank < pc n most →
    Ev (fun k => spec_spPartedWith.f k (n : Int) (most : Int) (rank : Int)) (unPF f n most rank) := by
  induction f with
  | zero =>
    intro n most rank hf hF hn hm h
    obtain rfl : n = 0 := by omega
    refine Ev.succ ?_
    simp only [spec_spPartedWith.f]
    simp only [Int.natCast_zero, if_true]
    exact Ev.some_ (by simp [unPF])
  | succ f ih =>
    intro n most rank hf hF hn hm h
    refine Ev.succ ?_
    simp only [spec_spPartedWith.f]
    by_cases hn0 : n = 0
    · subst hn0
      simp only [Int.natCast_zero, if_true]
      exact Ev.some_ (by simp [unPF])
    · have e : min (n : Int) (most : Int) = ((min most n : Nat) : Int) := by rw [i_min, Nat.min_comm]
      rw [pc_min hn hm] at h
      obtain ⟨g1, g2, g3⟩ := findX_fits hn (by omega) (min most n) rank (Nat.min_le_right _ _) h
      have g4 : min most n ≤ n := Nat.min_le_right _ _
      simp only [if_neg (show ¬ (n : Int) = 0 by omega), spec_l1Least_eq, obind, e]
      rw [unPF, if_neg hn0]
      exact spec_spPartedWith_l0 n hn (by omega) (min most n) rank _ g4 h (Nat.le_trans (unPF_len _ _ _ _) (by omega)) (ih _ _ _ (by omega) (by omega) (by omega) (by omega) g3)

theorem spec_PartedWith_ev (n rank : Int) : Ev (fun k => spec_PartedWith.f k n rank) (if isPk n rank = true then (unP n.toNat n.toNat rank.toNat, true) else ([], false)) := by
  unfold isPk spec_PartedWith.f spec_spTotal.f
  by_cases hn : 0 ≤ n ∧ n ≤ 20
  · obtain ⟨m, rfl⟩ : ∃ m : Nat, n = (m : Int) := ⟨n.toNat, by omega⟩
    have hs := pc_small (n := m) (x := m) (by omega) (by omega)
    simp only [spec_l1In_eq, inB_yes hn, obind, if_true, Bool.true_and, Int.toNat_natCast]
    refine Ev.bind (spec_spCount_ev m m (by omega) (by omega)) ?_
    simp only [w64 (show -9223372036854775808 ≤ ((pc m m : Nat) : Int) - 1 ∧ ((pc m m : Nat) : Int) - 1 ≤ 9223372036854775807 by omega)]
    by_cases hr : 0 ≤ rank ∧ rank ≤ ((pc m m : Nat) : Int) - 1
    · obtain ⟨q, rfl⟩ : ∃ q : Nat, rank = (q : Int) := ⟨rank.toNat, by omega⟩
      simp only [inB_yes hr, if_true, Int.toNat_natCast]
      refine Ev.bind (spec_spPartedWith_ev m m m q (Nat.le_refl _) (by omega) (by omega) (by omega) (by omega)) ?_
      exact Ev.now _
    · simp only [inB_no hr, Bool.false_eq_true, if_false]
      exact Ev.now _
  · simp only [spec_l1In_eq, inB_no hn, obind, Bool.false_and, Bool.false_eq_true, if_false]
    exact Ev.now _

theorem impl_within_eq (a b c : Int) : impl_within.f a b c = some (inB a b c) := inB_ite a b c

set_option maxRecDepth 100000 in
theorem impl_countParted_small : ∀ n : Nat, n < 21 → ∀ m : Nat, m < 21 → impl_countParted.f 600 (n : Int) (m : Int) = some ((pc n m : Nat) : Int) := by
  decide +kernel
theorem impl_countParted_ev (n m : Nat) (hn : n ≤ 20) (hm : m ≤ 20) : Ev (fun k => impl_countParted.f k (n : Int) (m : Int)) ((pc n m : Nat) : Int) :=
  Ev.of (g := fun k => impl_countParted.f k (n : Int) (m : Int)) (impl_countParted.mono _ _) (impl_countParted_small n (by omega) m (by omega))

theorem impl_partedWith_l1 (n : Nat) (hn : n ≤ 20) (h1 : 1 ≤ n) (out : List Int) (ho : out.length ≤ 1000) (x : Nat) : ∀ (rank : Nat) (R : List Int), x ≤ n → rank < pc n x →
    Ev (fun k => impl_partedWith.l0 k ((n - (findX n x rank).1 : Nat) : Int) ((findX n x rank).2 : Int) (out ++ [((findX n x rank).1 : Int)]) ((findX n x rank).1 : Int)) R →
    Ev (fun k => impl_partedWith.l1 k (n : Int) (rank : Int) out (x : Int)) R := by
  induction x with
  | zero => intro rank R hx h; rw [pc_none n (by omega) h1] at h; omega
  | succ x ih =>
    intro rank R hx h hR
    have hs := pc_small (n := n) (x := x + 1) hn (by omega)
    rw [pc_step hn hx] at h hs
    have e1 : wrap64 ((n : Int) - ((x + 1 : Nat) : Int)) = ((n - (x + 1) : Nat) : Int) := by rw [w64 (by omega)]; omega
    have e2 : wrap64 (((x + 1 : Nat) : Int) - 1) = (x : Int) := by rw [w64 (by omega)]; omega
    unfold findX at hR
    refine Ev.succ ?_
    simp only [impl_partedWith.l1]
    simp only [e1, e2]
    refine Ev.bind (impl_countParted_ev (n - (x + 1)) (x + 1) (by omega) (by omega)) ?_
    by_cases c : rank < pc (n - (x + 1)) (x + 1)
    · rw [if_pos c] at hR
      simp only [if_pos (show (rank : Int) < ((pc (n - (x + 1)) (x + 1) : Nat) : Int) by omega), if_pos (show out.length < 17592186044416 by omega)]
      exact hR
    · rw [if_neg c] at hR
      have e3 : wrap64 ((rank : Int) - ((pc (n - (x + 1)) (x + 1) : Nat) : Int)) = ((rank - pc (n - (x + 1)) (x + 1) : Nat) : Int) := by rw [w64 (by omega)]; omega
      simp only [if_neg (show ¬ (rank : Int) < ((pc (n - (x + 1)) (x + 1) : Nat) : Int) by omega), e3]
      exact ih _ R (by omega) (by omega) hR
theorem impl_partedWith_l0 (f : Nat) : ∀ (n most rank : Nat) (out : List Int), n ≤ f → n ≤ 20 → most ≤ 20 → out.length + n ≤ 1000 → rank < pc n most →
    Ev (fun k => impl_partedWith.l0 k (n : Int) (rank : Int) out (most : Int)) (out ++ unPF f n most rank) := by
  induction f with
  | zero =>
    intro n most rank out hf hn hm ho h
    obtain rfl : n = 0 := by omega
    refine Ev.succ ?_
    simp only [impl_partedWith.l0]
    simp only [Int.natCast_zero, if_neg (show ¬ (0 : Int) > 0 by decide)]
    exact Ev.some_ (by simp [unPF])
  | succ f ih =>
    intro n most rank out hf hn hm ho h
    refine Ev.succ ?_
    simp only [impl_partedWith.l0]
    by_cases hn0 : n = 0
    · subst hn0
      simp only [Int.natCast_zero, if_neg (show ¬ (0 : Int) > 0 by decide)]
      exact Ev.some_ (by simp [unPF])
    · have e : mn (most : Int) (n : Int) = ((min most n : Nat) : Int) := i_mn _ _
      rw [pc_min hn hm] at h
      obtain ⟨g1, g2, g3⟩ := findX_fits hn (by omega) (min most n) rank (Nat.min_le_right _ _) h
      have g4 : min most n ≤ n := Nat.min_le_right _ _
      simp only [if_pos (show (n : Int) > 0 by omega), e]
      refine impl_partedWith_l1 n hn (by omega) out (by omega) (min most n) rank _ g4 h ?_
      refine Ev.to (ih _ _ _ (out ++ [((findX n (min most n) rank).1 : Int)]) (by omega) (by omega) (by omega) (by simp; omega) g3) ?_
      rw [unPF, if_neg hn0]
      simp

theorem impl_PartedWith_ev (n rank : Int) : Ev (fun k => impl_PartedWith.f k n rank) (if isPk n rank = true then (unP n.toNat n.toNat rank.toNat, true) else ([], false)) := by
  unfold isPk impl_PartedWith.f
  by_cases hn : 0 ≤ n ∧ n ≤ 20
  · obtain ⟨m, rfl⟩ : ∃ m : Nat, n = (m : Int) := ⟨n.toNat, by omega⟩
    have hs := pc_small (n := m) (x := m) (by omega) (by omega)
    simp only [impl_within_eq, inB_yes hn, obind, if_true, Bool.true_and, Int.toNat_natCast]
    refine Ev.bind (impl_countParted_ev m m (by omega) (by omega)) ?_
    simp only [w64 (show -9223372036854775808 ≤ ((pc m m : Nat) : Int) - 1 ∧ ((pc m m : Nat) : Int) - 1 ≤ 9223372036854775807 by omega)]
    by_cases hr : 0 ≤ rank ∧ rank ≤ ((pc m m : Nat) : Int) - 1
    · obtain ⟨q, rfl⟩ : ∃ q : Nat, rank = (q : Int) := ⟨rank.toNat, by omega⟩
      simp only [inB_yes hr, if_true, Int.toNat_natCast]
      refine Ev.bind (a := unP m m q) ?_ (Ev.now _)
      unfold impl_partedWith.f
      exact impl_partedWith_l0 m m m q [] (Nat.le_refl _) (by omega) (by omega) (by simp; omega) (by omega)
    · simp only [inB_no hr, Bool.false_eq_true, if_false]
      exact Ev.now _
  · simp only [impl_within_eq, inB_no hn, obind, Bool.false_and, Bool.false_eq_true, if_false]
    exact Ev.now _

theorem impl_sum_loop (s : List Int) : ∀ (p : List Int) (m n i : Int), (∀ x ∈ s, 0 ≤ x ∧ x ≤ 1048576) → 0 ≤ m → m ≤ 1048576 * p.length → n = ((p ++ s).length : Int) → i = (p.length : Int) → (p ++ s).length ≤ 1073741824 →
    Ev (fun k => impl_sum.l0 k m (p ++ s) n i) (m + sumL s) := by
  induction s with
  | nil =>
    intro p m n i hs hm hm' hn hi hl
    refine Ev.to (Ev.done fun k => ?_) (show m = _ by simp [sumL])
    simp only [impl_sum.l0]
    rw [if_neg (by rw [len_nil] at hn; omega)]
  | cons x s ih =>
    intro p m n i hs hm hm' hn hi hl
    have h1 := len_mid p s x
    have hx := hs x (List.mem_cons_self ..)
    have h2 := len_snoc p x
    have := ih (p ++ [x]) (m + x) n (i + 1) (fun y hy => hs y (List.mem_cons_of_mem _ hy)) (by omega) (by omega) (by rw [← snoc_mid]; exact hn) (by omega) (by rw [← snoc_mid]; exact hl)
    rw [← snoc_mid] at this
    refine Ev.to (Ev.step' this fun k => ?_) (by simp [sumL]; omega)
    simp only [impl_sum.l0]
    rw [if_pos (by omega), if_pos (by omega), if_pos (by omega), rd_mid hi, w64 (by omega), w64 (by omega)]
theorem impl_sum_ev (l : List Int) (hs : ∀ x ∈ l, 0 ≤ x ∧ x ≤ 1048576) (hl : l.length ≤ 1073741824) : Ev (fun k => impl_sum.f k l) (sumL l) :=
  Ev.to (impl_sum_loop l [] 0 _ 0 hs (by omega) (by simp) rfl (by simp) (by simpa using hl)) (by simp)

theorem impl_IsParted_loop (l : List Int) (hl : l.length ≤ 1073741824) (s : List Int) : ∀ (p : List Int) (m n i : Int), p ++ s = l → (∀ x ∈ p, 1 ≤ x ∧ x ≤ 20) → (p = [] → m = 20) → (0 < p.length → rd l ((p.length : Int) - 1) = m) → n = (l.length : Int) → i = (p.length : Int) →
    Ev (fun k => impl_IsParted.l0 k l l n i) (parL m s && (decide ((l.length : Int) ≤ 20) && decide (sumL l ≤ 20))) := by
  induction s with
  | nil =>
    intro p m n i hp hin h0 hm hn hi
    have hpl : p = l := by simpa using hp
    refine Ev.succ ?_
    simp only [impl_IsParted.l0]
    simp only [if_neg (show ¬ i < n by subst hpl; omega)]
    by_cases h20 : (l.length : Int) ≤ 20
    · simp only [if_pos h20]
      refine Ev.bind (impl_sum_ev l (fun x hx => by have := hin x (hpl ▸ hx); omega) hl) ?_
      refine Ev.some_ ?_
      simp [parL, h20]
    · simp only [if_neg h20]
      refine Ev.some_ ?_
      simp [h20]
  | cons x s ih =>
    intro p m n i hp hin h0 hm hn hi
    have h1 := len_mid p s x
    rw [hp] at h1
    have hr : rd l i = x := by rw [← hp]; exact rd_mid hi
    have hp' : (p ++ [x]) ++ s = l := by rw [← snoc_mid]; exact hp
    have h2 := len_snoc p x
    cases hb : inB x 1 20 with
    | false =>
      refine Ev.to (Ev.done fun k => ?_) (show false = _ by simp [parL, hb])
      simp only [impl_IsParted.l0]
      rw [if_pos (by omega), if_pos (by omega), if_pos (by omega), hr, impl_within_eq, hb]
      rfl
    | true =>
      have hx := inB_true.1 hb
      have hih := ih (p ++ [x]) x n (i + 1) hp' (by intro y hy; rcases List.mem_append.1 hy with hy | hy; exact hin y hy; simp at hy; omega) (by simp) (fun _ => by rw [h2, show (p.length : Int) + 1 - 1 = p.length by omega, ← hp]; exact rd_mid rfl) hn (by omega)
      by_cases hpos : i > 0
      · have hr1 := hm (by omega)
        have e1 : wrap64 (i - 1) = (p.length : Int) - 1 := by rw [w64 (by omega)]; omega
        by_cases hlt : m < x
        · refine Ev.to (Ev.done fun k => ?_) (show false = _ by rw [parL, hb, decide_eq_false (by omega)]; rfl)
          simp only [impl_IsParted.l0]
          rw [if_pos (by omega), if_pos (by omega), if_pos (by omega), hr, impl_within_eq, hb]
          simp only [obind, if_true]
          rw [if_pos hpos, e1, if_pos (by omega), if_pos (by omega), hr1, if_pos hlt]
        · refine Ev.to (Ev.step' hih fun k => ?_) (by rw [parL, hb, decide_eq_true (show x ≤ m by omega)]; simp)
          simp only [impl_IsParted.l0]
          rw [if_pos (by omega), if_pos (by omega), if_pos (by omega), hr, impl_within_eq, hb]
          simp only [obind, if_true]
          rw [if_pos hpos, e1, if_pos (by omega), if_pos (by omega), hr1, if_neg hlt, w64 (n := i + 1) (by omega)]
      · have hp0 : p = [] := List.eq_nil_of_length_eq_zero (by omega)
        have hm20 := h0 hp0
        refine Ev.to (Ev.step' hih fun k => ?_) (by rw [parL, hb, decide_eq_true (show x ≤ m by omega)]; simp)
        simp only [impl_IsParted.l0]
        rw [if_pos (by omega), if_pos (by omega), if_pos (by omega), hr, impl_within_eq, hb]
        simp only [obind, if_true]
        rw [if_neg hpos, w64 (n := i + 1) (by omega)]
theorem impl_IsParted_ev (l : List Int) (hl : l.length ≤ 1073741824) : Ev (fun k => impl_IsParted.f k l) (isP l) :=
  impl_IsParted_loop l hl l [] 20 _ 0 rfl (by simp) (fun _ => rfl) (by simp) rfl (by simp)

theorem impl_ConjugateOf_inner (l : List Int) (hl : l.length ≤ 20) (out : List Int) (s : List Int) : ∀ (p : List Int) (c : Int) (R : List Int × Bool), p ++ s = l → 0 ≤ c → c ≤ p.length → out.length ≤ 1000 →
    Ev (fun k => impl_ConjugateOf.l0 k l (out ++ [c + cntGt (out.length : Int) s])) R →
    Ev (fun k => impl_ConjugateOf.l1 k l out c l (l.length : Int) (p.length : Int)) R := by
  induction s with
  | nil =>
    intro p c R hp hc hc' ho hR
    have : l.length = p.length := by rw [← hp]; simp
    refine Ev.succ ?_
    simp only [impl_ConjugateOf.l1]
    simp only [if_neg (show ¬ (p.length : Int) < (l.length : Int) by omega), if_pos (show out.length < 17592186044416 by omega)]
    simpa [cntGt] using hR
  | cons x s ih =>
    intro p c R hp hc hc' ho hR
    have hlen : l.length = p.length + s.length + 1 := by rw [← hp]; simp; omega
    have e0 : rd l (p.length : Int) = x := by rw [← hp]; exact rd_mid rfl
    have e1 := i_succ (out := p) (x := x) (by omega)
    have hp' : (p ++ [x]) ++ s = l := by rw [← snoc_mid]; exact hp
    have h2 := len_snoc p x
    refine Ev.succ ?_
    simp only [impl_ConjugateOf.l1]
    simp only [if_pos (show (p.length : Int) < (l.length : Int) by omega), if_pos (show 0 ≤ (p.length : Int) by omega), e0, e1]
    by_cases hx : x > (out.length : Int)
    · simp only [if_pos hx, w64 (show -9223372036854775808 ≤ c + 1 ∧ c + 1 ≤ 9223372036854775807 by omega)]
      refine ih (p ++ [x]) (c + 1) R hp' (by omega) (by omega) ho ?_
      simp only [cntGt, if_pos hx] at hR
      rw [Int.add_assoc]; exact hR
    · simp only [if_neg hx]
      refine ih (p ++ [x]) c R hp' hc (by omega) ho ?_
      simp only [cntGt, if_neg hx, Int.zero_add] at hR
      exact hR
theorem impl_ConjugateOf_loop (l : List Int) (hl : l.length ≤ 20) (h0 : 0 < l.length) (hx : rd l 0 ≤ 20) (d : Nat) : ∀ (out : List Int), (out.length : Int) + d = rd l 0 →
    Ev (fun k => impl_ConjugateOf.l0 k l out) (out ++ conjF l d (out.length : Int), true) := by
  induction d with
  | zero =>
    intro out ho
    refine Ev.succ ?_
    simp only [impl_ConjugateOf.l0]
    simp only [if_pos (show (l.length : Int) > 0 by omega), if_pos (show (0 : Int) < (l.length : Int) by omega), decide_eq_false (show ¬ (out.length : Int) < rd l 0 by omega)]
    refine Ev.succ ?_
    simp only [impl_ConjugateOf.j1, Bool.false_eq_true, if_false]
    exact Ev.some_ (by simp [conjF])
  | succ d ih =>
    intro out ho
    have hih := ih (out ++ [cntGt (out.length : Int) l]) (by rw [len_snoc]; omega)
    refine Ev.succ ?_
    simp only [impl_ConjugateOf.l0]
    simp only [if_pos (show (l.length : Int) > 0 by omega), if_pos (show (0 : Int) < (l.length : Int) by omega), decide_eq_true (show (out.length : Int) < rd l 0 by omega)]
    refine Ev.succ ?_
    simp only [impl_ConjugateOf.j1, if_true]
    refine impl_ConjugateOf_inner l hl out l [] 0 _ rfl (by omega) (by simp) (by omega) ?_
    rw [Int.zero_add]
    refine Ev.to hih ?_
    rw [len_snoc]
    simp [conjF]
theorem impl_ConjugateOf_ev (l : List Int) (hl : l.length ≤ 1073741824) : Ev (fun k => impl_ConjugateOf.f k l) (if isP l = true then (conjL l, true) else ([], false)) := by
  unfold impl_ConjugateOf.f
  refine Ev.bind (impl_IsParted_ev l hl) ?_
  by_cases h : isP l = true
  · obtain ⟨_, h2, _, h4⟩ := isP_true h
    have hh := head_small h
    simp only [h, if_true]
    cases l with
    | nil =>
      refine Ev.succ ?_
      simp only [impl_ConjugateOf.l0]
      simp only [List.length_nil, Int.natCast_zero, if_neg (show ¬ (0 : Int) > 0 by decide)]
      refine Ev.succ ?_
      simp only [impl_ConjugateOf.j1, Bool.false_eq_true, if_false]
      exact Ev.now _
    | cons x s =>
      have hx : (x :: s).headD 0 = x := rfl
      rw [hx] at hh
      have hr : rd (x :: s) 0 = x := by simp [rd]
      refine Ev.to (impl_ConjugateOf_loop (x :: s) h2 (by simp) (by rw [hr]; omega) x.toNat [] (by rw [hr]; simp; omega)) ?_
      simp [conjL]
  · simp only [if_neg h]
    exact Ev.now _

theorem impl_RankParted_l1 (a : List Int) (n x : Nat) (hn : n ≤ 20) (i : Int) (R : Int × Bool) (y : Nat) : ∀ (rank : Nat), y ≤ n → rank + 627 * y ≤ 1000000 →
    Ev (fun k => impl_RankParted.l0 k ((rank + above n x y : Nat) : Int) (wrap64 ((n : Int) - (x : Int))) (x : Int) a (a.length : Int) (wrap64 (i + 1))) R →
    Ev (fun k => impl_RankParted.l1 k (rank : Int) (n : Int) (x : Int) (y : Int) a (a.length : Int) i) R := by
  induction y with
  | zero =>
    intro rank hy hr hR
    refine Ev.succ ?_
    simp only [impl_RankParted.l1]
    simp only [if_neg (show ¬ ((0 : Nat) : Int) > (x : Int) by omega)]
    exact hR
  | succ y ih =>
    intro rank hy hr hR
    refine Ev.succ ?_
    simp only [impl_RankParted.l1]
    unfold above at hR
    by_cases c : x < y + 1
    · rw [if_pos c] at hR
      have hs := pc_small (n := n - (y + 1)) (x := y + 1) (by omega) (by omega)
      have e1 : wrap64 ((n : Int) - ((y + 1 : Nat) : Int)) = ((n - (y + 1) : Nat) : Int) := by rw [w64 (by omega)]; omega
      have e2 : wrap64 (((y + 1 : Nat) : Int) - 1) = (y : Int) := by rw [w64 (by omega)]; omega
      have e3 : wrap64 ((rank : Int) + ((pc (n - (y + 1)) (y + 1) : Nat) : Int)) = ((rank + pc (n - (y + 1)) (y + 1) : Nat) : Int) := by rw [w64 (by omega)]; omega
      simp only [if_pos (show ((y + 1 : Nat) : Int) > (x : Int) by omega), e1, e2]
      refine Ev.bind (impl_countParted_ev (n - (y + 1)) (y + 1) (by omega) (by omega)) ?_
      simp only [e3]
      refine ih _ (by omega) (by omega) ?_
      rw [Nat.add_assoc]; exact hR
    · rw [if_neg c] at hR
      simp only [if_neg (show ¬ ((y + 1 : Nat) : Int) > (x : Int) by omega)]
      exact hR
theorem impl_RankParted_l0 (a : List Int) (ha : a.length ≤ 20) (hin : ∀ x ∈ a, 1 ≤ x ∧ x ≤ 20) (s : List Int) : ∀ (p : List Int) (n most rank : Nat), p ++ s = a → sumL s = (n : Int) → n ≤ 20 → rank ≤ 13000 * p.length →
    Ev (fun k => impl_RankParted.l0 k (rank : Int) (n : Int) (most : Int) a (a.length : Int) (p.length : Int)) (((rank + rkP n most s : Nat) : Int), true) := by
  induction s with
  | nil =>
    intro p n most rank hp hs hn hr
    have : a.length = p.length := by rw [← hp]; simp
    refine Ev.succ ?_
    simp only [impl_RankParted.l0]
    simp only [if_neg (show ¬ (p.length : Int) < (a.length : Int) by omega)]
    exact Ev.some_ (by simp [rkP])
  | cons x s ih =>
    intro p n most rank hp hs hn hr
    have hlen : a.length = p.length + s.length + 1 := by rw [← hp]; simp; omega
    have hsub : ∀ y ∈ x :: s, 1 ≤ y ∧ y ≤ 20 := fun y hy => hin y (by rw [← hp]; exact List.mem_append_right _ hy)
    have hx := hsub x (List.mem_cons_self ..)
    have hs0 : 0 ≤ sumL s := sumL_nonneg fun y hy => by have := hsub y (List.mem_cons_of_mem _ hy); omega
    have hsx : sumL (x :: s) = x + sumL s := rfl
    obtain ⟨q, rfl⟩ : ∃ q : Nat, x = (q : Int) := ⟨x.toNat, by omega⟩
    have e0 : rd a (p.length : Int) = (q : Int) := by rw [← hp]; exact rd_mid rfl
    have e1 : wrap64 ((p.length : Int) + 1) = ((p ++ [(q : Int)]).length : Int) := i_succ (by omega)
    have e2 : wrap64 ((n : Int) - (q : Int)) = ((n - q : Nat) : Int) := by rw [w64 (by omega)]; omega
    have hp' : (p ++ [(q : Int)]) ++ s = a := by rw [← snoc_mid]; exact hp
    have hab := above_le (n := n) hn q (min most n) (by omega)
    have hab2 : 627 * min most n ≤ 12540 := by omega
    refine Ev.succ ?_
    simp only [impl_RankParted.l0]
    simp only [if_pos (show (p.length : Int) < (a.length : Int) by omega), if_pos (show 0 ≤ (p.length : Int) by omega), e0, i_mn]
    refine impl_RankParted_l1 a n q hn (p.length : Int) _ (min most n) rank (Nat.min_le_right _ _) (by omega) ?_
    simp only [e1, e2]
    refine Ev.to (ih (p ++ [(q : Int)]) (n - q) q (rank + above n q (min most n)) hp' (by omega) (by omega) (by rw [List.length_append, List.length_singleton]; omega)) ?_
    simp only [rkP, Int.toNat_natCast]
    rw [Nat.add_assoc]
theorem impl_RankParted_ev (l : List Int) (hl : l.length ≤ 1073741824) : Ev (fun f => impl_RankParted.f f l) (if isP l = true then ((rkP (sumL l).toNat (sumL l).toNat l : Int), true) else (0, false)) := by
  unfold impl_RankParted.f
  refine Ev.bind (impl_IsParted_ev l hl) ?_
  by_cases h : isP l = true
  · obtain ⟨_, h2, h3, h4⟩ := isP_true h
    have h0 : 0 ≤ sumL l := sumL_nonneg fun y hy => by have := h4 y hy; omega
    simp only [h, if_true]
    refine Ev.bind (impl_sum_ev l (fun x hx => by have := h4 x hx; omega) hl) ?_
    obtain ⟨n, hn⟩ : ∃ n : Nat, sumL l = (n : Int) := ⟨(sumL l).toNat, by omega⟩
    rw [hn]
    refine Ev.to (impl_RankParted_l0 l h2 h4 l [] n n 0 rfl hn (by omega) (by simp)) ?_
    simp
  · simp only [if_neg h]
    exact Ev.now _

theorem parL_sum (l : List Int) {n : Nat} (h : isP l = true) (hs : sumL l = (n : Int)) : parL (n : Int) l = true := by
  obtain ⟨h1, h2, h3, h4⟩ := isP_true h
  cases l with
  | nil => rfl
  | cons x s =>
    obtain ⟨g1, g2, g3⟩ := parL_cons h1
    have := sumL_nonneg fun y hy => (by have := parL_in g3 y hy; omega : 0 ≤ y)
    simp only [sumL] at hs
    exact parL_mk g1 (by omega) g3
theorem impl_CountParted_ev (n m : Int) : Ev (fun k => impl_CountParted.f k n m) (if (inB n 0 20 && inB m 0 20) = true then (((pc n.toNat m.toNat : Nat) : Int), true) else (0, false)) := by
  unfold impl_CountParted.f
  simp only [impl_within_eq, obind]
  cases h : inB n 0 20 with
  | false => simp only [Bool.false_eq_true, if_false, Bool.false_and]; exact Ev.now _
  | true =>
    simp only [if_true, Bool.true_and]
    cases h2 : inB m 0 20 with
    | false => simp only [Bool.false_eq_true, if_false]; exact Ev.now _
    | true =>
      have h1 := inB_true.1 h
      have h3 := inB_true.1 h2
      obtain ⟨n, rfl⟩ : ∃ a : Nat, n = (a : Int) := ⟨n.toNat, by omega⟩
      obtain ⟨m, rfl⟩ : ∃ a : Nat, m = (a : Int) := ⟨m.toNat, by omega⟩
      simp only [if_true, Int.toNat_natCast]
      refine Ev.bind (impl_countParted_ev n m (by omega) (by omega)) ?_
      exact Ev.now _

theorem impl_PartedOf_loop (m : Nat) (hm : m ≤ 20) (c : Nat) (hc : c = pc m m) (d : Nat) : ∀ r : Nat, r + d = c →
    Ev (fun k => impl_PartedOf.l0 k (m : Int) ((List.range r).map fun r => unP m m r) (c : Int) (r : Int)) (allP m, true) := by
  have hg := pc_small (n := m) (x := m) (by omega) (by omega)
  induction d with
  | zero =>
    intro r hr
    have e : r = c := by omega
    subst e
    refine Ev.done fun k => ?_
    simp only [impl_PartedOf.l0]
    rw [if_neg (by omega), hc]; rfl
  | succ d ih =>
    intro r hr
    have hw : Ev (fun k => impl_partedWith.f k (m : Int) (r : Int)) (unP m m r) := by
      have := impl_partedWith_l0 m m m r [] (Nat.le_refl _) hm hm (by simp; omega) (by omega)
      rw [List.nil_append] at this
      exact this
    have := ih (r + 1) (by omega)
    rw [List.range_succ, List.map_append] at this
    refine Ev.succ ?_
    simp only [impl_PartedOf.l0]
    simp only [if_pos (show (r : Int) < (c : Int) by omega)]
    refine Ev.bind hw ?_
    simp only [if_pos (show ((List.range r).map fun r => unP m m r).length < 5864062014805 by simp; omega), i_up (show r ≤ 1099511627776 by omega)]
    exact this
theorem impl_PartedOf_ev (n : Int) : Ev (fun k => impl_PartedOf.f k n) (if inB n 0 20 = true then (allP n.toNat, true) else ([], false)) := by
  unfold impl_PartedOf.f
  simp only [impl_within_eq, obind]
  cases h : inB n 0 20 with
  | false => simp only [Bool.false_eq_true, if_false]; exact Ev.now _
  | true =>
    have h1 := inB_true.1 h
    obtain ⟨m, rfl⟩ : ∃ m : Nat, n = (m : Int) := ⟨n.toNat, by omega⟩
    simp only [if_true, Int.toNat_natCast]
    refine Ev.bind (impl_countParted_ev m m (by omega) (by omega)) ?_
    exact impl_PartedOf_loop m (by omega) _ rfl (pc m m) 0 (by omega)

theorem draw_PartedWith (l : List Int) (hb : Bytes l) : ∃ n rank, Ev (fun k => spec_DrawPartedWith.f k l) (n, rank) ∧ (-1 ≤ n ∧ n ≤ 22) ∧ (-1 ≤ rank ∧ rank ≤ 1099511627776) := by
  unfold spec_DrawPartedWith.f
  obtain ⟨x, a1, s1, h1, h2, h3⟩ := cur_pick hb 0 23 (show CurAt 0 0 from ⟨by omega, by omega⟩) (by omega)
  have e : wrap64 (x - 1) = x - 1 := w64 (by omega)
  have ht : spec_spTotal.f (x - 1) = some (inB (x - 1) 0 20) := by unfold spec_spTotal.f; rw [spec_l1In_eq, obind]
  simp only [h1, obind, e, ht]
  cases h : inB (x - 1) 0 20 with
  | false => simp only [Bool.false_eq_true, if_false]; exact ⟨_, _, Ev.now _, by omega, by omega⟩
  | true =>
    have hn := inB_true.1 h
    obtain ⟨m, hm⟩ : ∃ m : Nat, x - 1 = (m : Int) := ⟨(x - 1).toNat, by omega⟩
    have hg := pc_small (n := m) (x := m) (by omega) (by omega)
    obtain ⟨y, a2, s2, h4, h5, h6⟩ := cur_rank9 hb s1 ((pc m m : Nat) : Int) (by omega) h3 (by omega)
    refine ⟨_, y, ?_, show -1 ≤ x - 1 ∧ x - 1 ≤ 22 by omega, by omega⟩
    simp only [if_true, hm]
    refine Ev.bind (spec_spCount_ev m m (by omega) (by omega)) ?_
    simp only [h4, obind]
    exact Ev.now _
theorem parted_short (m few : Nat) (hm : m ≤ 1000) (s : List (List Int)) : ∀ (p : List (List Int)) (c : Nat) (n i : Int), n = ((p ++ s).length : Int) → i = (p.length : Int) → (p ++ s).length ≤ 1000 → (∀ x ∈ s, x.length ≤ 1000) → c ≤ p.length → few ≤ 1000 →
    Ev (fun k => laws_FnPartedNumbers.l0 k (m : Int) (few : Int) (c : Int) (p ++ s) n i) (decide (c + s.countP (lenLe m) = few)) := by
  induction s with
  | nil =>
    intro p c n i hn hi hl hs hc hf
    refine Ev.done fun k => ?_
    simp only [laws_FnPartedNumbers.l0]
    rw [if_neg (by rw [List.append_nil] at hn; omega)]
    congr 1
    rw [Bool.eq_iff_iff, beq_iff_eq, decide_eq_true_iff]
    simp; omega
  | cons x s ih =>
    intro p c n i hn hi hl hs hc hf
    have h1 : (((p ++ x :: s).length : Nat) : Int) = p.length + s.length + 1 := by simp; omega
    have er : rd_L1 (p ++ x :: s) i = x := by subst hi; simp [rd_L1]
    have e2 : p ++ x :: s = (p ++ [x]) ++ s := by simp
    have hx := hs x (List.mem_cons_self ..)
    have c1 : i < n := by omega
    have c2 : 0 ≤ i := by omega
    have c3 : i < (((p ++ x :: s).length : Nat) : Int) := by omega
    have e3 : wrap64 (i + 1) = i + 1 := w64 (by omega)
    refine Ev.succ ?_
    simp only [laws_FnPartedNumbers.l0]
    simp only [if_pos c1, if_pos c2, if_pos c3, er, e3]
    by_cases h : (x.length : Int) ≤ (m : Int)
    · have := ih (p ++ [x]) (c + 1) n (i + 1) (by rw [← e2]; exact hn) (by simp; omega) (by rw [← e2]; exact hl) (fun y hy => hs y (List.mem_cons_of_mem _ hy)) (by simp; omega) hf
      rw [← e2] at this
      simp only [if_pos h, i_up (show c ≤ 1099511627776 by simp at hl; omega)]
      refine Ev.to this ?_
      rw [List.countP_cons, show lenLe m x = true from decide_eq_true (by omega)]
      simp only [if_true]
      congr 1
      apply propext; omega
    · have := ih (p ++ [x]) c n (i + 1) (by rw [← e2]; exact hn) (by simp; omega) (by rw [← e2]; exact hl) (fun y hy => hs y (List.mem_cons_of_mem _ hy)) (by simp; omega) hf
      rw [← e2] at this
      simp only [if_neg h]
      refine Ev.to this ?_
      rw [List.countP_cons, show lenLe m x = false from decide_eq_false (by omega)]
      simp
theorem FnPartedNumbers : laws_FnPartedNumbers.Pure := by
  intro l0 l1 _ _ hb0 _ _ _
  unfold laws_FnPartedNumbers.f
  rcases laws_big_ok l0 l1 with hbig | ⟨hbig, hl0, hl1⟩
  · exact ⟨0, by rw [hbig, obind, if_pos rfl]⟩
  simp only [hbig, obind, Bool.false_eq_true, if_false]
  obtain ⟨n, rank, hd, hn, hr⟩ := draw_PartedWith l0 (bytes_wf hb0)
  have hi := impl_PartedWith_ev n rank
  have hs := spec_PartedWith_ev n rank
  have hc := impl_CountParted_ev n n
  refine (Ev.bind hd (Ev.bind hi (Ev.bind hs ?_))).rounds
  have hlen : (if isPk n rank = true then (unP n.toNat n.toNat rank.toNat, true) else ([], false) : List Int × Bool).1.length ≤ 100 := by
    split
    · exact Nat.le_trans (unP_len _ _ _) (by omega)
    · simp
  simp only [bne_self_eq_false, Bool.false_eq_true, if_false]
  refine Ev.bind (laws_tSame_self _ (by omega)) ?_
  refine Ev.succ ?_
  simp only [laws_FnPartedNumbers.j0, Bool.not_true, Bool.false_eq_true, if_false]
  refine Ev.bind hc ?_
  have no : ∀ (a b : Int), Ev (fun k => laws_FnPartedNumbers.j1 k n rank (if isPk n rank = true then (unP n.toNat n.toNat rank.toNat, true) else ([], false) : List Int × Bool).1 false a false) true := fun a b =>
    Ev.done fun k => by simp only [laws_FnPartedNumbers.j1, Bool.false_eq_true, if_false]
  cases hcn : inB n 0 20 with
  | false =>
    have e : isPk n rank = false := by unfold isPk; rw [hcn, Bool.false_and]
    simp only [e, Bool.false_and, Bool.false_eq_true, if_false, bne_self_eq_false]
    exact Ev.done fun k => by simp only [laws_FnPartedNumbers.j1, Bool.false_eq_true, if_false]
  | true =>
    have hn := inB_true.1 hcn
    obtain ⟨m, rfl⟩ : ∃ m : Nat, n = (m : Int) := ⟨n.toNat, by omega⟩
    have hg := pc_small (n := m) (x := m) (by omega) (by omega)
    simp only [Bool.and_self, if_true, Int.toNat_natCast]
    by_cases h0 : rank ≥ 0
    · simp only [if_pos h0]
      obtain ⟨r, rfl⟩ : ∃ r : Nat, rank = (r : Int) := ⟨rank.toNat, by omega⟩
      have e : isPk (m : Int) (r : Int) = decide ((r : Int) < ((pc m m : Nat) : Int)) := by
        unfold isPk; rw [hcn, Bool.true_and, Int.toNat_natCast, Bool.eq_iff_iff, inB_true, decide_eq_true_iff]; omega
      have e1 : isPk (m : Int) ((r : Int) + 1) = decide ((r : Int) + 1 < ((pc m m : Nat) : Int)) := by
        unfold isPk; rw [hcn, Bool.true_and, Int.toNat_natCast, Bool.eq_iff_iff, inB_true, decide_eq_true_iff]; omega
      rw [← e]
      cases hk : isPk (m : Int) (r : Int) with
      | false =>
        simp only [Bool.false_eq_true, if_false, bne_self_eq_false]
        exact Ev.done fun k => by simp only [laws_FnPartedNumbers.j1, Bool.false_eq_true, if_false]
      | true =>
        simp only [if_true, bne_self_eq_false, Int.toNat_natCast]
        rw [hk] at e
        have hlt : r < pc m m := by have := of_decide_eq_true e.symm; omega
        obtain ⟨us, up⟩ := unP_ok (n := m) (rank := r) (by omega) hlt
        have ul := unP_len m m r
        obtain ⟨u1, u2, u3, u4⟩ := isP_true up
        have hrk := impl_RankParted_ev (unP m m r) (by omega)
        rw [if_pos up, us, Int.toNat_natCast, show rkP m m (unP m m r) = r from rk_unPF m m m r (Nat.le_refl _) (by omega) (by omega) hlt] at hrk
        have hi2 := impl_PartedWith_ev (m : Int) ((r : Int) + 1)
        rw [e1] at hi2
        have hco := impl_ConjugateOf_ev (unP m m r) (by omega)
        rw [if_pos up] at hco
        have cp := conj_isP up
        obtain ⟨v1, v2, v3, v4⟩ := isP_true cp
        have hco2 := impl_ConjugateOf_ev (conjL (unP m m r)) (by omega)
        rw [if_pos cp, conj_conj up] at hco2
        have hip := impl_IsParted_ev (unP m m r) (by omega)
        rw [up] at hip
        have hts := laws_tSum_ev (unP m m r) (fun x hx => by have := u4 x hx; omega) (by omega)
        rw [us] at hts
        have htc := laws_tSum_ev (conjL (unP m m r)) (fun x hx => by have := v4 x hx; omega) (by omega)
        rw [conj_sum u1, us] at htc
        have j2 : Ev (fun k => laws_FnPartedNumbers.j2 k (m : Int) (r : Int) (unP m m r) ((pc m m : Nat) : Int) false) true := by
          have hcf := impl_CountParted_ev (m : Int) ((unP m m r).length : Int)
          rw [if_pos (by rw [inB_yes (show 0 ≤ (m : Int) ∧ (m : Int) ≤ 20 by omega), inB_yes (by omega)]; rfl)] at hcf
          simp only [Int.toNat_natCast] at hcf
          have hpo := impl_PartedOf_ev (m : Int)
          rw [if_pos (inB_yes (by omega)), Int.toNat_natCast] at hpo
          have hal := allP_len m
          have hrd : rd_L1 (allP m) (r : Int) = unP m m r := by
            unfold rd_L1 allP
            rw [Int.toNat_natCast, List.getD_eq_getElem?_getD, List.getElem?_map, List.getElem?_range hlt]; rfl
          have hfm := pc_small (n := m) (x := (unP m m r).length) (by omega) (by omega)
          refine Ev.succ ?_
          simp only [laws_FnPartedNumbers.j2, Bool.false_eq_true, if_false]
          refine Ev.bind hcf (Ev.bind hpo ?_)
          simp only [if_true, hal, if_pos (show 0 ≤ (r : Int) by omega), if_pos (show (r : Int) < ((pc m m : Nat) : Int) by omega), hrd]
          refine Ev.bind (laws_tSame_self _ (by omega)) ?_
          refine Ev.succ ?_
          simp only [laws_FnPartedNumbers.j3, Bool.not_true, Bool.false_eq_true, if_false]
          have := parted_short (unP m m r).length (pc m (unP m m r).length) (by omega) (allP m) [] 0 ((allP m).length : Int) 0 rfl rfl (by simp [hal]; omega) (fun x hx => by
            unfold allP at hx
            obtain ⟨q, _, rfl⟩ := List.mem_map.1 hx
            exact Nat.le_trans (unP_len _ _ _) (by omega)) (by simp) (by omega)
          rw [allP_few (by omega) (by omega), Nat.zero_add] at this
          simp only [List.nil_append, decide_true] at this
          exact this
        refine Ev.succ ?_
        simp only [laws_FnPartedNumbers.j1, Bool.false_eq_true, if_false, if_true]
        rw [show wrap64 ((r : Int) + 1) = (r : Int) + 1 from w64 (by omega)]
        refine Ev.bind hrk (Ev.bind hi2 (Ev.bind hco (Ev.bind hco2 ?_)))
        simp only [if_true]
        refine Ev.bind hip ?_
        simp only [if_true]
        refine Ev.bind hts ?_
        simp only [if_true]
        refine Ev.bind htc ?_
        simp only [if_true]
        refine Ev.bind (laws_tSame_self _ (by omega)) ?_
        simp only [if_true]
        by_cases hx : (r : Int) + 1 < ((pc m m : Nat) : Int)
        · simp only [decide_eq_true hx, if_true, bne_self_eq_false, Bool.false_eq_true, if_false]
          have er : ((r : Int) + 1).toNat = r + 1 := by omega
          rw [er, Int.toNat_natCast]
          have ul2 := unP_len m m (r + 1)
          refine Ev.bind (laws_tLess_ev _ _ (by omega) (by omega)) ?_
          rw [show lexLt (unP m m (r + 1)) (unP m m r) = true from unPF_lt m m m r (r + 1) (Nat.le_refl _) (by omega) (by omega) (by omega) (by omega)]
          exact j2
        · simp only [decide_eq_false hx, Bool.false_eq_true, if_false, bne_self_eq_false]
          exact j2
    · have e : isPk (m : Int) rank = false := by
        unfold isPk; rw [show inB rank 0 (((pc (m : Int).toNat (m : Int).toNat : Nat) : Int) - 1) = false from inB_no (by omega), Bool.and_false]
      simp only [if_neg h0, e, Bool.false_eq_true, if_false, bne_self_eq_false]
      exact Ev.done fun k => by simp only [laws_FnPartedNumbers.j1, Bool.false_eq_true, if_false]

end Go.Proofs.Ythaplgbhhppniaa.Pure
