/- The list of growths with one change at a time has each growth once: for all rows of bytes that code and more may be. -/
import Derived.Test.YthaplgbhhppniaaHFnGrayGrowthsx5
import Derived.Test.YthaplgbhhppniaaCoreA
import Derived.Test.YthaplgbhhppniaaCoreG
import Derived.Test.YthaplgbhhppniaaCoreGG
namespace Go.Proofs.Ythaplgbhhppniaa.Pure
open Go.RowKit Go.Proofs.Ythaplgbhhppniaa.HFnGrayGrowths Go.Proofs.YthaplgbhhppniaaW.PrintWords Go.Proofs.YthaplgbhhppniaaW.PrintLast Go.Proofs.YthaplgbhhppniaaW.PrintMore Go.Proofs.Ythaplgbhhppniaa.Core
set_option linter.unusedVariables false
set_option linter.unusedSimpArgs false

theorem laws_big_ok (a b : List Int) : laws_big.f a b = some true ∨ (laws_big.f a b = some false ∧ a.length ≤ 1048576 ∧ b.length ≤ 1048576) := by
  unfold laws_big.f
  by_cases h : (a.length : Int) > 1048576
  · rw [if_pos h]; exact .inl rfl
  · rw [if_neg h, w64 (by omega)]
    by_cases h2 : (b.length : Int) > 1048576 - (a.length : Int)
    · rw [decide_eq_true h2]; exact .inl rfl
    · rw [decide_eq_false h2]; exact .inr ⟨rfl, by omega, by omega⟩

theorem laws_tSame_loop (s : List Int) : ∀ (p : List Int) (n i : Int), n = ((p ++ s).length : Int) → i = (p.length : Int) → (p ++ s).length ≤ 1099511627776 →
    Ev (fun k => laws_tSame.l0 k (p ++ s) (p ++ s) n i) true := by
  induction s with
  | nil =>
    intro p n i hn hi hl
    refine Ev.done fun k => ?_
    simp only [laws_tSame.l0]
    rw [if_neg (by rw [len_nil] at hn; omega)]
  | cons x s ih =>
    intro p n i hn hi hl
    have h1 := len_mid p s x
    have := ih (p ++ [x]) n (i + 1) (by rw [← snoc_mid]; exact hn) (by rw [len_snoc]; omega) (by rw [← snoc_mid]; exact hl)
    rw [← snoc_mid] at this
    refine Ev.step' this fun k => ?_
    simp only [laws_tSame.l0]
    rw [if_pos (by omega), if_pos (by omega), if_pos (by omega), if_pos (by omega), if_pos trivial, w64 (by omega)]
theorem laws_tSame_self (l : List Int) (hl : l.length ≤ 1099511627776) : Ev (fun k => laws_tSame.f k l l) true := by
  unfold laws_tSame.f
  simp only [if_true]
  exact laws_tSame_loop l [] _ 0 (by simp) (by simp) (by simpa using hl)

theorem laws_tSameRows_loop (s : List (List Int)) : ∀ (p : List (List Int)) (n i : Int), n = ((p ++ s).length : Int) → i = (p.length : Int) → (p ++ s).length ≤ 1073741824 → (∀ x ∈ s, x.length ≤ 1073741824) →
    Ev (fun k => laws_tSameRows.l0 k (p ++ s) (p ++ s) n i) true := by
  induction s with
  | nil =>
    intro p n i hn hi hl hs
    refine Ev.done fun k => ?_
    simp only [laws_tSameRows.l0]
    rw [if_neg (by rw [List.append_nil] at hn; omega)]
  | cons x s ih =>
    intro p n i hn hi hl hs
    have h1 : (((p ++ x :: s).length : Nat) : Int) = p.length + s.length + 1 := by simp; omega
    have er : rd_L1 (p ++ x :: s) i = x := by subst hi; simp [rd_L1]
    have e2 : p ++ x :: s = (p ++ [x]) ++ s := by simp
    have := ih (p ++ [x]) n (i + 1) (by rw [← e2]; exact hn) (by simp; omega) (by rw [← e2]; exact hl) (fun y hy => hs y (List.mem_cons_of_mem _ hy))
    rw [← e2] at this
    refine Ev.succ ?_
    simp only [laws_tSameRows.l0]
    simp only [if_pos (show i < n by omega), if_pos (show 0 ≤ i by omega), if_pos (show i < (((p ++ x :: s).length : Nat) : Int) by omega), er, show wrap64 (i + 1) = i + 1 from w64 (by omega)]
    refine Ev.bind (laws_tSame_self x (by have := hs x (List.mem_cons_self ..); omega)) ?_
    simp only [if_true]
    exact this
theorem laws_tSameRows_self (l : List (List Int)) (hl : l.length ≤ 1073741824) (hs : ∀ x ∈ l, x.length ≤ 1073741824) : Ev (fun k => laws_tSameRows.f k l l) true := by
  unfold laws_tSameRows.f
  simp only [if_true]
  exact laws_tSameRows_loop l [] _ 0 (by simp) (by simp) (by simpa using hl) hs

theorem laws_tFar_loop (s : List Int) : ∀ (t p q : List Int) (c n i : Int), p.length = q.length → s.length = t.length → n = ((p ++ s).length : Int) → i = (p.length : Int) → (p ++ s).length ≤ 1073741824 → 0 ≤ c ∧ c ≤ p.length →
    Ev (fun k => laws_tFar.l0 k (p ++ s) (q ++ t) c n i) (c + farL s t) := by
  induction s with
  | nil =>
    intro t p q c n i hpq hst hn hi hl hc
    refine Ev.to (Ev.done fun k => ?_) (show c = _ by cases t <;> simp [farL])
    simp only [laws_tFar.l0]
    rw [if_neg (by rw [len_nil] at hn; omega)]
  | cons x s ih =>
    intro t p q c n i hpq hst hn hi hl hc
    obtain ⟨y, t, rfl⟩ : ∃ y u, t = y :: u := by
      cases t with
      | nil => simp at hst
      | cons y u => exact ⟨y, u, rfl⟩
    have h1 := len_mid p s x
    have h2 := len_mid q t y
    have hst' : s.length = t.length := by simpa using hst
    have step : ∀ c', 0 ≤ c' ∧ c' ≤ (p.length : Int) + 1 → Ev (fun k => laws_tFar.l0 k (p ++ x :: s) (q ++ y :: t) c' n (i + 1)) (c' + farL s t) := fun c' hc' => by
      have := ih t (p ++ [x]) (q ++ [y]) c' n (i + 1) (by simp [hpq]) hst' (by rw [← snoc_mid]; exact hn) (by rw [len_snoc]; omega) (by rw [← snoc_mid]; exact hl) (by rw [len_snoc]; exact hc')
      rw [← snoc_mid, ← snoc_mid] at this
      exact this
    have hlen : (p ++ x :: s).length = p.length + s.length + 1 := by simp; omega
    refine Ev.succ ?_
    simp only [laws_tFar.l0]
    simp only [if_pos (show i < n by omega), if_pos (show 0 ≤ i by omega), if_pos (show i < (((p ++ x :: s).length : Nat) : Int) by omega), if_pos (show i < (((q ++ y :: t).length : Nat) : Int) by omega), rd_mid (p := p) (s := s) (x := x) hi, rd_mid (p := q) (s := t) (x := y) (show i = (q.length : Int) by omega), show wrap64 (i + 1) = i + 1 from w64 (by omega), show wrap64 (c + 1) = c + 1 from w64 (by omega)]
    by_cases e : x = y
    · simp only [if_pos e, farL]
      exact Ev.to (step c (by omega)) (by omega)
    · simp only [if_neg e, farL]
      exact Ev.to (step (c + 1) (by omega)) (by omega)
theorem laws_tFar_ev (a b : List Int) (h : a.length = b.length) (hl : a.length ≤ 1073741824) : Ev (fun k => laws_tFar.f k a b) (farL a b) := by
  unfold laws_tFar.f
  simp only [if_pos (show (a.length : Int) = (b.length : Int) by omega)]
  exact Ev.to (laws_tFar_loop a b [] [] 0 _ 0 rfl h (by simp) (by simp) (by simpa using hl) (by simp)) (by omega)

/-! ### the reader of draws: it tells a number always -/
theorem and255 (E : Int) (h0 : 0 ≤ E) (h1 : E ≤ 18446744073709551615) : 0 ≤ Go.bits .and .u64 E 255 ∧ Go.bits .and .u64 E 255 ≤ 255 := by
  have h := Go.bits_and_u64_nat E.toNat 255 (by omega) (by omega)
  rw [Int.toNat_of_nonneg h0] at h
  have h2 : E.toNat &&& 255 ≤ 255 := Nat.and_le_right
  have h3 : Go.bits .and .u64 E 255 = ((E.toNat &&& 255 : Nat) : Int) := h
  omega
theorem u64_in (n : Int) : 0 ≤ IntKind.u64.wrap n ∧ IntKind.u64.wrap n ≤ 18446744073709551615 := by
  have e : IntKind.u64.wrap n = n % 18446744073709551616 := rfl
  rw [e]; omega
theorem draw_in (n : Int) : 0 ≤ wrap64 (Go.bits .and .u64 (IntKind.u64.wrap n / 1099511627776) 255) ∧ wrap64 (Go.bits .and .u64 (IntKind.u64.wrap n / 1099511627776) 255) ≤ 255 := by
  have h := u64_in n
  have h2 := and255 (IntKind.u64.wrap n / 1099511627776) (by omega) (by omega)
  rw [w64 (by omega)]; exact h2
def Bytes (l : List Int) : Prop := ∀ x ∈ l, 0 ≤ x ∧ x ≤ 255
theorem bytes_wf {l : List Int} (h : ∀ x ∈ l, (Lit.int .u8 x).wf = true) : Bytes l := by
  intro x hx
  have h1 := h x hx
  unfold Lit.wf at h1
  rw [Bool.and_eq_true, decide_eq_true_iff, decide_eq_true_iff] at h1
  exact h1
def CurAt (m : Nat) (a : Int) : Prop := (0 ≤ a ∧ a ≤ (m : Int)) ∧ m ≤ 1152921504606846976
theorem CurAt.mono {m n : Nat} {a : Int} (h : CurAt m a) (hn : m ≤ n) (hm : n ≤ 1152921504606846976) : CurAt n a := by
  obtain ⟨⟨h1, h2⟩, h3⟩ := h
  exact ⟨⟨h1, by omega⟩, hm⟩
theorem cur_next {l : List Int} (hb : Bytes l) {m : Nat} {a : Int} (s : Int) (h : CurAt m a) (hm : m < 1152921504606846976) :
    ∃ b a' s', spec_l1Cur_next.f l a s = some (b, a', s') ∧ (0 ≤ b ∧ b ≤ 255) ∧ CurAt (m + 1) a' := by
  obtain ⟨⟨h1, h2⟩, _⟩ := h
  have e : wrap64 (a + 1) = a + 1 := w64 (by omega)
  unfold spec_l1Cur_next.f
  rw [e]
  by_cases c1 : a < (l.length : Int)
  · have hr := hb _ (rd_mem h1 c1)
    rw [if_pos c1, if_pos h1, w64 (n := rd l a) (by omega)]
    by_cases c2 : a + 1 ≤ (l.length : Int)
    · rw [if_pos c2]; exact ⟨_, _, _, rfl, hr, ⟨by omega, by omega⟩, by omega⟩
    · rw [if_neg c2]; exact ⟨_, _, _, rfl, draw_in _, ⟨by omega, by omega⟩, by omega⟩
  · rw [if_neg c1]
    by_cases c2 : a + 1 ≤ (l.length : Int)
    · rw [if_pos c2]; exact ⟨_, _, _, rfl, ⟨by omega, by omega⟩, ⟨by omega, by omega⟩, by omega⟩
    · rw [if_neg c2]; exact ⟨_, _, _, rfl, draw_in _, ⟨by omega, by omega⟩, by omega⟩
theorem tmod_in {b n : Int} (hb : 0 ≤ b) (hn : 1 < n) : 0 ≤ Int.tmod b n ∧ Int.tmod b n < n := by
  obtain ⟨c, rfl⟩ : ∃ c : Nat, b = (c : Int) := ⟨b.toNat, by omega⟩
  obtain ⟨k, rfl⟩ : ∃ k : Nat, n = (k : Int) := ⟨n.toNat, by omega⟩
  have e : Int.tmod (c : Int) (k : Int) = ((c % k : Nat) : Int) := rfl
  have := Nat.mod_lt c (show 0 < k by omega)
  rw [e]; omega
theorem cur_pick {l : List Int} (hb : Bytes l) {m : Nat} {a : Int} (s n : Int) (h : CurAt m a) (hm : m + 2 ≤ 1152921504606846976) :
    ∃ x a' s', spec_l1Cur_pick.f l a s n = some (x, a', s') ∧ (0 ≤ x ∧ x ≤ max (n - 1) 0) ∧ CurAt (m + 2) a' := by
  unfold spec_l1Cur_pick.f
  by_cases c1 : n ≤ 1
  · rw [if_pos c1]; exact ⟨_, _, _, rfl, ⟨by omega, by omega⟩, h.mono (by omega) (by omega)⟩
  · rw [if_neg c1]
    obtain ⟨b, a1, s1, h1, h2, h3⟩ := cur_next hb s h (by omega)
    rw [h1, obind]
    simp only
    have c0 : ¬ n = 0 := by omega
    by_cases c2 : n > 200
    · rw [if_pos c2]
      obtain ⟨b2, a2, s2, h4, h5, h6⟩ := cur_next hb s1 h3 (by omega)
      rw [h4, obind, if_neg c0]
      simp only
      rw [w64 (n := b * 256) (by omega), w64 (n := b * 256 + b2) (by omega)]
      have := tmod_in (b := b * 256 + b2) (n := n) (by omega) (by omega)
      exact ⟨_, _, _, rfl, ⟨by omega, by omega⟩, h6⟩
    · rw [if_neg c2, if_neg c0]
      have := tmod_in (b := b) (n := n) (by omega) (by omega)
      exact ⟨_, _, _, rfl, ⟨by omega, by omega⟩, h3.mono (by omega) (by omega)⟩

theorem spec_l1Most_eq (a b : Int) : spec_l1Most.f a b = some (max a b) := most_max a b

theorem spec_spTop_loop (s : List Int) : ∀ (p : List Int) (m n i : Int), n = ((p ++ s).length : Int) → i = (p.length : Int) → (p ++ s).length ≤ 1099511627776 →
    Ev (fun k => spec_spTop.l0 k m (p ++ s) n i) (s.foldl max m) := by
  induction s with
  | nil =>
    intro p m n i hn hi hl
    refine Ev.to (Ev.done fun k => ?_) (show m = _ by simp)
    simp only [spec_spTop.l0]
    rw [if_neg (by rw [len_nil] at hn; omega)]
  | cons x s ih =>
    intro p m n i hn hi hl
    have h1 := len_mid p s x
    have := ih (p ++ [x]) (max m x) n (i + 1) (by rw [← snoc_mid]; exact hn) (by rw [len_snoc]; omega) (by rw [← snoc_mid]; exact hl)
    rw [← snoc_mid] at this
    refine Ev.to (Ev.step' this fun k => ?_) (by simp)
    simp only [spec_spTop.l0]
    rw [if_pos (by omega), if_pos (by omega), if_pos (by omega), rd_mid hi, spec_l1Most_eq, w64 (by omega)]
    rfl
theorem spec_spTop_ev (l : List Int) (hl : l.length ≤ 1099511627776) : Ev (fun k => spec_spTop.f k l) (l.foldl max (-1)) :=
  spec_spTop_loop l [] (-1) _ 0 rfl (by simp) (by simpa using hl)

theorem spec_l1In_eq (a b c : Int) : spec_l1In.f a b c = some (inB a b c) := inB_ite a b c

theorem impl_within_eq (a b c : Int) : impl_within.f a b c = some (inB a b c) := inB_ite a b c

theorem impl_copied_eq (l : List Int) (hl : l.length ≤ 1000000) : impl_copied.f l = some l := by
  unfold impl_copied.f
  rw [obind, if_pos (by simp; omega), List.nil_append]

theorem spec_spWith_eq (l : List Int) (x : Int) (hl : l.length ≤ 1000) : spec_spWith.f l x = some (l ++ [x]) := by
  unfold spec_spWith.f
  have h : spec_l1Own.f l = some l := by
    unfold spec_l1Own.f
    rw [obind, if_pos (by simp; omega), List.nil_append]
  rw [h, obind, if_pos (by omega)]
theorem impl_put_eq (l : List Int) (x : Int) (hl : l.length ≤ 1000) : impl_put.f l x = some (l ++ [x]) := by
  unfold impl_put.f
  rw [impl_copied_eq l (by omega), obind, if_pos (by omega)]
theorem topL_in {a : List Int} (h : okRow a = true) : 0 ≤ topL a ∧ topL a ≤ 100 := by
  unfold okRow at h
  rw [Bool.and_eq_true, decide_eq_true_iff, List.all_eq_true] at h
  obtain ⟨⟨h1, h2⟩, h3⟩ := h
  have key : ∀ (s : List Int) (m : Int), -1 ≤ m → m ≤ 100 → (∀ x ∈ s, inB x 0 100 = true) → m ≤ s.foldl max m ∧ s.foldl max m ≤ 100 := by
    intro s
    induction s with
    | nil => intro m _ _ _; simp only [List.foldl_nil]; omega
    | cons x s ih =>
      intro m hm hm2 hs
      have hx := inB_true.1 (hs x (List.mem_cons_self ..))
      have := ih (max m x) (by omega) (by omega) (fun y hy => hs y (List.mem_cons_of_mem _ hy))
      simp only [List.foldl_cons]; omega
  obtain ⟨x, s, rfl⟩ : ∃ x s, a = x :: s := by
    cases a with
    | nil => simp at h1
    | cons x s => exact ⟨x, s, rfl⟩
  have hx := inB_true.1 (h3 x (List.mem_cons_self ..))
  have := key s (max (-1) x) (by omega) (by omega) (fun y hy => h3 y (List.mem_cons_of_mem _ hy))
  unfold topL
  simp only [List.foldl_cons]; omega
theorem okRow_len {a : List Int} (h : okRow a = true) : 1 ≤ a.length ∧ a.length ≤ 100 := by
  unfold okRow at h
  rw [Bool.and_eq_true, decide_eq_true_iff] at h
  exact h.1
theorem slices_Max_loop (s : List Int) : ∀ (p : List Int) (m i : Int), i = (p.length : Int) → (p ++ s).length ≤ 1000 → Ev (fun k => slices_Max_int_int.l0 k (p ++ s) m i) (s.foldl max m) := by
  induction s with
  | nil =>
    intro p m i hi hl
    refine Ev.done fun k => ?_
    simp only [slices_Max_int_int.l0]
    rw [if_neg (by rw [len_nil]; omega)]; rfl
  | cons x s ih =>
    intro p m i hi hl
    have h1 := len_mid p s x
    have := ih (p ++ [x]) (max m x) (i + 1) (by rw [len_snoc]; omega) (by rw [← snoc_mid]; exact hl)
    rw [← snoc_mid] at this
    refine Ev.step' this fun k => ?_
    simp only [slices_Max_int_int.l0]
    rw [if_pos (by omega), if_pos (by omega), rd_mid hi, mx_max, w64 (by omega)]
theorem slices_Max_ev (a : List Int) (h : okRow a = true) : Ev (fun k => slices_Max_int_int.f k a) (topL a) := by
  have hl := okRow_len h
  unfold okRow at h
  rw [Bool.and_eq_true, List.all_eq_true] at h
  obtain ⟨x, s, rfl⟩ : ∃ x s, a = x :: s := by
    cases a with
    | nil => simp at hl
    | cons x s => exact ⟨x, s, rfl⟩
  have hx := inB_true.1 (h.2 x (List.mem_cons_self ..))
  have hl2 : (((x :: s).length : Nat) : Int) = s.length + 1 := by simp
  unfold slices_Max_int_int.f
  simp only [if_neg (show ¬ (((x :: s).length : Nat) : Int) < 1 by omega), if_pos (show 0 < (((x :: s).length : Nat) : Int) by omega)]
  have := slices_Max_loop s [x] x 1 rfl (by simp at hl ⊢; omega)
  refine Ev.to this ?_
  unfold topL
  rw [List.foldl_cons, show max (-1) x = x by omega]
theorem spec_grays_l1 (a : List Int) (ha : a.length ≤ 100) (rows : List (List Int)) (n i : Int) (R : List (List Int)) (x : Nat) : ∀ out : List (List Int), out.length + x ≤ 200000 → x ≤ 1000 →
    Ev (fun k => spec_spGrays.l0 k (out ++ downL a x) rows n (wrap64 (i + 1))) R → Ev (fun k => spec_spGrays.l1 k out a (x : Int) rows n i) R := by
  induction x with
  | zero =>
    intro out ho hx h
    refine Ev.succ ?_
    simp only [spec_spGrays.l1, if_neg (show ¬ ((0 : Nat) : Int) ≥ 1 by omega)]
    simpa [downL] using h
  | succ x ih =>
    intro out ho hx h
    refine Ev.succ ?_
    simp only [spec_spGrays.l1, if_pos (show ((x + 1 : Nat) : Int) ≥ 1 by omega), spec_spWith_eq a _ (by omega), obind, if_pos (show out.length < 5864062014805 by omega), i_down (show x ≤ 1099511627776 by omega)]
    refine ih (out ++ [a ++ [((x + 1 : Nat) : Int)]]) (by simp; omega) (by omega) ?_
    simpa [downL] using h
theorem spec_grays_l2 (a : List Int) (ha : a.length ≤ 100) (rows : List (List Int)) (n i m : Int) (hm : 0 ≤ m ∧ m ≤ 1000) (R : List (List Int)) (d : Nat) : ∀ (x : Nat) (out : List (List Int)), (x : Int) + d = m + 2 → out.length + d + 1 ≤ 200000 →
    Ev (fun k => spec_spGrays.l0 k (out ++ (upL a x d ++ [a ++ [0]])) rows n (wrap64 (i + 1))) R → Ev (fun k => spec_spGrays.l2 k out a m (x : Int) rows n i) R := by
  have em : wrap64 (m + 1) = m + 1 := w64 (by omega)
  induction d with
  | zero =>
    intro x out hx ho h
    refine Ev.succ ?_
    simp only [spec_spGrays.l2, em, if_neg (show ¬ (x : Int) ≤ m + 1 by omega), spec_spWith_eq a _ (by omega), obind, if_pos (show out.length < 5864062014805 by omega)]
    simpa [upL] using h
  | succ d ih =>
    intro x out hx ho h
    refine Ev.succ ?_
    simp only [spec_spGrays.l2, em, if_pos (show (x : Int) ≤ m + 1 by omega), spec_spWith_eq a _ (by omega), obind, if_pos (show out.length < 5864062014805 by omega), i_up (show x ≤ 1099511627776 by omega)]
    refine ih (x + 1) (out ++ [a ++ [(x : Int)]]) (by omega) (by simp; omega) ?_
    simpa [upL] using h
theorem grayOf_len (i : Nat) {a : List Int} (h : okRow a = true) : (grayOf i a).length ≤ 200 := by
  have := topL_in h
  unfold grayOf
  split
  · simp [downL_len]; omega
  · simp [upL_len]; omega
theorem spec_grays_l0 (s : List (List Int)) : ∀ (p out : List (List Int)) (n : Int), n = ((p ++ s).length : Int) → (∀ a ∈ s, okRow a = true) → (p ++ s).length ≤ 1000 → out.length + 200 * s.length ≤ 190000 →
    Ev (fun k => spec_spGrays.l0 k out (p ++ s) n (p.length : Int)) (out ++ grayS p.length s) := by
  induction s with
  | nil =>
    intro p out n hn hs hl ho
    refine Ev.to (Ev.done fun k => ?_) (show out = _ by simp [grayS])
    simp only [spec_spGrays.l0]
    rw [if_neg (by rw [List.append_nil] at hn; omega)]
  | cons a s ih =>
    intro p out n hn hs hl ho
    have ha := hs a (List.mem_cons_self ..)
    have ht := topL_in ha
    have hal := okRow_len ha
    have hgl := grayOf_len p.length ha
    have h1 : (((p ++ a :: s).length : Nat) : Int) = p.length + s.length + 1 := by simp; omega
    have er : rd_L1 (p ++ a :: s) (p.length : Int) = a := by simp [rd_L1]
    have e2 : p ++ a :: s = (p ++ [a]) ++ s := by simp
    have hl2 : (p ++ a :: s).length = p.length + s.length + 1 := by simp; omega
    have hls : (a :: s).length = s.length + 1 := rfl
    have hsp := spec_spTop_ev a (by omega)
    have next := ih (p ++ [a]) (out ++ grayOf p.length a) n (by rw [← e2]; exact hn) (fun b hb => hs b (List.mem_cons_of_mem _ hb)) (by rw [← e2]; exact hl) (by simp; omega)
    rw [← e2, List.append_assoc] at next
    have el : (p ++ [a]).length = p.length + 1 := by simp
    rw [el] at next
    have et : Int.tmod ((p.length : Nat) : Int) 2 = ((p.length % 2 : Nat) : Int) := rfl
    refine Ev.succ ?_
    simp only [spec_spGrays.l0]
    simp only [if_pos (show (p.length : Int) < n by omega), if_pos (show 0 ≤ (p.length : Int) by omega), if_pos (show (p.length : Int) < (((p ++ a :: s).length : Nat) : Int) by omega), er]
    refine Ev.bind hsp ?_
    have e4 : a.foldl max (-1) = topL a := rfl
    rw [e4, et]
    obtain ⟨m, hm⟩ : ∃ m : Nat, topL a = (m : Int) := ⟨(topL a).toNat, by omega⟩
    have ew : wrap64 ((p.length : Int) + 1) = ((p.length + 1 : Nat) : Int) := i_up (by omega)
    show Ev _ (out ++ (grayOf p.length a ++ grayS (p.length + 1) s))
    unfold grayOf at next ⊢
    by_cases hp : p.length % 2 = 0
    · rw [if_pos hp] at next ⊢
      simp only [hp, if_pos (show ((0 : Nat) : Int) = 0 by rfl), spec_spWith_eq a 0 (by omega), obind, if_pos (show out.length < 5864062014805 by omega)]
      have e5 : wrap64 (topL a + 1) = (((topL a + 1).toNat : Nat) : Int) := by rw [w64 (by omega)]; omega
      rw [e5]
      refine spec_grays_l1 a (by omega) _ _ _ _ _ (out ++ [a ++ [0]]) (by simp; omega) (by omega) ?_
      rw [ew]
      simpa using next
    · rw [if_neg hp] at next ⊢
      simp only [if_neg (show ¬ ((p.length % 2 : Nat) : Int) = 0 from fun h => hp (Int.natCast_eq_zero.1 h))]
      refine spec_grays_l2 a (by omega) _ _ _ (topL a) (by omega) _ ((topL a + 1).toNat) 1 out (by omega) (by omega) ?_
      rw [ew]
      simpa using next
theorem spec_spGrays_ev (n : Nat) (h : n < 7) : Ev (fun k => spec_spGrays.f k ((n + 1 : Nat) : Int)) (gray n) := by
  induction n with
  | zero => refine Ev.done fun k => ?_; simp only [spec_spGrays.f]; rfl
  | succ n ih =>
    have h1 := ih (by omega)
    obtain ⟨g1, _, g3⟩ := gray_rows n (by omega)
    refine Ev.succ ?_
    simp only [spec_spGrays.f, if_neg (show ¬ ((n + 1 + 1 : Nat) : Int) = 1 by omega), i_down (show n + 1 ≤ 1099511627776 by omega)]
    refine Ev.bind h1 ?_
    have := spec_grays_l0 (gray n) [] [] _ rfl (fun a ha => List.all_eq_true.1 g1 a ha) (by simp; omega) (by simp; omega)
    exact this
theorem spec_GrayGrowths_ev (n : Int) : Ev (fun k => spec_GrayGrowths.f k n) (if inB n 1 7 = true then (gray (n.toNat - 1), true) else ([], false)) := by
  unfold spec_GrayGrowths.f
  simp only [spec_l1In_eq, obind]
  cases h : inB n 1 7 with
  | false => simp only [Bool.false_eq_true, if_false]; exact Ev.now _
  | true =>
    have h1 := inB_true.1 h
    obtain ⟨m, rfl⟩ : ∃ m : Nat, n = ((m + 1 : Nat) : Int) := ⟨(n - 1).toNat, by omega⟩
    simp only [if_true, Int.toNat_natCast, Nat.add_sub_cancel]
    refine Ev.bind (spec_spGrays_ev m (by omega)) ?_
    exact Ev.now _
theorem impl_grays_l2 (a : List Int) (ha : a.length ≤ 100) (N t : Int) (rows : List (List Int)) (n i : Int) (R : List (List Int) × Bool) (x : Nat) : ∀ out : List (List Int), out.length + x ≤ 200000 → x ≤ 1000 →
    Ev (fun k => impl_GrayGrowths.l1 k (out ++ downL a x) N t rows n (wrap64 (i + 1))) R → Ev (fun k => impl_GrayGrowths.l2 k out a (x : Int) N t rows n i) R := by
  induction x with
  | zero =>
    intro out ho hx h
    refine Ev.succ ?_
    simp only [impl_GrayGrowths.l2, if_neg (show ¬ ((0 : Nat) : Int) ≥ 1 by omega)]
    simpa [downL] using h
  | succ x ih =>
    intro out ho hx h
    refine Ev.succ ?_
    simp only [impl_GrayGrowths.l2, if_pos (show ((x + 1 : Nat) : Int) ≥ 1 by omega), impl_put_eq a _ (by omega), obind, if_pos (show out.length < 5864062014805 by omega), i_down (show x ≤ 1099511627776 by omega)]
    refine ih (out ++ [a ++ [((x + 1 : Nat) : Int)]]) (by simp; omega) (by omega) ?_
    simpa [downL] using h
theorem impl_grays_l3 (a : List Int) (ha : a.length ≤ 100) (N t : Int) (rows : List (List Int)) (n i m : Int) (hm : 0 ≤ m ∧ m ≤ 1000) (R : List (List Int) × Bool) (d : Nat) : ∀ (x : Nat) (out : List (List Int)), (x : Int) + d = m + 2 → out.length + d + 1 ≤ 200000 →
    Ev (fun k => impl_GrayGrowths.l1 k (out ++ (upL a x d ++ [a ++ [0]])) N t rows n (wrap64 (i + 1))) R → Ev (fun k => impl_GrayGrowths.l3 k out a m (x : Int) N t rows n i) R := by
  have em : wrap64 (m + 1) = m + 1 := w64 (by omega)
  induction d with
  | zero =>
    intro x out hx ho h
    refine Ev.succ ?_
    simp only [impl_GrayGrowths.l3, em, if_neg (show ¬ (x : Int) ≤ m + 1 by omega), impl_put_eq a _ (by omega), obind, if_pos (show out.length < 5864062014805 by omega)]
    simpa [upL] using h
  | succ d ih =>
    intro x out hx ho h
    refine Ev.succ ?_
    simp only [impl_GrayGrowths.l3, em, if_pos (show (x : Int) ≤ m + 1 by omega), impl_put_eq a _ (by omega), obind, if_pos (show out.length < 5864062014805 by omega), i_up (show x ≤ 1099511627776 by omega)]
    refine ih (x + 1) (out ++ [a ++ [(x : Int)]]) (by omega) (by simp; omega) ?_
    simpa [upL] using h
theorem impl_grays_l1 (N t : Int) (R : List (List Int) × Bool) (s : List (List Int)) : ∀ (p out : List (List Int)) (n : Int), n = ((p ++ s).length : Int) → (∀ a ∈ s, okRow a = true) → (p ++ s).length ≤ 1000 → out.length + 200 * s.length ≤ 190000 →
    Ev (fun k => impl_GrayGrowths.l0 k (out ++ grayS p.length s) N (wrap64 (t + 1))) R → Ev (fun k => impl_GrayGrowths.l1 k out N t (p ++ s) n (p.length : Int)) R := by
  induction s with
  | nil =>
    intro p out n hn hs hl ho h
    refine Ev.succ ?_
    simp only [impl_GrayGrowths.l1, if_neg (show ¬ (p.length : Int) < n by rw [List.append_nil] at hn; omega)]
    simpa [grayS] using h
  | cons a s ih =>
    intro p out n hn hs hl ho h
    have ha := hs a (List.mem_cons_self ..)
    have ht := topL_in ha
    have hal := okRow_len ha
    have hgl := grayOf_len p.length ha
    have h1 : (((p ++ a :: s).length : Nat) : Int) = p.length + s.length + 1 := by simp; omega
    have er : rd_L1 (p ++ a :: s) (p.length : Int) = a := by simp [rd_L1]
    have e2 : p ++ a :: s = (p ++ [a]) ++ s := by simp
    have hl2 : (p ++ a :: s).length = p.length + s.length + 1 := by simp; omega
    have hls : (a :: s).length = s.length + 1 := rfl
    have hsp := slices_Max_ev a ha
    have el : (p ++ [a]).length = p.length + 1 := by simp
    have next := ih (p ++ [a]) (out ++ grayOf p.length a) n (by rw [← e2]; exact hn) (fun b hb => hs b (List.mem_cons_of_mem _ hb)) (by rw [← e2]; exact hl) (by simp; omega) (by rw [el, List.append_assoc]; exact h)
    rw [← e2, el] at next
    have et : Int.tmod ((p.length : Nat) : Int) 2 = ((p.length % 2 : Nat) : Int) := rfl
    refine Ev.succ ?_
    simp only [impl_GrayGrowths.l1]
    simp only [if_pos (show (p.length : Int) < n by omega), if_pos (show 0 ≤ (p.length : Int) by omega), if_pos (show (p.length : Int) < (((p ++ a :: s).length : Nat) : Int) by omega), er]
    refine Ev.bind hsp ?_
    rw [et]
    have ew : wrap64 ((p.length : Int) + 1) = ((p.length + 1 : Nat) : Int) := i_up (by omega)
    unfold grayOf at next
    by_cases hp : p.length % 2 = 0
    · rw [if_pos hp] at next
      simp only [hp, if_pos (show ((0 : Nat) : Int) = 0 by rfl), impl_put_eq a 0 (by omega), obind, if_pos (show out.length < 5864062014805 by omega)]
      have e5 : wrap64 (topL a + 1) = (((topL a + 1).toNat : Nat) : Int) := by rw [w64 (by omega)]; omega
      rw [e5]
      refine impl_grays_l2 a (by omega) _ _ _ _ _ _ _ (out ++ [a ++ [0]]) (by simp; omega) (by omega) ?_
      rw [ew]
      simpa using next
    · rw [if_neg hp] at next
      simp only [if_neg (show ¬ ((p.length % 2 : Nat) : Int) = 0 from fun h => hp (Int.natCast_eq_zero.1 h))]
      refine impl_grays_l3 a (by omega) _ _ _ _ _ (topL a) (by omega) _ ((topL a + 1).toNat) 1 out (by omega) (by omega) ?_
      rw [ew]
      exact next
theorem impl_grays_l0 (N : Nat) (hN : N < 7) (d : Nat) : ∀ t : Nat, t + d = N → Ev (fun k => impl_GrayGrowths.l0 k (gray t) (N : Int) (t : Int)) (gray N, true) := by
  induction d with
  | zero =>
    intro t ht
    have : t = N := by omega
    subst this
    refine Ev.done fun k => ?_
    simp only [impl_GrayGrowths.l0]
    rw [if_neg (by omega)]
  | succ d ih =>
    intro t ht
    obtain ⟨g1, _, g3⟩ := gray_rows t (by omega)
    refine Ev.succ ?_
    simp only [impl_GrayGrowths.l0, if_pos (show (t : Int) < (N : Int) by omega)]
    refine impl_grays_l1 (N : Int) (t : Int) _ (gray t) [] [] _ rfl (fun a ha => List.all_eq_true.1 g1 a ha) (by simp; omega) (by simp; omega) ?_
    rw [i_up (show t ≤ 1099511627776 by omega)]
    exact ih (t + 1) (by omega)
theorem impl_GrayGrowths_ev (n : Int) : Ev (fun k => impl_GrayGrowths.f k n) (if inB n 1 7 = true then (gray (n.toNat - 1), true) else ([], false)) := by
  unfold impl_GrayGrowths.f
  simp only [impl_within_eq, obind]
  cases h : inB n 1 7 with
  | false => simp only [Bool.false_eq_true, if_false]; exact Ev.now _
  | true =>
    have h1 := inB_true.1 h
    obtain ⟨m, rfl⟩ : ∃ m : Nat, n = ((m + 1 : Nat) : Int) := ⟨(n - 1).toNat, by omega⟩
    simp only [if_true, Int.toNat_natCast, Nat.add_sub_cancel, i_down (show m ≤ 1099511627776 by omega)]
    exact impl_grays_l0 m (by omega) m 0 (by omega)

set_option maxRecDepth 100000 in
theorem impl_goings_small : ∀ k : Nat, k < 14 → ∀ r : Nat, k + r < 14 → impl_goings.f 400 (k : Int) (r : Int) = some ((gc r k : Nat) : Int) := by
  intro k hk r hr
  have key : ∀ k : Nat, k < 14 → ∀ r : Nat, r < 14 → k + r < 14 → impl_goings.f 400 (k : Int) (r : Int) = some ((gc r k : Nat) : Int) := by decide +kernel
  exact key k hk r (by omega) hr
theorem impl_goings_ev (k r : Nat) (h : k + r < 14) : Ev (fun n => impl_goings.f n (k : Int) (r : Int)) ((gc r k : Nat) : Int) :=
  Ev.of (g := fun n => impl_goings.f n (k : Int) (r : Int)) (impl_goings.mono _ _) (impl_goings_small k (by omega) r h)

theorem impl_CountGrowths_ev (n : Int) : Ev (fun k => impl_CountGrowths.f k n) (if inB n 1 12 = true then (((gc n.toNat 0 : Nat) : Int), true) else (0, false)) := by
  unfold impl_CountGrowths.f
  simp only [impl_within_eq, obind]
  cases h : inB n 1 12 with
  | false => simp only [Bool.false_eq_true, if_false]; exact Ev.now _
  | true =>
    have h1 := inB_true.1 h
    obtain ⟨m, rfl⟩ : ∃ m : Nat, n = (m : Int) := ⟨n.toNat, by omega⟩
    simp only [if_true]
    refine Ev.bind (impl_goings_ev 0 m (by omega)) ?_
    exact Ev.now _

theorem impl_IsGrowth_loop (l : List Int) (s : List Int) : ∀ (p : List Int) (m n i : Int), -1 ≤ m → m + 1 ≤ p.length → n = ((p ++ s).length : Int) → i = (p.length : Int) → (p ++ s).length ≤ 1099511627776 →
    Ev (fun k => impl_IsGrowth.l0 k l m (p ++ s) n i) (growW m s && inB l.length 1 12) := by
  induction s with
  | nil =>
    intro p m n i hm hm' hn hi hl
    refine Ev.to (Ev.done fun k => ?_) (show inB l.length 1 12 = _ by unfold growW; simp)
    simp only [impl_IsGrowth.l0]
    rw [if_neg (by rw [len_nil] at hn; omega), impl_within_eq]
    rfl
  | cons x s ih =>
    intro p m n i hm hm' hn hi hl
    have h1 := len_mid p s x
    unfold growW
    cases hb : inB x 0 (m + 1) with
    | false =>
      refine Ev.to (Ev.done fun k => ?_) (show false = _ by simp)
      simp only [impl_IsGrowth.l0]
      rw [if_pos (by omega), if_pos (by omega), if_pos (by omega), rd_mid hi, w64 (n := m + 1) (by omega), impl_within_eq, hb]
      rfl
    | true =>
      have hx := inB_true.1 hb
      have := ih (p ++ [x]) (max m x) n (i + 1) (by omega) (by rw [len_snoc]; omega) (by rw [← snoc_mid]; exact hn) (by rw [len_snoc]; omega) (by rw [← snoc_mid]; exact hl)
      rw [← snoc_mid] at this
      refine Ev.to (Ev.step' this fun k => ?_) (by simp)
      simp only [impl_IsGrowth.l0]
      rw [if_pos (by omega), if_pos (by omega), if_pos (by omega), rd_mid hi, w64 (n := m + 1) (by omega), impl_within_eq, hb]
      simp only [obind, if_true, mx_max]
      rw [w64 (n := i + 1) (by omega)]
theorem impl_IsGrowth_ev (l : List Int) (hl : l.length ≤ 1099511627776) : Ev (fun k => impl_IsGrowth.f k l) (isG l) :=
  impl_IsGrowth_loop l l [] (-1) _ 0 (by omega) (by simp) rfl (by simp) (by simpa using hl)

set_option maxRecDepth 100000 in
theorem gc_small : ∀ k : Nat, k < 14 → ∀ r : Nat, k + r < 14 → gc r k ≤ 27644437 := by
  intro k hk r hr
  have key : ∀ k : Nat, k < 14 → ∀ r : Nat, r < 14 → k + r < 14 → gc r k ≤ 27644437 := by decide +kernel
  exact key k hk r (by omega) hr

theorem impl_RankGrowth_loop (a : List Int) (ha : a.length ≤ 12) (s : List Int) : ∀ (p : List Int) (k rank : Nat), p ++ s = a → growW ((k : Int) - 1) s = true → k ≤ p.length → rank + gc s.length k ≤ 1099511627776 →
    Ev (fun f => impl_RankGrowth.l0 f a (rank : Int) (k : Int) a (a.length : Int) (p.length : Int)) (((rank + rkG k s : Nat) : Int), true) := by
  induction s with
  | nil =>
    intro p k rank h1 h2 h3 h4
    refine Ev.to (Ev.done fun f => ?_) (show (((rank : Nat) : Int), true) = _ by simp [rkG])
    have : a.length = p.length := by rw [← h1]; simp
    simp only [impl_RankGrowth.l0]
    rw [if_neg (by omega)]
  | cons x s ih =>
    intro p k rank h1 h2 h3 h4
    obtain ⟨hx, h2'⟩ := growW_next h2
    have hlen : a.length = p.length + s.length + 1 := by rw [← h1]; simp; omega
    have hgb := gc_small k (by omega) s.length (by omega)
    have hst := @rk_step s.length k x.toNat (by omega)
    have hlc : (x :: s).length = s.length + 1 := rfl
    rw [hlc] at h4
    have e0 : rd a (p.length : Int) = x := by rw [← h1]; exact rd_mid rfl
    have e1 := i_last (n := a.length) (i := p.length) (r := s.length) (by omega) (by omega)
    have e2 : x * ((gc s.length k : Nat) : Int) = ((x.toNat * gc s.length k : Nat) : Int) := by
      rw [← i_mul, Int.toNat_of_nonneg hx.1]
    have e3 := i_add (rank := rank) (P := x.toNat * gc s.length k) (Nat.le_trans (Nat.le_trans (Nat.le_add_right _ _) hst) (Nat.le_trans (Nat.le_add_left _ _) h4)) (Nat.le_trans (Nat.le_add_right _ _) h4)
    have e4 : mx (k : Int) (wrap64 (x + 1)) = ((max k (x.toNat + 1) : Nat) : Int) := by
      rw [← i_max (by omega), Int.toNat_of_nonneg hx.1]
    have e5 := i_succ (out := p) (x := x) (by omega)
    have := ih (p ++ [x]) (max k (x.toNat + 1)) (rank + x.toNat * gc s.length k) (by rw [← snoc_mid]; exact h1) h2' (by rw [List.length_append, List.length_singleton]; exact Nat.max_le.2 ⟨by omega, by omega⟩) (Nat.le_trans (by rw [Nat.add_assoc]; exact Nat.add_le_add_left hst _) h4)
    refine Ev.succ ?_
    simp only [impl_RankGrowth.l0]
    simp only [if_pos (show (p.length : Int) < (a.length : Int) by omega), if_pos (show 0 ≤ (p.length : Int) by omega), e0, e1]
    refine Ev.bind (impl_goings_ev k s.length (by omega)) ?_
    simp only [e2, e3, e4, e5]
    refine Ev.to this ?_
    simp only [rkG]
    rw [Nat.add_assoc]
theorem impl_RankGrowth_ev (l : List Int) (hl : l.length ≤ 1099511627776) : Ev (fun f => impl_RankGrowth.f f l) (if isG l = true then ((rkG 0 l : Int), true) else (0, false)) := by
  unfold impl_RankGrowth.f
  refine Ev.bind (impl_IsGrowth_ev l hl) ?_
  by_cases h : isG l = true
  · obtain ⟨h1, h2, h3⟩ := isG_true h
    have hgb := gc_small 0 (by omega) l.length (by omega)
    simp only [h, if_true]
    refine Ev.to (impl_RankGrowth_loop l h3 l [] 0 0 rfl h1 (by simp) (by omega)) ?_
    simp
  · simp only [if_neg h]
    exact Ev.now _

theorem draw_GrayGrowths (l : List Int) (hb : Bytes l) : ∃ n, spec_DrawGrayGrowths.f l = some n ∧ -1 ≤ n ∧ n ≤ 8 := by
  unfold spec_DrawGrayGrowths.f
  obtain ⟨x, a1, s1, h1, h2, h3⟩ := cur_pick hb 0 9 (show CurAt 0 0 from ⟨by omega, by omega⟩) (by omega)
  obtain ⟨y, a2, s2, h4, h5, h6⟩ := cur_pick hb s1 2 h3 (by omega)
  simp only [h1, obind, h4]
  exact ⟨_, rfl, by rw [w64 (by omega)]; omega⟩
theorem gray_walk (L : List (List Int)) (hL : L.length ≤ 1000) (hrow : ∀ x ∈ L, x.length ≤ 1000) (N : Nat) (hN : N ≤ 1000) (s : List (List Int)) : ∀ (p : List (List Int)) (mask : Nat) (prev : Option (List Int)), p ++ s = L →
    (∀ b, prev = some b → ∃ q, p = q ++ [b]) → (prev = none → p = []) → chkG N mask prev s = true →
    Ev (fun k => laws_FnGrayGrowths.l0 k L (maskL N mask) L (L.length : Int) (p.length : Int)) true := by
  induction s with
  | nil =>
    intro p mask prev hp h1 h2 hc
    refine Ev.done fun k => ?_
    simp only [laws_FnGrayGrowths.l0]
    rw [if_neg (by rw [← hp, List.append_nil]; omega)]
  | cons a s ih =>
    intro p mask prev hp h1 h2 hc
    unfold chkG at hc
    simp only [Bool.and_eq_true, decide_eq_true_iff, Bool.not_eq_true'] at hc
    obtain ⟨g1, g2, g3, g4, g5⟩ := hc
    have hl : L.length = p.length + s.length + 1 := by rw [← hp]; simp; omega
    have ha : a.length ≤ 1000 := hrow a (by rw [← hp]; simp)
    have er : rd_L1 L (p.length : Int) = a := by rw [← hp]; simp [rd_L1]
    have e2 : (p ++ [a]) ++ s = L := by rw [← hp]; simp
    have hrk := impl_RankGrowth_ev a (by omega)
    rw [if_pos g1] at hrk
    have next := ih (p ++ [a]) (mask ||| 2 ^ rkG 0 a) (some a) e2 (fun b hb => ⟨p, by rw [Option.some.inj hb]⟩) (fun h => by cases h) g5
    have el : (p ++ [a]).length = p.length + 1 := by simp
    rw [el] at next
    have ml : (maskL N mask).length = N := by simp [maskL]
    have rdm : rdOf false (maskL N mask) ((rkG 0 a : Nat) : Int) = false := by
      unfold rdOf
      rw [Int.toNat_natCast, List.getD_eq_getElem?_getD, List.getElem?_eq_getElem (by omega), Option.getD_some]
      simp only [maskL, List.getElem_map, List.getElem_range]
      exact g3
    refine Ev.succ ?_
    simp only [laws_FnGrayGrowths.l0]
    simp only [if_pos (show (p.length : Int) < (L.length : Int) by omega), if_pos (show 0 ≤ (p.length : Int) by omega), er]
    refine Ev.bind hrk ?_
    simp only [if_true, if_pos (show 0 ≤ ((rkG 0 a : Nat) : Int) by omega), ml, if_pos (show ((rkG 0 a : Nat) : Int) < (N : Int) by omega), rdm, Bool.false_eq_true, if_false, Int.toNat_natCast, maskL_set, i_up (show p.length ≤ 1099511627776 by omega)]
    cases prev with
    | none =>
      have hp0 : p = [] := h2 rfl
      subst hp0
      simp only [List.length_nil]
      simp only [if_neg (show ¬ ((0 : Nat) : Int) > 0 by omega)]
      exact next
    | some b =>
      obtain ⟨q, hq⟩ := h1 b rfl
      simp only [Bool.and_eq_true, decide_eq_true_iff] at g4
      have hq1 : p.length = q.length + 1 := by rw [hq]; simp
      have ew : wrap64 ((p.length : Int) - 1) = (q.length : Int) := by rw [w64 (by omega)]; omega
      have erb : rd_L1 L (q.length : Int) = b := by rw [← hp, hq]; simp [rd_L1]
      have hf := laws_tFar_ev a b g4.1 (by omega)
      rw [g4.2] at hf
      simp only [if_pos (show (p.length : Int) > 0 by omega), ew, if_pos (show 0 ≤ (q.length : Int) by omega), if_pos (show (q.length : Int) < (L.length : Int) by omega), erb]
      refine Ev.bind hf ?_
      simp only [if_true]
      exact next
theorem FnGrayGrowths : laws_FnGrayGrowths.Pure := by
  intro l0 l1 _ _ hb0 _ _ _
  unfold laws_FnGrayGrowths.f
  rcases laws_big_ok l0 l1 with hbig | ⟨hbig, hl0, hl1⟩
  · exact ⟨0, by rw [hbig, obind, if_pos rfl]⟩
  obtain ⟨n, hd, hn⟩ := draw_GrayGrowths l0 (bytes_wf hb0)
  simp only [hbig, obind, Bool.false_eq_true, if_false, hd]
  have hi := impl_GrayGrowths_ev n
  have hs := spec_GrayGrowths_ev n
  have hc := impl_CountGrowths_ev n
  refine (Ev.bind hi (Ev.bind hs ?_)).rounds
  cases hin : inB n 1 7 with
  | false =>
    simp only [Bool.false_eq_true, if_false, bne_self_eq_false]
    refine Ev.bind (laws_tSameRows_self [] (by simp) (by simp)) ?_
    refine Ev.done fun k => ?_
    simp only [laws_FnGrayGrowths.j0, Bool.not_true, Bool.false_eq_true, if_false]
  | true =>
    have h1 := inB_true.1 hin
    obtain ⟨m, rfl⟩ : ∃ m : Nat, n = ((m + 1 : Nat) : Int) := ⟨(n - 1).toNat, by omega⟩
    obtain ⟨g1, g2, g3⟩ := gray_rows m (by omega)
    have hrow : ∀ x ∈ gray m, x.length ≤ 1000 := fun x hx => by have := okRow_len (List.all_eq_true.1 g1 x hx); omega
    have hgc := gc_small 0 (by omega) (m + 1) (by omega)
    rw [if_pos (inB_yes (by omega)), Int.toNat_natCast] at hc
    simp only [if_true, Int.toNat_natCast, Nat.add_sub_cancel, bne_self_eq_false, Bool.false_eq_true, if_false]
    refine Ev.bind (laws_tSameRows_self _ (by omega) (fun x hx => by have := hrow x hx; omega)) ?_
    refine Ev.succ ?_
    simp only [laws_FnGrayGrowths.j0, Bool.not_true, Bool.false_eq_true, if_false, if_true]
    refine Ev.bind hc ?_
    simp only [if_true, g2, bne_self_eq_false]
    refine Ev.succ ?_
    simp only [laws_FnGrayGrowths.j1, Bool.false_eq_true, if_false, if_pos (show 0 ≤ ((gc (m + 1) 0 : Nat) : Int) by omega), Int.toNat_natCast, if_pos (show gc (m + 1) 0 ≤ 281474976710656 by omega), maskL_zero]
    exact gray_walk (gray m) (by omega) hrow (gc (m + 1) 0) (by omega) (gray m) [] 0 none rfl (fun b h => by cases h) (fun _ => rfl) (gray_chk m (by omega))

end Go.Proofs.Ythaplgbhhppniaa.Pure
