/- A balanced word is the walk through the tree of its parents list, and both undo each other: for all rows of bytes that code and more may be. -/
import Derived.Test.YtmcmglclgdgdnaaHFnTreesAreWordsx6
import Derived.Test.YtmcmglclgdgdnaaCoreA
import Derived.Test.YtmcmglclgdgdnaaCoreB
import Derived.Test.YtmcmglclgdgdnaaCoreT
import Derived.Test.YtmcmglclgdgdnaaCoreT2
namespace Go.Proofs.Ytmcmglclgdgdnaa.Pure
open Go.RowKit Go.Proofs.Ytmcmglclgdgdnaa.HFnTreesAreWords Go.Proofs.YtmcmglclgdgdnaaW.PrintWords Go.Proofs.YtmcmglclgdgdnaaW.PrintLast Go.Proofs.YtmcmglclgdgdnaaW.PrintMore Go.Proofs.Ytmcmglclgdgdnaa.Core
set_option linter.unusedVariables false
set_option linter.unusedSimpArgs false

theorem laws_big_ok (a b : List Int) : laws_big.f a b = some true ∨ (laws_big.f a b = some false ∧ a.length ≤ 1048576 ∧ b.length ≤ 1048576) := by
  unfold laws_big.f
  by_cases h : (a.length : Int) > 1048576
  · rw [if_pos h]; exact .inl rfl
  · rw [if_neg h, w64 (by omega)]
    by_cases h2 : (b.length : Int) > 1048576 - (a.length : Int)
    · rw [decide_eq_true h2]; exact .inl rfl
    · rw [decide_eq_false h2]; exact .inr ⟨rfl, by omega, by omega⟩

theorem laws_tSame_loop (s : List Int) : ∀ (p : List Int) (n i : Int), n = ((p ++ s).length : Int) → i = (p.length : Int) → (p ++ s).length ≤ 1099511627776 →
    Ev (fun k => laws_tSame.l0 k (p ++ s) (p ++ s) n i) true := by
  induction s with
  | nil =>
    intro p n i hn hi hl
    refine Ev.done fun k => ?_
    simp only [laws_tSame.l0]
    rw [if_neg (by rw [len_nil] at hn; omega)]
  | cons x s ih =>
    intro p n i hn hi hl
    have h1 := len_mid p s x
    have := ih (p ++ [x]) n (i + 1) (by rw [← snoc_mid]; exact hn) (by rw [len_snoc]; omega) (by rw [← snoc_mid]; exact hl)
    rw [← snoc_mid] at this
    refine Ev.step' this fun k => ?_
    simp only [laws_tSame.l0]
    rw [if_pos (by omega), if_pos (by omega), if_pos (by omega), if_pos (by omega), if_pos trivial, w64 (by omega)]
theorem laws_tSame_self (l : List Int) (hl : l.length ≤ 1099511627776) : Ev (fun k => laws_tSame.f k l l) true := by
  unfold laws_tSame.f
  simp only [if_true]
  exact laws_tSame_loop l [] _ 0 (by simp) (by simp) (by simpa using hl)

/-! ### the reader of draws: it tells a number always -/
theorem and255 (E : Int) (h0 : 0 ≤ E) (h1 : E ≤ 18446744073709551615) : 0 ≤ Go.bits .and .u64 E 255 ∧ Go.bits .and .u64 E 255 ≤ 255 := by
  have h := Go.bits_and_u64_nat E.toNat 255 (by omega) (by omega)
  rw [Int.toNat_of_nonneg h0] at h
  have h2 : E.toNat &&& 255 ≤ 255 := Nat.and_le_right
  have h3 : Go.bits .and .u64 E 255 = ((E.toNat &&& 255 : Nat) : Int) := h
  omega
theorem u64_in (n : Int) : 0 ≤ IntKind.u64.wrap n ∧ IntKind.u64.wrap n ≤ 18446744073709551615 := by
  have e : IntKind.u64.wrap n = n % 18446744073709551616 := rfl
  rw [e]; omega
theorem draw_in (n : Int) : 0 ≤ wrap64 (Go.bits .and .u64 (IntKind.u64.wrap n / 1099511627776) 255) ∧ wrap64 (Go.bits .and .u64 (IntKind.u64.wrap n / 1099511627776) 255) ≤ 255 := by
  have h := u64_in n
  have h2 := and255 (IntKind.u64.wrap n / 1099511627776) (by omega) (by omega)
  rw [w64 (by omega)]; exact h2
def Bytes (l : List Int) : Prop := ∀ x ∈ l, 0 ≤ x ∧ x ≤ 255
theorem bytes_wf {l : List Int} (h : ∀ x ∈ l, (Lit.int .u8 x).wf = true) : Bytes l := by
  intro x hx
  have h1 := h x hx
  unfold Lit.wf at h1
  rw [Bool.and_eq_true, decide_eq_true_iff, decide_eq_true_iff] at h1
  exact h1
def CurAt (m : Nat) (a : Int) : Prop := (0 ≤ a ∧ a ≤ (m : Int)) ∧ m ≤ 1152921504606846976
theorem CurAt.mono {m n : Nat} {a : Int} (h : CurAt m a) (hn : m ≤ n) (hm : n ≤ 1152921504606846976) : CurAt n a := by
  obtain ⟨⟨h1, h2⟩, h3⟩ := h
  exact ⟨⟨h1, by omega⟩, hm⟩
theorem cur_next {l : List Int} (hb : Bytes l) {m : Nat} {a : Int} (s : Int) (h : CurAt m a) (hm : m < 1152921504606846976) :
    ∃ b a' s', spec_l1Cur_next.f l a s = some (b, a', s') ∧ (0 ≤ b ∧ b ≤ 255) ∧ CurAt (m + 1) a' := by
  obtain ⟨⟨h1, h2⟩, _⟩ := h
  have e : wrap64 (a + 1) = a + 1 := w64 (by omega)
  unfold spec_l1Cur_next.f
  rw [e]
  by_cases c1 : a < (l.length : Int)
  · have hr := hb _ (rd_mem h1 c1)
    rw [if_pos c1, if_pos h1, w64 (n := rd l a) (by omega)]
    by_cases c2 : a + 1 ≤ (l.length : Int)
    · rw [if_pos c2]; exact ⟨_, _, _, rfl, hr, ⟨by omega, by omega⟩, by omega⟩
    · rw [if_neg c2]; exact ⟨_, _, _, rfl, draw_in _, ⟨by omega, by omega⟩, by omega⟩
  · rw [if_neg c1]
    by_cases c2 : a + 1 ≤ (l.length : Int)
    · rw [if_pos c2]; exact ⟨_, _, _, rfl, ⟨by omega, by omega⟩, ⟨by omega, by omega⟩, by omega⟩
    · rw [if_neg c2]; exact ⟨_, _, _, rfl, draw_in _, ⟨by omega, by omega⟩, by omega⟩
theorem tmod_in {b n : Int} (hb : 0 ≤ b) (hn : 1 < n) : 0 ≤ Int.tmod b n ∧ Int.tmod b n < n := by
  obtain ⟨c, rfl⟩ : ∃ c : Nat, b = (c : Int) := ⟨b.toNat, by omega⟩
  obtain ⟨k, rfl⟩ : ∃ k : Nat, n = (k : Int) := ⟨n.toNat, by omega⟩
  have e : Int.tmod (c : Int) (k : Int) = ((c % k : Nat) : Int) := rfl
  have := Nat.mod_lt c (show 0 < k by omega)
  rw [e]; omega
theorem cur_pick {l : List Int} (hb : Bytes l) {m : Nat} {a : Int} (s n : Int) (h : CurAt m a) (hm : m + 2 ≤ 1152921504606846976) :
    ∃ x a' s', spec_l1Cur_pick.f l a s n = some (x, a', s') ∧ (0 ≤ x ∧ x ≤ max (n - 1) 0) ∧ CurAt (m + 2) a' := by
  unfold spec_l1Cur_pick.f
  by_cases c1 : n ≤ 1
  · rw [if_pos c1]; exact ⟨_, _, _, rfl, ⟨by omega, by omega⟩, h.mono (by omega) (by omega)⟩
  · rw [if_neg c1]
    obtain ⟨b, a1, s1, h1, h2, h3⟩ := cur_next hb s h (by omega)
    rw [h1, obind]
    simp only
    have c0 : ¬ n = 0 := by omega
    by_cases c2 : n > 200
    · rw [if_pos c2]
      obtain ⟨b2, a2, s2, h4, h5, h6⟩ := cur_next hb s1 h3 (by omega)
      rw [h4, obind, if_neg c0]
      simp only
      rw [w64 (n := b * 256) (by omega), w64 (n := b * 256 + b2) (by omega)]
      have := tmod_in (b := b * 256 + b2) (n := n) (by omega) (by omega)
      exact ⟨_, _, _, rfl, ⟨by omega, by omega⟩, h6⟩
    · rw [if_neg c2, if_neg c0]
      have := tmod_in (b := b) (n := n) (by omega) (by omega)
      exact ⟨_, _, _, rfl, ⟨by omega, by omega⟩, h3.mono (by omega) (by omega)⟩
theorem cur_one {l : List Int} (hb : Bytes l) {m : Nat} {a : Int} (s n : Int) (h : CurAt m a) (hm : m + 2 ≤ 1152921504606846976) :
    ∃ x a' s', spec_l1Cur_one.f l a s n = some (x, a', s') ∧ CurAt (m + 2) a' := by
  unfold spec_l1Cur_one.f
  obtain ⟨b, a1, s1, h1, h2, h3⟩ := cur_pick hb s n h hm
  rw [h1, obind]
  exact ⟨_, _, _, rfl, h3⟩

theorem cur_balanced_loop {l : List Int} (hb : Bytes l) (d : Nat) : ∀ (w : List Int) (o n m : Nat) (a s : Int), 2 * n + o = d → w.length + d ≤ 24 → CurAt m a → m + 2 * d + 6 ≤ 1152921504606846976 →
    ∃ r a' s', Ev (fun k => spec_l1Cur_balancedWord.l0 k w (o : Int) (n : Int) l a s) (r, a', s') ∧ r.length ≤ 26 ∧ CurAt (m + 2 * d + 6) a' := by
  induction d with
  | zero =>
    intro w o n m a s hd hw hc hm
    obtain ⟨rfl, rfl⟩ : n = 0 ∧ o = 0 := ⟨by omega, by omega⟩
    obtain ⟨x, a1, s1, h1, h2, h3⟩ := cur_pick hb s 12 hc (by omega)
    have c0 : ¬ ((0 : Nat) : Int) > 0 := by omega
    have key : ∃ r a' s', Ev (fun k => spec_l1Cur_balancedWord.j2 k w ((0 : Nat) : Int) ((0 : Nat) : Int) false l a s) (r, a', s') ∧ r.length ≤ 26 ∧ CurAt (m + 2 * 0 + 6) a' := by
      by_cases c1 : x = 0
      · by_cases c2 : (w.length : Int) > 0
        · obtain ⟨y, a2, s2, h4, h5, h6⟩ := cur_pick hb s1 (w.length : Int) h3 (by omega)
          obtain ⟨z, a3, s3, h7, h8, h9⟩ := cur_pick hb s2 4 h6 (by omega)
          have c3 : y < (w.length : Int) := by omega
          refine ⟨w.set y.toNat (wrap64 (z - 1)), a3, s3, Ev.done fun k => ?_, by simp; omega, h9.mono (by omega) (by omega)⟩
          simp only [spec_l1Cur_balancedWord.j2, Bool.false_eq_true, if_false, h1, obind, if_pos c1, if_pos c2, h4, h7, if_pos h5.1, if_pos c3]
        · refine ⟨w, a1, s1, Ev.done fun k => ?_, by omega, h3.mono (by omega) (by omega)⟩
          simp only [spec_l1Cur_balancedWord.j2, Bool.false_eq_true, if_false, h1, obind, if_pos c1, if_neg c2]
      · by_cases c2 : x = 1
        · have c3 : w.length + ([1, 0] : List Int).length < 17592186044416 := by simp; omega
          refine ⟨w ++ [1, 0], a1, s1, Ev.done fun k => ?_, by simp; omega, h3.mono (by omega) (by omega)⟩
          simp only [spec_l1Cur_balancedWord.j2, Bool.false_eq_true, if_false, h1, obind, if_neg c1, if_pos c2, if_pos c3]
        · refine ⟨w, a1, s1, Ev.done fun k => ?_, by omega, h3.mono (by omega) (by omega)⟩
          simp only [spec_l1Cur_balancedWord.j2, Bool.false_eq_true, if_false, h1, obind, if_neg c1, if_neg c2]
    obtain ⟨r, a', s', e1, e2, e3⟩ := key
    refine ⟨r, a', s', Ev.succ ?_, e2, e3⟩
    simp only [spec_l1Cur_balancedWord.l0, if_neg c0, decide_eq_false c0]
    exact e1
  | succ d ih =>
    intro w o n m a s hd hw hc hm
    have cl : w.length < 17592186044416 := by omega
    have one : 0 < n → ∀ (m' : Nat) (a' s' : Int), m' ≤ m + 2 → CurAt m' a' → ∃ r a'' s'', Ev (fun k => spec_l1Cur_balancedWord.l0 k (w ++ [1]) (wrap64 ((o : Int) + 1)) (wrap64 ((n : Int) - 1)) l a' s') (r, a'', s'') ∧ r.length ≤ 26 ∧ CurAt (m + 2 * (d + 1) + 6) a'' := by
      intro hn m' a' s' hm' hc'
      obtain ⟨q, rfl⟩ : ∃ q, n = q + 1 := ⟨n - 1, by omega⟩
      obtain ⟨r, a2, s2, h1, h2, h3⟩ := ih (w ++ [1]) (o + 1) q m' a' s' (by omega) (by simp; omega) hc' (by omega)
      refine ⟨r, a2, s2, ?_, h2, h3.mono (by omega) (by omega)⟩
      rw [i_up (by omega), i_down (by omega)]
      exact h1
    have zero : 0 < o → ∀ (m' : Nat) (a' s' : Int), m' ≤ m + 2 → CurAt m' a' → ∃ r a'' s'', Ev (fun k => spec_l1Cur_balancedWord.l0 k (w ++ [0]) (wrap64 ((o : Int) - 1)) (n : Int) l a' s') (r, a'', s'') ∧ r.length ≤ 26 ∧ CurAt (m + 2 * (d + 1) + 6) a'' := by
      intro ho m' a' s' hm' hc'
      obtain ⟨q, rfl⟩ : ∃ q, o = q + 1 := ⟨o - 1, by omega⟩
      obtain ⟨r, a2, s2, h1, h2, h3⟩ := ih (w ++ [0]) q n m' a' s' (by omega) (by simp; omega) hc' (by omega)
      refine ⟨r, a2, s2, ?_, h2, h3.mono (by omega) (by omega)⟩
      rw [i_down (by omega)]
      exact h1
    by_cases hn : (n : Int) > 0
    · by_cases ho : (o : Int) = 0
      · obtain ⟨r, a2, s2, h1, h2, h3⟩ := one (by omega) m a s (by omega) hc
        refine ⟨r, a2, s2, Ev.succ ?_, h2, h3⟩
        simp only [spec_l1Cur_balancedWord.l0, if_pos hn]
        refine Ev.succ ?_
        simp only [spec_l1Cur_balancedWord.j2, if_true, if_pos hn, if_pos ho, if_pos cl]
        exact h1
      · obtain ⟨b, a1, s1, h4, h5⟩ := cur_one hb s 2 hc (by omega)
        cases b with
        | true =>
          obtain ⟨r, a2, s2, h1, h2, h3⟩ := one (by omega) (m + 2) a1 s1 (by omega) h5
          refine ⟨r, a2, s2, Ev.succ ?_, h2, h3⟩
          simp only [spec_l1Cur_balancedWord.l0, if_pos hn]
          refine Ev.succ ?_
          simp only [spec_l1Cur_balancedWord.j2, if_true, if_pos hn, if_neg ho, h4, obind, if_pos cl]
          exact h1
        | false =>
          obtain ⟨r, a2, s2, h1, h2, h3⟩ := zero (by omega) (m + 2) a1 s1 (by omega) h5
          refine ⟨r, a2, s2, Ev.succ ?_, h2, h3⟩
          simp only [spec_l1Cur_balancedWord.l0, if_pos hn]
          refine Ev.succ ?_
          simp only [spec_l1Cur_balancedWord.j2, if_true, if_pos hn, if_neg ho, h4, obind, Bool.false_eq_true, if_false, if_pos cl]
          exact h1
    · have ho : (o : Int) > 0 := by omega
      obtain ⟨r, a2, s2, h1, h2, h3⟩ := zero (by omega) m a s (by omega) hc
      refine ⟨r, a2, s2, Ev.succ ?_, h2, h3⟩
      simp only [spec_l1Cur_balancedWord.l0, if_neg hn, decide_eq_true ho]
      refine Ev.succ ?_
      simp only [spec_l1Cur_balancedWord.j2, if_true, if_neg hn, if_pos cl]
      exact h1
theorem cur_balanced {l : List Int} (hb : Bytes l) {m : Nat} {a : Int} (s : Int) (h : CurAt m a) (hm : m + 100 ≤ 1152921504606846976) :
    ∃ w a' s', Ev (fun k => spec_l1Cur_balancedWord.f k l a s) (w, a', s') ∧ w.length ≤ 26 ∧ CurAt (m + 100) a' := by
  unfold spec_l1Cur_balancedWord.f
  obtain ⟨x, a1, s1, h1, h2, h3⟩ := cur_pick hb s 7 h (by omega)
  obtain ⟨b, a2, s2, h4, h5⟩ := cur_one hb s1 12 h3 (by omega)
  simp only [h1, obind, h4]
  obtain ⟨n, rfl⟩ : ∃ n : Nat, x = (n : Int) := ⟨x.toNat, by omega⟩
  cases b with
  | true =>
    obtain ⟨r, a3, s3, h6, h7, h8⟩ := cur_balanced_loop hb 24 [] 0 12 _ _ s2 (by omega) (by simp) h5 (by omega)
    refine ⟨r, a3, s3, ?_, h7, h8.mono (by omega) (by omega)⟩
    simp only [if_true]
    refine Ev.succ ?_
    simp only [spec_l1Cur_balancedWord.j0]
    exact h6
  | false =>
    obtain ⟨r, a3, s3, h6, h7, h8⟩ := cur_balanced_loop hb (2 * n) [] 0 n _ _ s2 (by omega) (by simp; omega) h5 (by omega)
    refine ⟨r, a3, s3, ?_, h7, h8.mono (by omega) (by omega)⟩
    simp only [Bool.false_eq_true, if_false]
    refine Ev.succ ?_
    simp only [spec_l1Cur_balancedWord.j0]
    exact h6

theorem spec_l1In_eq (a b c : Int) : spec_l1In.f a b c = some (inB a b c) := inB_ite a b c

theorem spec_spBalanced_loop (l : List Int) (s : List Int) : ∀ (p : List Int) (o n i : Int), 0 ≤ o → o ≤ p.length → n = ((p ++ s).length : Int) → i = (p.length : Int) → (p ++ s).length ≤ 1099511627776 →
    Ev (fun k => spec_spBalanced.l0 k l o (p ++ s) n i) (balW o s && decide ((l.length : Int) ≤ 24)) := by
  induction s with
  | nil =>
    intro p o n i ho ho' hn hi hl
    refine Ev.to (Ev.done fun k => ?_) (show (if o = 0 then decide ((l.length : Int) ≤ 24) else false) = _ by unfold balW; split <;> simp [*])
    simp only [spec_spBalanced.l0]
    rw [if_neg (by rw [len_nil] at hn; omega)]
    split <;> rfl
  | cons x s ih =>
    intro p o n i ho ho' hn hi hl
    have h1 := len_mid p s x
    unfold balW
    cases hb : inB x 0 1 with
    | false =>
      refine Ev.to (Ev.done fun k => ?_) (show false = _ by simp)
      simp only [spec_spBalanced.l0]
      rw [if_pos (by omega), if_pos (by omega), if_pos (by omega), rd_mid hi, spec_l1In_eq, hb]
      rfl
    | true =>
      have hx := inB_true.1 hb
      by_cases hneg : o + (2 * x - 1) < 0
      · refine Ev.to (Ev.done fun k => ?_) (show false = _ by rw [decide_eq_false (by omega)]; simp)
        simp only [spec_spBalanced.l0]
        rw [if_pos (by omega), if_pos (by omega), if_pos (by omega), rd_mid hi, spec_l1In_eq, hb]
        simp only [obind, if_true]
        rw [w64 (n := 2 * x) (by omega), w64 (n := 2 * x - 1) (by omega), w64 (n := o + (2 * x - 1)) (by omega), if_pos hneg]
      · have := ih (p ++ [x]) (o + (2 * x - 1)) n (i + 1) (by omega) (by rw [len_snoc]; omega) (by rw [← snoc_mid]; exact hn) (by rw [len_snoc]; omega) (by rw [← snoc_mid]; exact hl)
        rw [← snoc_mid] at this
        refine Ev.to (Ev.step' this fun k => ?_) (by rw [decide_eq_true (show 0 ≤ o + (2 * x - 1) by omega)]; simp)
        simp only [spec_spBalanced.l0]
        rw [if_pos (by omega), if_pos (by omega), if_pos (by omega), rd_mid hi, spec_l1In_eq, hb]
        simp only [obind, if_true]
        rw [w64 (n := 2 * x) (by omega), w64 (n := 2 * x - 1) (by omega), w64 (n := o + (2 * x - 1)) (by omega), if_neg hneg, w64 (n := i + 1) (by omega)]
theorem spec_spBalanced_ev (l : List Int) (hl : l.length ≤ 1099511627776) : Ev (fun k => spec_spBalanced.f k l) (isB l) :=
  spec_spBalanced_loop l l [] 0 _ 0 (by omega) (by simp) rfl (by simp) (by simpa using hl)

theorem spec_spParents_loop (a : List Int) (ha : a.length ≤ 24) (s : List Int) : ∀ (p out st : List Int) (o : Nat), p ++ s = a → balW (o : Int) s = true → st.length = o + 1 → wayUp out st → out.length ≤ p.length →
    Ev (fun k => spec_spParents.l0 k out (st.headD 0) a (a.length : Int) (p.length : Int)) (out ++ parS st (out.length : Int) s) := by
  induction s with
  | nil =>
    intro p out st o h1 h2 h3 h4 h5
    have : a.length = p.length := by rw [← h1]; simp
    refine Ev.to (Ev.done fun f => ?_) (show out = _ by simp [parS])
    simp only [spec_spParents.l0]
    rw [if_neg (by omega)]
  | cons x s ih =>
    intro p out st o h1 h2 h3 h4 h5
    have hlen : a.length = p.length + s.length + 1 := by rw [← h1]; simp; omega
    have e0 : rd a (p.length : Int) = x := by rw [← h1]; exact rd_mid rfl
    have e5 := i_succ (out := p) (x := x) (by omega)
    have hp' : (p ++ [x]) ++ s = a := by rw [← snoc_mid]; exact h1
    have hpl : (p ++ [x]).length = p.length + 1 := by simp
    obtain ⟨t, r, rfl⟩ := wayUp_head h4
    refine Ev.succ ?_
    simp only [spec_spParents.l0]
    simp only [if_pos (show (p.length : Int) < (a.length : Int) by omega), if_pos (show 0 ≤ (p.length : Int) by omega), e0, e5, List.headD_cons]
    unfold balW at h2
    rw [Bool.and_eq_true, Bool.and_eq_true, inB_true, decide_eq_true_iff] at h2
    obtain ⟨g1, g2, g3⟩ := h2
    by_cases hx : x = 1
    · subst hx
      have e : (o : Int) + (2 * 1 - 1) = ((o + 1 : Nat) : Int) := by omega
      rw [e] at g3
      have e1 : wrap64 (((out ++ [t]).length : Int) - 1) = (out.length : Int) := by rw [len_snoc, w64 (by omega)]; omega
      have hw : wayUp (out ++ [t]) ((out.length : Int) :: t :: r) := by
        refine ⟨⟨by omega, by rw [len_snoc]; omega, ?_⟩, wayUp_more t _ h4⟩
        exact rd_mid (s := []) rfl
      have := ih (p ++ [1]) (out ++ [t]) ((out.length : Int) :: t :: r) (o + 1) hp' g3 (by simp at h3 ⊢; omega) hw (by simp; omega)
      simp only [if_true, if_pos (show out.length < 17592186044416 by omega), obind, e1]
      refine Ev.to this ?_
      rw [len_snoc]
      simp [parS]
    · have hx0 : x = 0 := by omega
      subst hx0
      cases r with
      | nil => simp at h3; omega
      | cons b r =>
        obtain ⟨⟨q1, q2, q3⟩, q4⟩ := h4
        have e : (o : Int) + (2 * 0 - 1) = ((o - 1 : Nat) : Int) := by omega
        rw [e] at g3
        have := ih (p ++ [0]) out (b :: r) (o - 1) hp' g3 (by simp at h3 ⊢; omega) q4 (by omega)
        simp only [if_neg hx, if_pos q1, if_pos q2, q3]
        refine Ev.to this ?_
        simp [parS]
theorem spec_ParentsOf_ev (l : List Int) (hl : l.length ≤ 1099511627776) : Ev (fun k => spec_ParentsOf.f k l) (if isB l = true then (parS [-1] 0 l, true) else ([], false)) := by
  unfold spec_ParentsOf.f
  refine Ev.bind (spec_spBalanced_ev l hl) ?_
  by_cases h : isB l = true
  · obtain ⟨m, h1, h2, h3⟩ := isB_true h
    simp only [h, if_true]
    refine Ev.bind (a := parS [-1] 0 l) ?_ (Ev.now _)
    unfold spec_spParents.f
    exact Ev.to (spec_spParents_loop l (by omega) l [] [] [-1] 0 rfl h3 rfl rfl (by simp)) (by simp)
  · simp only [if_neg h]
    exact Ev.now _

theorem draw_ParentsOf (l : List Int) (hb : Bytes l) : ∃ w, Ev (fun k => spec_DrawParentsOf.f k l) w ∧ w.length ≤ 26 := by
  unfold spec_DrawParentsOf.f
  obtain ⟨w, a, s, h1, h2, h3⟩ := cur_balanced hb 0 (show CurAt 0 0 from ⟨by omega, by omega⟩) (by omega)
  refine ⟨w, Ev.bind h1 ?_, h2⟩
  exact Ev.now _
theorem spec_spParents_ev (l : List Int) (h : isB l = true) : Ev (fun k => spec_spParents.f k l) (parS [-1] 0 l) := by
  obtain ⟨m, hm, hl, hb⟩ := isB_true h
  have := spec_spParents_loop l (by omega) l [] [] [-1] 0 rfl hb rfl rfl (by simp)
  exact this
theorem draw_parents_l0 {l : List Int} (hb : Bytes l) (d : Nat) : ∀ (p : List Int) (m : Nat) (a s : Int), p.length + d = 13 → CurAt m a → m + 2 * d + 2 ≤ 1152921504606846976 →
    ∃ r, Ev (fun k => spec_DrawWordOfParents.l0 k p l a s) r ∧ r.length ≤ 13 := by
  induction d with
  | zero =>
    intro p m a s hp hc hm
    obtain ⟨x, a1, s1, h1, h2, h3⟩ := cur_pick hb s 2 hc (by omega)
    have c1 : ¬ (p.length : Int) < 12 + x := by omega
    refine ⟨p, Ev.done fun k => ?_, by omega⟩
    simp only [spec_DrawWordOfParents.l0, h1, obind, show wrap64 (12 + x) = 12 + x from w64 (by omega), if_neg c1]
  | succ d ih =>
    intro p m a s hp hc hm
    obtain ⟨x, a1, s1, h1, h2, h3⟩ := cur_pick hb s 2 hc (by omega)
    by_cases c1 : (p.length : Int) < 12 + x
    · obtain ⟨r, h4, h5⟩ := ih (p ++ [wrap64 ((p.length : Int) - 1)]) (m + 2) a1 s1 (by simp; omega) h3 (by omega)
      have c2 : p.length < 17592186044416 := by omega
      refine ⟨r, Ev.succ ?_, h5⟩
      simp only [spec_DrawWordOfParents.l0, h1, obind, show wrap64 (12 + x) = 12 + x from w64 (by omega), if_pos c1, if_pos c2]
      exact h4
    · refine ⟨p, Ev.done fun k => ?_, by omega⟩
      simp only [spec_DrawWordOfParents.l0, h1, obind, show wrap64 (12 + x) = 12 + x from w64 (by omega), if_neg c1]
theorem draw_parents_j1 {l : List Int} (hb : Bytes l) (p : List Int) (hp : p.length ≤ 100) {m : Nat} {a : Int} (s : Int) (hc : CurAt m a) (hm : m + 100 ≤ 1152921504606846976) :
    ∃ r, Ev (fun k => spec_DrawWordOfParents.j1 k p l a s) r ∧ r.length ≤ 100 := by
  obtain ⟨x, a1, s1, h1, h2⟩ := cur_one hb s 12 hc (by omega)
  cases x with
  | true =>
    obtain ⟨r, h4, h5⟩ := draw_parents_l0 hb 13 [] (m + 2) a1 s1 (by simp) h2 (by omega)
    refine ⟨r, Ev.succ ?_, by omega⟩
    simp only [spec_DrawWordOfParents.j1, h1, obind, if_true]
    exact h4
  | false =>
    refine ⟨p, Ev.done fun k => ?_, hp⟩
    simp only [spec_DrawWordOfParents.j1, h1, obind, Bool.false_eq_true, if_false]
theorem draw_parents_j0 {l : List Int} (hb : Bytes l) (p : List Int) (hp : p.length ≤ 100) {m : Nat} {a : Int} (s : Int) (b : Bool) (hbp : b = true → 0 < p.length) (hc : CurAt m a) (hm : m + 200 ≤ 1152921504606846976) :
    ∃ r, Ev (fun k => spec_DrawWordOfParents.j0 k p b l a s) r ∧ r.length ≤ 100 := by
  cases b with
  | true =>
    have h0 := hbp rfl
    obtain ⟨x, a1, s1, h1, h2, h3⟩ := cur_pick hb s (p.length : Int) hc (by omega)
    obtain ⟨y, a2, s2, h4, h5, h6⟩ := cur_pick hb s1 ((p.length : Int) + 2) h3 (by omega)
    obtain ⟨r, h7, h8⟩ := draw_parents_j1 hb (p.set x.toNat (wrap64 (y - 2))) (by simpa using hp) s2 h6 (by omega)
    have c1 : x < (p.length : Int) := by omega
    refine ⟨r, Ev.succ ?_, h8⟩
    simp only [spec_DrawWordOfParents.j0, if_true, h1, obind, show wrap64 ((p.length : Int) + 2) = (p.length : Int) + 2 from w64 (by omega), h4, if_pos h2.1, if_pos c1]
    exact h7
  | false =>
    obtain ⟨r, h7, h8⟩ := draw_parents_j1 hb p hp s hc (by omega)
    refine ⟨r, Ev.succ ?_, h8⟩
    simp only [spec_DrawWordOfParents.j0, Bool.false_eq_true, if_false]
    exact h7
theorem draw_WordOfParents (l : List Int) (hb : Bytes l) : ∃ p, Ev (fun k => spec_DrawWordOfParents.f k l) p ∧ p.length ≤ 100 := by
  unfold spec_DrawWordOfParents.f
  obtain ⟨w, a, s, h1, h2, h3⟩ := cur_balanced hb 0 (show CurAt 0 0 from ⟨by omega, by omega⟩) (by omega)
  have h4 := spec_spBalanced_ev w (by omega)
  cases hw : isB w with
  | false =>
    rw [hw] at h4
    obtain ⟨x, a1, s1, h5, h6, h7⟩ := cur_pick hb s 4 h3 (by omega)
    refine ⟨[wrap64 (x - 2)], Ev.bind h1 (Ev.bind h4 ?_), by simp⟩
    simp only [Bool.false_eq_true, if_false, h5, obind]
    exact Ev.now _
  | true =>
    rw [hw] at h4
    obtain ⟨x, a1, s1, h5, h6⟩ := cur_one hb s 5 h3 (by omega)
    have hlen := parS_len w [-1] 0
    cases x with
    | true =>
      obtain ⟨r, h7, h8⟩ := draw_parents_j0 hb (parS [-1] 0 w) (by omega) s1 (decide (((parS [-1] 0 w).length : Int) > 0)) (fun h => by have := of_decide_eq_true h; omega) h6 (by omega)
      refine ⟨r, Ev.bind h1 (Ev.bind h4 ?_), h8⟩
      simp only [if_true]
      refine Ev.bind (spec_spParents_ev w hw) ?_
      simp only [h5, obind, if_true]
      exact h7
    | false =>
      obtain ⟨r, h7, h8⟩ := draw_parents_j0 hb (parS [-1] 0 w) (by omega) s1 false (fun h => by cases h) h6 (by omega)
      refine ⟨r, Ev.bind h1 (Ev.bind h4 ?_), h8⟩
      simp only [if_true]
      refine Ev.bind (spec_spParents_ev w hw) ?_
      simp only [h5, obind, Bool.false_eq_true, if_false]
      exact h7

theorem impl_within_eq (a b c : Int) : impl_within.f a b c = some (inB a b c) := inB_ite a b c

theorem impl_IsBalancedWord_loop (l : List Int) (s : List Int) : ∀ (p : List Int) (o n i : Int), 0 ≤ o → o ≤ p.length → n = ((p ++ s).length : Int) → i = (p.length : Int) → (p ++ s).length ≤ 1099511627776 →
    Ev (fun k => impl_IsBalancedWord.l0 k l o (p ++ s) n i) (balW o s && decide ((l.length : Int) ≤ 24)) := by
  induction s with
  | nil =>
    intro p o n i ho ho' hn hi hl
    refine Ev.to (Ev.done fun k => ?_) (show (if o = 0 then decide ((l.length : Int) ≤ 24) else false) = _ by unfold balW; split <;> simp [*])
    simp only [impl_IsBalancedWord.l0]
    rw [if_neg (by rw [len_nil] at hn; omega)]
    split <;> rfl
  | cons x s ih =>
    intro p o n i ho ho' hn hi hl
    have h1 := len_mid p s x
    unfold balW
    cases hb : inB x 0 1 with
    | false =>
      refine Ev.to (Ev.done fun k => ?_) (show false = _ by simp)
      simp only [impl_IsBalancedWord.l0]
      rw [if_pos (by omega), if_pos (by omega), if_pos (by omega), rd_mid hi, impl_within_eq, hb]
      rfl
    | true =>
      have hx := inB_true.1 hb
      by_cases hneg : o + (2 * x - 1) < 0
      · refine Ev.to (Ev.done fun k => ?_) (show false = _ by rw [decide_eq_false (by omega)]; simp)
        simp only [impl_IsBalancedWord.l0]
        rw [if_pos (by omega), if_pos (by omega), if_pos (by omega), rd_mid hi, impl_within_eq, hb]
        simp only [obind, if_true]
        rw [w64 (n := 2 * x) (by omega), w64 (n := 2 * x - 1) (by omega), w64 (n := o + (2 * x - 1)) (by omega), if_pos hneg]
      · have := ih (p ++ [x]) (o + (2 * x - 1)) n (i + 1) (by omega) (by rw [len_snoc]; omega) (by rw [← snoc_mid]; exact hn) (by rw [len_snoc]; omega) (by rw [← snoc_mid]; exact hl)
        rw [← snoc_mid] at this
        refine Ev.to (Ev.step' this fun k => ?_) (by rw [decide_eq_true (show 0 ≤ o + (2 * x - 1) by omega)]; simp)
        simp only [impl_IsBalancedWord.l0]
        rw [if_pos (by omega), if_pos (by omega), if_pos (by omega), rd_mid hi, impl_within_eq, hb]
        simp only [obind, if_true]
        rw [w64 (n := 2 * x) (by omega), w64 (n := 2 * x - 1) (by omega), w64 (n := o + (2 * x - 1)) (by omega), if_neg hneg, w64 (n := i + 1) (by omega)]
theorem impl_IsBalancedWord_ev (l : List Int) (hl : l.length ≤ 1099511627776) : Ev (fun k => impl_IsBalancedWord.f k l) (isB l) :=
  impl_IsBalancedWord_loop l l [] 0 _ 0 (by omega) (by simp) rfl (by simp) (by simpa using hl)

theorem impl_ParentsOf_loop (a : List Int) (ha : a.length ≤ 24) (s : List Int) : ∀ (p out st : List Int) (o : Nat), p ++ s = a → balW (o : Int) s = true → st.length = o + 1 → out.length ≤ p.length → o ≤ p.length →
    Ev (fun k => impl_ParentsOf.l0 k out st.reverse a (a.length : Int) (p.length : Int)) (out ++ parS st (out.length : Int) s, true) := by
  induction s with
  | nil =>
    intro p out st o h1 h2 h3 h5 h6
    have : a.length = p.length := by rw [← h1]; simp
    refine Ev.to (Ev.done fun f => ?_) (show (out, true) = _ by simp [parS])
    simp only [impl_ParentsOf.l0]
    rw [if_neg (by omega)]
  | cons x s ih =>
    intro p out st o h1 h2 h3 h5 h6
    have hlen : a.length = p.length + s.length + 1 := by rw [← h1]; simp; omega
    have e0 : rd a (p.length : Int) = x := by rw [← h1]; exact rd_mid rfl
    have e5 := i_succ (out := p) (x := x) (by omega)
    have hp' : (p ++ [x]) ++ s = a := by rw [← snoc_mid]; exact h1
    have hpl : (p ++ [x]).length = p.length + 1 := by simp
    have hrl : st.reverse.length = o + 1 := by simp [h3]
    have e2 : wrap64 ((st.reverse.length : Int) - 1) = (o : Int) := by rw [w64 (by omega)]; omega
    obtain ⟨t, r, rfl⟩ : ∃ t r, st = t :: r := by
      cases st with
      | nil => simp at h3
      | cons t r => exact ⟨t, r, rfl⟩
    have hr : r.length = o := by simpa using h3
    refine Ev.succ ?_
    simp only [impl_ParentsOf.l0]
    simp only [if_pos (show (p.length : Int) < (a.length : Int) by omega), if_pos (show 0 ≤ (p.length : Int) by omega), e0, e5, e2, if_pos (show 0 ≤ (o : Int) by omega), if_pos (show (o : Int) ≤ ((t :: r).reverse.length : Int) by omega), if_pos (show (o : Int) < ((t :: r).reverse.length : Int) by omega), Int.toNat_natCast]
    unfold balW at h2
    rw [Bool.and_eq_true, Bool.and_eq_true, inB_true, decide_eq_true_iff] at h2
    obtain ⟨g1, g2, g3⟩ := h2
    by_cases hx : x = 0
    · subst hx
      have e : (o : Int) + (2 * 0 - 1) = ((o - 1 : Nat) : Int) := by omega
      rw [e] at g3
      have ec : (t :: r).reverse.take o = r.reverse := by
        rw [List.reverse_cons, ← hr]
        exact List.take_left' (by simp)
      simp only [if_true, ec]
      refine Ev.to (ih (p ++ [0]) out r (o - 1) hp' g3 (by omega) (by omega) (by omega)) ?_
      simp [parS]
    · have hx1 : x = 1 := by omega
      subst hx1
      have e : (o : Int) + (2 * 1 - 1) = ((o + 1 : Nat) : Int) := by omega
      rw [e] at g3
      have e3 : rd (t :: r).reverse (o : Int) = t := by
        rw [List.reverse_cons]
        exact rd_mid (s := []) (by simp [hr])
      have e1 : wrap64 (((out ++ [t]).length : Int) - 1) = (out.length : Int) := by rw [len_snoc, w64 (by omega)]; omega
      have e4 : (t :: r).reverse ++ [(out.length : Int)] = ((out.length : Int) :: t :: r).reverse := by simp
      simp only [if_neg hx, e3, if_pos (show out.length < 17592186044416 by omega), obind, e1, if_pos (show (t :: r).reverse.length < 17592186044416 by omega), e4]
      refine Ev.to (ih (p ++ [1]) (out ++ [t]) ((out.length : Int) :: t :: r) (o + 1) hp' g3 (by simp [hr]) (by simp; omega) (by omega)) ?_
      rw [len_snoc]
      simp [parS]
theorem impl_ParentsOf_ev (l : List Int) (hl : l.length ≤ 1099511627776) : Ev (fun k => impl_ParentsOf.f k l) (if isB l = true then (parS [-1] 0 l, true) else ([], false)) := by
  unfold impl_ParentsOf.f
  refine Ev.bind (impl_IsBalancedWord_ev l hl) ?_
  by_cases h : isB l = true
  · obtain ⟨m, h1, h2, h3⟩ := isB_true h
    simp only [h, if_true, obind]
    exact Ev.to (impl_ParentsOf_loop l (by omega) l [] [] [-1] 0 rfl h3 rfl (by simp) (by simp)) (by simp)
  · simp only [if_neg h]
    exact Ev.now _

theorem slices_Index_loop (y : Int) (v w : List Int) (hv : y ∉ v) : ∀ (p : List Int) (n i : Int), n = ((p ++ v ++ y :: w).length : Int) → i = (p.length : Int) → (p ++ v ++ y :: w).length ≤ 1099511627776 →
    Ev (fun k => slices_Index_int_int.l0 k (p ++ v ++ y :: w) y n i) ((p.length + v.length : Nat) : Int) := by
  induction v with
  | nil =>
    intro p n i hn hi hl
    rw [List.append_nil] at hn hl ⊢
    have h1 := len_mid p w y
    refine Ev.to (Ev.done fun k => ?_) (show i = _ by simp [hi])
    simp only [slices_Index_int_int.l0]
    rw [if_pos (by omega), if_pos (by omega), if_pos (by omega), rd_mid hi, if_pos rfl]
  | cons x v ih =>
    intro p n i hn hi hl
    have e : p ++ (x :: v) ++ y :: w = (p ++ [x]) ++ v ++ y :: w := by simp
    have e' : p ++ (x :: v) ++ y :: w = p ++ x :: (v ++ y :: w) := by simp
    have h1 := len_mid p (v ++ y :: w) x
    rw [← e'] at h1
    have hxy : ¬ y = x := fun h => hv (by simp [h])
    have := ih (fun h => hv (by simp [h])) (p ++ [x]) n (i + 1) (by rw [← e]; exact hn) (by rw [len_snoc]; omega) (by rw [← e]; exact hl)
    rw [← e] at this
    have er : rd (p ++ (x :: v) ++ y :: w) i = x := by rw [e']; exact rd_mid hi
    have hge : 0 ≤ ((v ++ y :: w).length : Int) := by omega
    refine Ev.to (Ev.step' this fun k => ?_) (by simp; omega)
    simp only [slices_Index_int_int.l0]
    rw [if_pos (by omega), if_pos (by omega), if_pos (by omega), er, if_neg hxy, w64 (by omega)]
theorem slices_Index_none (y : Int) (v : List Int) (hv : y ∉ v) : ∀ (p : List Int) (n i : Int), n = ((p ++ v).length : Int) → i = (p.length : Int) → (p ++ v).length ≤ 1099511627776 →
    Ev (fun k => slices_Index_int_int.l0 k (p ++ v) y n i) (-1) := by
  induction v with
  | nil =>
    intro p n i hn hi hl
    refine Ev.done fun k => ?_
    simp only [slices_Index_int_int.l0]
    rw [if_neg (by rw [len_nil] at hn; omega)]
  | cons x v ih =>
    intro p n i hn hi hl
    have h1 := len_mid p v x
    have hxy : ¬ y = x := fun h => hv (by simp [h])
    have := ih (fun h => hv (by simp [h])) (p ++ [x]) n (i + 1) (by rw [← snoc_mid]; exact hn) (by rw [len_snoc]; omega) (by rw [← snoc_mid]; exact hl)
    rw [← snoc_mid] at this
    refine Ev.step' this fun k => ?_
    simp only [slices_Index_int_int.l0]
    rw [if_pos (by omega), if_pos (by omega), if_pos (by omega), rd_mid hi, if_neg hxy, w64 (by omega)]

theorem impl_WordOfParents_l2 (d : Nat) : ∀ (out : List Int) (j : Nat) (n : Nat), j + d = n → n ≤ 100 → out.length + d ≤ 1000 →
    Ev (fun k => impl_WordOfParents.l2 k out (n : Int) (j : Int)) (out ++ List.replicate d 0, true) := by
  induction d with
  | zero =>
    intro out j n h hn ho
    refine Ev.to (Ev.done fun k => ?_) (show (out, true) = _ by simp)
    simp only [impl_WordOfParents.l2]
    rw [if_neg (by omega)]
  | succ d ih =>
    intro out j n h hn ho
    have e : wrap64 ((j : Int) + 1) = ((j + 1 : Nat) : Int) := by rw [w64 (by omega)]; omega
    refine Ev.succ ?_
    simp only [impl_WordOfParents.l2]
    simp only [if_pos (show (j : Int) < (n : Int) by omega), if_pos (show out.length < 17592186044416 by omega), e]
    refine Ev.to (ih (out ++ [0]) (j + 1) n (by omega) hn (by simp; omega)) ?_
    simp [List.replicate_succ]
theorem impl_WordOfParents_l1 (a : List Int) (i j : Int) (v : List Int) (y : Int) (hv : v.length ≤ 100) (R : List Int × Bool) (u : List Int) : ∀ (out : List Int), u.length ≤ 100 → out.length + u.length ≤ 1000 →
    Ev (fun k => impl_WordOfParents.l0 k (out ++ List.replicate u.length 0 ++ [1]) ((i :: y :: v).reverse) a (a.length : Int) (wrap64 (j + 1))) R →
    Ev (fun k => impl_WordOfParents.l1 k out ((u ++ y :: v).reverse) i (v.length : Int) a (a.length : Int) j) R := by
  induction u with
  | nil =>
    intro out hu ho hR
    have e : wrap64 ((v.length : Int) + 1) = ((v.length + 1 : Nat) : Int) := by rw [w64 (by omega)]; omega
    have hl : (([] ++ y :: v).reverse.length : Int) = ((v.length + 1 : Nat) : Int) := by simp
    have hl' : (([] ++ y :: v).reverse.length) = v.length + 1 := by simp
    refine Ev.succ ?_
    simp only [impl_WordOfParents.l1]
    simp only [e, hl, if_neg (show ¬ ((v.length + 1 : Nat) : Int) > ((v.length + 1 : Nat) : Int) by omega), if_pos (show out.length < 17592186044416 by simp at ho; omega), if_pos (show (([] ++ y :: v).reverse.length) < 17592186044416 by omega)]
    simpa using hR
  | cons x u ih =>
    intro out hu ho hR
    have hu' : u.length + 1 ≤ 100 := hu
    have ho' : out.length + (u.length + 1) ≤ 1000 := ho
    have e : wrap64 ((v.length : Int) + 1) = ((v.length + 1 : Nat) : Int) := by rw [w64 (by omega)]; omega
    have hl : (((x :: u) ++ y :: v).reverse.length : Int) = ((u.length + v.length + 2 : Nat) : Int) := by simp; omega
    have e2 : wrap64 (((u.length + v.length + 2 : Nat) : Int) - 1) = ((u.length + v.length + 1 : Nat) : Int) := by rw [w64 (by omega)]; omega
    have ec : ((x :: u) ++ y :: v).reverse.take (u.length + v.length + 1) = (u ++ y :: v).reverse := by
      rw [List.cons_append, List.reverse_cons]
      exact List.take_left' (by simp; omega)
    refine Ev.succ ?_
    simp only [impl_WordOfParents.l1]
    simp only [e, e2, hl, if_pos (show ((u.length + v.length + 2 : Nat) : Int) > ((v.length + 1 : Nat) : Int) by omega), if_pos (show out.length < 17592186044416 by omega), if_pos (show 0 ≤ ((u.length + v.length + 1 : Nat) : Int) by omega), if_pos (show ((u.length + v.length + 1 : Nat) : Int) ≤ ((u.length + v.length + 2 : Nat) : Int) by omega), Int.toNat_natCast, ec]
    refine ih (out ++ [0]) (by omega) (by simp; omega) ?_
    simpa [List.replicate_succ] using hR
theorem impl_WordOfParents_loop (a : List Int) (ha : a.length ≤ 12) (s : List Int) : ∀ (p out st : List Int), p ++ s = a → st.Pairwise (· > ·) → st ≠ [] → (∀ x ∈ st, x < (p.length : Int)) → st.length ≤ p.length + 1 → out.length + st.length ≤ 2 * p.length + 1 →
    Ev (fun k => impl_WordOfParents.l0 k out st.reverse a (a.length : Int) (p.length : Int)) (match treeW st (p.length : Int) s with | none => ([], false) | some w => (out ++ w, true)) := by
  induction s with
  | nil =>
    intro p out st h1 h2 h3 h4 h5 h6
    have hp : 0 < st.length := List.length_pos_iff.2 h3
    have : a.length = p.length := by rw [← h1]; simp
    have e : wrap64 ((st.reverse.length : Int) - 1) = ((st.length - 1 : Nat) : Int) := by rw [List.length_reverse, w64 (by omega)]; omega
    refine Ev.succ ?_
    simp only [impl_WordOfParents.l0]
    simp only [if_neg (show ¬ (p.length : Int) < (a.length : Int) by omega), e, treeW]
    exact impl_WordOfParents_l2 (st.length - 1) out 0 (st.length - 1) (by omega) (by omega) (by omega)
  | cons x s ih =>
    intro p out st h1 h2 h3 h4 h5 h6
    have hlen : a.length = p.length + s.length + 1 := by rw [← h1]; simp; omega
    have e0 : rd a (p.length : Int) = x := by rw [← h1]; exact rd_mid rfl
    have e5 := i_succ (out := p) (x := x) (by omega)
    have hp' : (p ++ [x]) ++ s = a := by rw [← snoc_mid]; exact h1
    have hpl : (p ++ [x]).length = p.length + 1 := by simp
    refine Ev.succ ?_
    simp only [impl_WordOfParents.l0]
    simp only [if_pos (show (p.length : Int) < (a.length : Int) by omega), if_pos (show 0 ≤ (p.length : Int) by omega), e0, treeW]
    cases hpop : popTo x st with
    | none =>
      have hno := popTo_none st hpop
      have hidx := slices_Index_none x st.reverse (by simpa using hno) [] _ 0 rfl (by simp) (by simp; omega)
      rw [List.nil_append] at hidx
      refine Ev.bind (a := -1) hidx ?_
      simp only [if_pos (show (-1 : Int) < 0 by decide)]
      exact Ev.now _
    | some q =>
      obtain ⟨z, t⟩ := q
      obtain ⟨u, v, q1, q2, q3, q4⟩ := popTo_some st z t hpop
      subst q1 q2 q3
      have hpw := List.pairwise_append.1 h2
      have hpv := List.pairwise_cons.1 hpw.2.1
      have hxv : x ∉ v := fun hx => by have := hpv.1 x hx; omega
      have hul : u.length + (v.length + 1) ≤ p.length + 1 := by simpa using h5
      have hidx := slices_Index_loop x v.reverse u.reverse (by simpa using hxv) [] _ 0 rfl (by simp) (by simp; omega)
      have er : [] ++ v.reverse ++ x :: u.reverse = (u ++ x :: v).reverse := by simp
      rw [er] at hidx
      have hidx' : Ev (fun k => slices_Index_int_int.f k (u ++ x :: v).reverse x) (v.length : Int) := by
        unfold slices_Index_int_int.f
        refine Ev.to hidx (by simp)
      refine Ev.bind hidx' ?_
      simp only [if_neg (show ¬ (v.length : Int) < 0 by omega)]
      refine impl_WordOfParents_l1 a (p.length : Int) (p.length : Int) v x (by omega) _ u out (by omega) (by simp at h6; omega) ?_
      rw [e5]
      have hst : ((p.length : Int) :: x :: v).Pairwise (· > ·) := by
        refine List.pairwise_cons.2 ⟨fun y hy => ?_, hpw.2.1⟩
        have := h4 y (List.mem_append_right _ hy)
        omega
      refine Ev.to (ih (p ++ [x]) (out ++ List.replicate u.length 0 ++ [1]) ((p.length : Int) :: x :: v) hp' hst (by simp) (fun y hy => ?_) (by simp; omega) (by simp at h6 ⊢; omega)) ?_
      · rw [len_snoc]
        rcases List.mem_cons.1 hy with hy | hy
        · omega
        · have := h4 y (List.mem_append_right _ hy)
          omega
      · rw [len_snoc]
        cases treeW ((p.length : Int) :: x :: v) ((p.length : Int) + 1) s with
        | none => rfl
        | some w => simp
theorem impl_WordOfParents_ev (l : List Int) (hl : l.length ≤ 1099511627776) : Ev (fun k => impl_WordOfParents.f k l) (treeR l) := by
  unfold impl_WordOfParents.f treeR
  by_cases h : (l.length : Int) > 12
  · simp only [if_pos h]
    exact Ev.now _
  · simp only [if_neg h]
    refine Ev.to (impl_WordOfParents_loop l (by omega) l [] [] [-1] rfl (by simp) (by simp) (by simp) (by simp) (by simp)) ?_
    show (match treeW [-1] 0 l with | none => ([], false) | some w => ([] ++ w, true)) = _
    cases treeW [-1] 0 l <;> rfl

theorem spec_spTree_l1 (a : List Int) (ha : a.length ≤ 12) (x j : Int) (R : Bool)  (st : List Int) : wayUp a st → (x ∈ st → Ev (fun k => spec_spTree.l0 k a a (a.length : Int) (wrap64 (j + 1))) R) → (x ∉ st → R = false) →
    Ev (fun k => spec_spTree.l1 k a x (st.headD 0) a (a.length : Int) j) R := by
  induction st with
  | nil => intro h; exact h.elim
  | cons t r ih =>
    intro hw h1 h2
    show Ev (fun k => spec_spTree.l1 k a x t a (a.length : Int) j) R
    refine Ev.succ ?_
    simp only [spec_spTree.l1]
    by_cases c : t = x
    · subst c
      have h3 := h1 (by simp)
      by_cases g : t ≥ 0
      · simp only [if_pos g, if_true]; exact h3
      · simp only [if_neg g, if_true]; exact h3
    · cases r with
      | nil =>
        have ht : t = -1 := hw
        simp only [if_neg (show ¬ t ≥ 0 by omega), if_neg c]
        exact Ev.some_ (h2 (by simp [Ne.symm c])).symm
      | cons b r =>
        obtain ⟨⟨q1, q2, q3⟩, q4⟩ := hw
        have := ih q4 (fun h => h1 (by simp only [List.mem_cons] at h ⊢; exact .inr h)) (fun h => h2 (by simp only [List.mem_cons, not_or] at h ⊢; exact ⟨Ne.symm c, h⟩))
        simp only [if_pos (show t ≥ 0 from q1), if_neg c, if_pos q1, if_pos q2, q3]
        exact this
theorem spec_spTree_loop (a : List Int) (ha : a.length ≤ 12) (s : List Int) : ∀ (p st : List Int), p ++ s = a → wayUp a st → st.headD 0 = (p.length : Int) - 1 →
    Ev (fun k => spec_spTree.l0 k a a (a.length : Int) (p.length : Int)) (treeW st (p.length : Int) s).isSome := by
  induction s with
  | nil =>
    intro p st h1 h2 h3
    have : a.length = p.length := by rw [← h1]; simp
    refine Ev.to (Ev.done fun k => ?_) (show true = _ by simp [treeW])
    simp only [spec_spTree.l0]
    rw [if_neg (by omega)]
  | cons x s ih =>
    intro p st h1 h2 h3
    have hlen : a.length = p.length + s.length + 1 := by rw [← h1]; simp; omega
    have e0 : rd a (p.length : Int) = x := by rw [← h1]; exact rd_mid rfl
    have e5 := i_succ (out := p) (x := x) (by omega)
    have hp' : (p ++ [x]) ++ s = a := by rw [← snoc_mid]; exact h1
    have e1 : wrap64 ((p.length : Int) - 1) = st.headD 0 := by rw [h3, w64 (by omega)]
    refine Ev.succ ?_
    simp only [spec_spTree.l0]
    simp only [if_pos (show (p.length : Int) < (a.length : Int) by omega), if_pos (show 0 ≤ (p.length : Int) by omega), e0, e1]
    refine spec_spTree_l1 a ha x (p.length : Int) _ st h2 (fun hx => ?_) (fun hx => ?_)
    · rw [e5]
      cases hpop : popTo x st with
      | none => exact absurd hx (popTo_none st hpop)
      | some q =>
        obtain ⟨z, t⟩ := q
        obtain ⟨u, v, q1, q2, q3, q4⟩ := popTo_some st z t hpop
        subst q1 q2
        have hw : wayUp a ((p.length : Int) :: x :: v) := ⟨⟨by omega, by omega, e0⟩, wayUp_drop u (x :: v) (by simp) h2⟩
        have := ih (p ++ [x]) ((p.length : Int) :: x :: v) hp' hw (by rw [len_snoc]; simp)
        rw [len_snoc] at this
        refine Ev.to (by rw [len_snoc]; exact this) ?_
        simp only [treeW, hpop]
        cases treeW ((p.length : Int) :: x :: v) ((p.length : Int) + 1) s <;> rfl
    · have hpop : popTo x st = none := by
        cases hpop : popTo x st with
        | none => rfl
        | some q =>
          obtain ⟨z, t⟩ := q
          obtain ⟨u, v, q1, _⟩ := popTo_some st z t hpop
          exact absurd (by rw [q1]; simp) hx
      simp [treeW, hpop]
theorem spec_WordOfParents_l2 (a : List Int) (st : List Int) : ∀ (out : List Int), wayUp a st → out.length + st.length ≤ 1000 →
    Ev (fun k => spec_WordOfParents.l2 k a out (st.headD 0)) (out ++ List.replicate (st.length - 1) 0, true) := by
  induction st with
  | nil => intro out h; exact h.elim
  | cons t r ih =>
    intro out hw ho
    show Ev (fun k => spec_WordOfParents.l2 k a out t) _
    refine Ev.succ ?_
    simp only [spec_WordOfParents.l2]
    cases r with
    | nil =>
      have ht : t = -1 := hw
      simp only [if_neg (show ¬ t ≥ 0 by omega)]
      exact Ev.some_ (by simp)
    | cons b r =>
      obtain ⟨⟨q1, q2, q3⟩, q4⟩ := hw
      have hol : out.length + (r.length + 1 + 1) ≤ 1000 := ho
      have := ih (out ++ [0]) q4 (by simp; omega)
      simp only [if_pos (show t ≥ 0 from q1), if_pos (show out.length < 17592186044416 by omega), if_pos q1, if_pos q2, q3]
      refine Ev.to this ?_
      simp [List.replicate_succ]
theorem spec_WordOfParents_l1 (a : List Int) (i j y : Int) (v : List Int) (R : List Int × Bool) (u : List Int) : ∀ (out : List Int), wayUp a (u ++ y :: v) → y ∉ u → out.length + u.length ≤ 1000 →
    Ev (fun k => spec_WordOfParents.l0 k a (out ++ List.replicate u.length 0 ++ [1]) i a (a.length : Int) (wrap64 (j + 1))) R →
    Ev (fun k => spec_WordOfParents.l1 k a out ((u ++ y :: v).headD 0) i y a (a.length : Int) j) R := by
  induction u with
  | nil =>
    intro out hw hy ho hR
    show Ev (fun k => spec_WordOfParents.l1 k a out y i y a (a.length : Int) j) R
    refine Ev.succ ?_
    simp only [spec_WordOfParents.l1, if_true]
    simp only [if_pos (show out.length < 17592186044416 by simp at ho; omega)]
    simpa using hR
  | cons t u ih =>
    intro out hw hy ho hR
    have hty : ¬ t = y := fun e => hy (by simp [e])
    have hyu : y ∉ u := fun h => hy (by simp [h])
    have hol : out.length + (u.length + 1) ≤ 1000 := ho
    obtain ⟨b, r, hbr⟩ : ∃ b r, u ++ y :: v = b :: r := by
      cases u with
      | nil => exact ⟨y, v, rfl⟩
      | cons b r => exact ⟨b, r ++ y :: v, rfl⟩
    rw [List.cons_append, hbr] at hw
    obtain ⟨⟨q1, q2, q3⟩, q4⟩ := hw
    rw [← hbr] at q4
    have := ih (out ++ [0]) q4 hyu (by simp; omega) (by simpa [List.replicate_succ] using hR)
    rw [hbr, List.headD_cons] at this
    show Ev (fun k => spec_WordOfParents.l1 k a out t i y a (a.length : Int) j) R
    refine Ev.succ ?_
    simp only [spec_WordOfParents.l1]
    simp only [if_neg hty, if_pos (show out.length < 17592186044416 by omega), if_pos q1, if_pos q2, q3]
    exact this
theorem spec_WordOfParents_loop (a : List Int) (ha : a.length ≤ 12) (s : List Int) : ∀ (p out st w : List Int), p ++ s = a → wayUp a st → treeW st (p.length : Int) s = some w → st.length ≤ p.length + 1 → out.length + st.length ≤ 2 * p.length + 1 →
    Ev (fun k => spec_WordOfParents.l0 k a out (st.headD 0) a (a.length : Int) (p.length : Int)) (out ++ w, true) := by
  induction s with
  | nil =>
    intro p out st w h1 h2 h3 h5 h6
    have : a.length = p.length := by rw [← h1]; simp
    simp only [treeW, Option.some.injEq] at h3
    refine Ev.succ ?_
    simp only [spec_WordOfParents.l0]
    simp only [if_neg (show ¬ (p.length : Int) < (a.length : Int) by omega)]
    rw [← h3]
    exact spec_WordOfParents_l2 a st out h2 (by omega)
  | cons x s ih =>
    intro p out st w h1 h2 h3 h5 h6
    have hlen : a.length = p.length + s.length + 1 := by rw [← h1]; simp; omega
    have e0 : rd a (p.length : Int) = x := by rw [← h1]; exact rd_mid rfl
    have e5 := i_succ (out := p) (x := x) (by omega)
    have hp' : (p ++ [x]) ++ s = a := by rw [← snoc_mid]; exact h1
    refine Ev.succ ?_
    simp only [spec_WordOfParents.l0]
    simp only [if_pos (show (p.length : Int) < (a.length : Int) by omega), if_pos (show 0 ≤ (p.length : Int) by omega), e0]
    unfold treeW at h3
    cases hpop : popTo x st with
    | none => rw [hpop] at h3; cases h3
    | some q =>
      obtain ⟨z, t⟩ := q
      rw [hpop] at h3
      obtain ⟨u, v, q1, q2, q3, q4⟩ := popTo_some st z t hpop
      subst q1 q2 q3
      simp only [Option.map_eq_some_iff] at h3
      obtain ⟨w', h7, h8⟩ := h3
      have hul : u.length + (v.length + 1) ≤ p.length + 1 := by simpa using h5
      have hw : wayUp a ((p.length : Int) :: x :: v) := ⟨⟨by omega, by omega, e0⟩, wayUp_drop u (x :: v) (by simp) h2⟩
      refine spec_WordOfParents_l1 a (p.length : Int) (p.length : Int) x v _ u out h2 q4 (by simp at h6; omega) ?_
      rw [e5]
      have := ih (p ++ [x]) (out ++ List.replicate u.length 0 ++ [1]) ((p.length : Int) :: x :: v) w' hp' hw (by rw [len_snoc]; exact h7) (by simp; omega) (by simp at h6 ⊢; omega)
      refine Ev.to this ?_
      rw [← h8]; simp
theorem spec_WordOfParents_ev (l : List Int) (hl : l.length ≤ 1099511627776) : Ev (fun k => spec_WordOfParents.f k l) (treeR l) := by
  unfold spec_WordOfParents.f spec_spTree.f treeR
  by_cases h : (l.length : Int) > 12
  · simp only [if_pos h, obind, Bool.false_eq_true, if_false]
    exact Ev.now _
  · simp only [if_neg h]
    have hw : wayUp l [-1] := rfl
    refine Ev.bind (spec_spTree_loop l (by omega) l [] [-1] rfl hw (by simp)) ?_
    cases ht : treeW [-1] ((([] : List Int).length : Nat) : Int) l with
    | none =>
      have ht' : treeW [-1] 0 l = none := ht
      simp only [Option.isSome_none, Bool.false_eq_true, if_false, ht']
      exact Ev.now _
    | some w =>
      have ht' : treeW [-1] 0 l = some w := ht
      simp only [Option.isSome_some, if_true, ht']
      exact Ev.to (spec_WordOfParents_loop l (by omega) l [] [] [-1] w rfl hw ht (by simp) (by simp)) (by simp)

theorem trees_under (s : List Int) : ∀ (p : List Int) (n i : Int), n = ((p ++ s).length : Int) → i = (p.length : Int) → (p ++ s).length ≤ 1000 → under i s → Ev (fun k => laws_FnTreesAreWords.l0 k (p ++ s) n i) true := by
  induction s with
  | nil =>
    intro p n i hn hi hl hu
    refine Ev.done fun k => ?_
    simp only [laws_FnTreesAreWords.l0]
    rw [if_neg (by rw [len_nil] at hn; omega)]
  | cons x s ih =>
    intro p n i hn hi hl hu
    have h1 := len_mid p s x
    obtain ⟨hx, hu⟩ := hu
    have := ih (p ++ [x]) n (i + 1) (by rw [← snoc_mid]; exact hn) (by rw [len_snoc]; omega) (by rw [← snoc_mid]; exact hl) hu
    rw [← snoc_mid] at this
    refine Ev.step' this fun k => ?_
    simp only [laws_FnTreesAreWords.l0]
    rw [if_pos (by omega), if_pos (by omega), if_pos (by omega), rd_mid hi, if_neg (by omega), w64 (by omega)]
theorem FnTreesAreWords : laws_FnTreesAreWords.Pure := by
  intro l0 l1 _ _ hb0 _ _ hb1
  unfold laws_FnTreesAreWords.f
  rcases laws_big_ok l0 l1 with hbig | ⟨hbig, hl0, hl1⟩
  · exact ⟨0, by rw [hbig, obind, if_pos rfl]⟩
  simp only [hbig, obind, Bool.false_eq_true, if_false]
  obtain ⟨w, hd, hw⟩ := draw_ParentsOf l0 (bytes_wf hb0)
  obtain ⟨p, hd2, hp⟩ := draw_WordOfParents l1 (bytes_wf hb1)
  have hi := impl_ParentsOf_ev w (by omega)
  have hs := spec_ParentsOf_ev w (by omega)
  have hi2 := impl_WordOfParents_ev p (by omega)
  have hs2 := spec_WordOfParents_ev p (by omega)
  have hpl := parS_len w [-1] 0
  have htl := treeR_len p
  have j2 : Ev (fun k => laws_FnTreesAreWords.j2 k w (if isB w = true then (parS [-1] 0 w, true) else ([], false) : List Int × Bool).1 (if isB w = true then (parS [-1] 0 w, true) else ([], false) : List Int × Bool).2) true := by
    cases hB : isB w with
    | false =>
      refine Ev.done fun k => ?_
      simp only [laws_FnTreesAreWords.j2, Bool.false_eq_true, if_false]
    | true =>
      obtain ⟨m, hm, hwm, hbal⟩ := isB_true hB
      obtain ⟨h1, h2⟩ := tree_of hB
      have h3 := impl_WordOfParents_ev (parS [-1] 0 w) (by omega)
      rw [h1] at h3
      refine Ev.succ ?_
      simp only [laws_FnTreesAreWords.j2, if_true]
      refine Ev.bind h3 ?_
      simp only [if_true]
      refine Ev.bind (laws_tSame_self w (by omega)) ?_
      have e : wrap64 (2 * ((parS [-1] 0 w).length : Int)) = (w.length : Int) := by rw [w64 (by omega)]; omega
      simp only [if_true, e, bne_self_eq_false]
      refine Ev.succ ?_
      simp only [laws_FnTreesAreWords.j3, Bool.false_eq_true, if_false]
      exact trees_under (parS [-1] 0 w) [] _ 0 (by simp) (by simp) (by simp; omega) (parS_under w [-1] 0 0 hbal rfl (by simp))
  refine (Ev.bind hd (Ev.bind hi (Ev.bind hs ?_))).rounds
  have hlen : (if isB w = true then (parS [-1] 0 w, true) else ([], false) : List Int × Bool).1.length ≤ 100 := by
    split
    · show (parS _ _ _).length ≤ 100
      omega
    · simp
  simp only [bne_self_eq_false, Bool.false_eq_true, if_false]
  refine Ev.bind (laws_tSame_self _ (by omega)) ?_
  refine Ev.succ ?_
  simp only [laws_FnTreesAreWords.j0, Bool.not_true, Bool.false_eq_true, if_false]
  refine Ev.bind hd2 (Ev.bind hi2 (Ev.bind hs2 ?_))
  simp only [bne_self_eq_false, Bool.false_eq_true, if_false]
  refine Ev.bind (laws_tSame_self _ (by omega)) ?_
  refine Ev.succ ?_
  simp only [laws_FnTreesAreWords.j1, Bool.not_true, Bool.false_eq_true, if_false]
  generalize hR : treeR p = R at htl
  obtain ⟨o, b⟩ := R
  cases b with
  | false =>
    simp only [Bool.false_eq_true, if_false]
    exact j2
  | true =>
    obtain ⟨h1, h2⟩ := treeR_back hR
    have h3 := impl_ParentsOf_ev o (by simp only at htl; omega)
    rw [if_pos h1, h2] at h3
    simp only [if_true]
    refine Ev.bind h3 ?_
    simp only [if_true]
    refine Ev.bind (laws_tSame_self p (by omega)) ?_
    simp only [if_true]
    exact j2

end Go.Proofs.Ytmcmglclgdgdnaa.Pure
