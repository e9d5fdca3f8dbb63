/- A growth is told by its blocks, and a growth without a crossing by a balanced word: for all rows of bytes that code and more may be. -/
import Derived.Test.YtoledgkfohkfkaaHFnBlocksAreGrowthsx11
import Derived.Test.YtoledgkfohkfkaaCoreA
import Derived.Test.YtoledgkfohkfkaaCoreB
import Derived.Test.YtoledgkfohkfkaaCoreG
import Derived.Test.YtoledgkfohkfkaaCoreGw
import Derived.Test.YtoledgkfohkfkaaCoreBk
import Derived.Test.YtoledgkfohkfkaaCoreGx
import Derived.Test.YtoledgkfohkfkaaCoreGy
import Derived.Test.YtoledgkfohkfkaaCoreL
namespace Go.Proofs.Ytoledgkfohkfkaa.Pure
open Go.RowKit Go.Proofs.Ytoledgkfohkfkaa.HFnBlocksAreGrowths Go.Proofs.YtoledgkfohkfkaaW.PrintWords Go.Proofs.YtoledgkfohkfkaaW.PrintLast Go.Proofs.YtoledgkfohkfkaaW.PrintMore Go.Proofs.Ytoledgkfohkfkaa.Core
set_option linter.unusedVariables false
set_option linter.unusedSimpArgs false

theorem laws_big_ok (a b : List Int) : laws_big.f a b = some true ∨ (laws_big.f a b = some false ∧ a.length ≤ 1048576 ∧ b.length ≤ 1048576) := by
 unfold laws_big.f
 by_cases h : (a.length : Int) > 1048576
 ·rw [if_pos h]; exact .inl rfl
 ·rw [if_neg h, w64 (by omega)]
  by_cases h2 : (b.length : Int) > 1048576 - (a.length : Int)
  ·rw [decide_eq_true h2]; exact .inl rfl
  ·rw [decide_eq_false h2]; exact .inr ⟨rfl, by omega, by omega⟩

theorem laws_tSame_loop (s : List Int) : ∀ (p : List Int) (n i : Int), n = ((p ++ s).length : Int) → i = (p.length : Int) → (p ++ s).length ≤ 1099511627776 →
  Ev (fun k => laws_tSame.l0 k (p ++ s) (p ++ s) n i) true := by
 induction s with
 | nil =>
  intro p n i hn hi hl
  refine Ev.done fun k => ?_
  simp only [laws_tSame.l0]
  rw [if_neg (by rw [len_nil] at hn; omega)]
 | cons x s ih =>
  intro p n i hn hi hl
  have h1 := len_mid p s x
  have := ih (p ++ [x]) n (i + 1) (by rw [← snoc_mid]; exact hn) (by rw [len_snoc]; omega) (by rw [← snoc_mid]; exact hl)
  rw [← snoc_mid] at this
  refine Ev.step' this fun k => ?_
  simp only [laws_tSame.l0]
  rw [if_pos (by omega), if_pos (by omega), if_pos (by omega), if_pos (by omega), if_pos trivial, w64 (by omega)]
theorem laws_tSame_self (l : List Int) (hl : l.length ≤ 1099511627776) : Ev (fun k => laws_tSame.f k l l) true := by
 unfold laws_tSame.f
 simp only [if_true]
 exact laws_tSame_loop l [] _ 0 (by simp) (by simp) (by simpa using hl)

theorem laws_tSameRows_loop (s : List (List Int)) : ∀ (p : List (List Int)) (n i : Int), n = ((p ++ s).length : Int) → i = (p.length : Int) → (p ++ s).length ≤ 1073741824 → (∀ x ∈ s, x.length ≤ 1073741824) →
  Ev (fun k => laws_tSameRows.l0 k (p ++ s) (p ++ s) n i) true := by
 induction s with
 | nil =>
  intro p n i hn hi hl hs
  refine Ev.done fun k => ?_
  simp only [laws_tSameRows.l0]
  rw [if_neg (by rw [List.append_nil] at hn; omega)]
 | cons x s ih =>
  intro p n i hn hi hl hs
  have h1 : (((p ++ x :: s).length : Nat) : Int) = p.length + s.length + 1 := by simp; omega
  have er : rd_L2 (p ++ x :: s) i = x := by subst hi; simp [rd_L2]
  have e2 : p ++ x :: s = (p ++ [x]) ++ s := by simp
  have := ih (p ++ [x]) n (i + 1) (by rw [← e2]; exact hn) (by simp; omega) (by rw [← e2]; exact hl) (fun y hy => hs y (List.mem_cons_of_mem _ hy))
  rw [← e2] at this
  refine Ev.succ ?_
  simp only [laws_tSameRows.l0]
  simp only [if_pos (show i < n by omega), if_pos (show 0 ≤ i by omega), if_pos (show i < (((p ++ x :: s).length : Nat) : Int) by omega), er, show wrap64 (i + 1) = i + 1 from w64 (by omega)]
  refine Ev.bind (laws_tSame_self x (by have := hs x (List.mem_cons_self ..); omega)) ?_
  simp only [if_true]
  exact this
theorem laws_tSameRows_self (l : List (List Int)) (hl : l.length ≤ 1073741824) (hs : ∀ x ∈ l, x.length ≤ 1073741824) : Ev (fun k => laws_tSameRows.f k l l) true := by
 unfold laws_tSameRows.f
 simp only [if_true]
 exact laws_tSameRows_loop l [] _ 0 (by simp) (by simp) (by simpa using hl) hs

/-! ### the reader of draws: it tells a number always -/
theorem and255 (E : Int) (h0 : 0 ≤ E) (h1 : E ≤ 18446744073709551615) : 0 ≤ Go.bits .and .u64 E 255 ∧ Go.bits .and .u64 E 255 ≤ 255 := by
 have h := Go.bits_and_u64_nat E.toNat 255 (by omega) (by omega)
 rw [Int.toNat_of_nonneg h0] at h
 have h2 : E.toNat &&& 255 ≤ 255 := Nat.and_le_right
 have h3 : Go.bits .and .u64 E 255 = ((E.toNat &&& 255 : Nat) : Int) := h
 omega
theorem u64_in (n : Int) : 0 ≤ IntKind.u64.wrap n ∧ IntKind.u64.wrap n ≤ 18446744073709551615 := by
 have e : IntKind.u64.wrap n = n % 18446744073709551616 := rfl
 rw [e]; omega
theorem draw_in (n : Int) : 0 ≤ wrap64 (Go.bits .and .u64 (IntKind.u64.wrap n / 1099511627776) 255) ∧ wrap64 (Go.bits .and .u64 (IntKind.u64.wrap n / 1099511627776) 255) ≤ 255 := by
 have h := u64_in n
 have h2 := and255 (IntKind.u64.wrap n / 1099511627776) (by omega) (by omega)
 rw [w64 (by omega)]; exact h2
def Bytes (l : List Int) : Prop := ∀ x ∈ l, 0 ≤ x ∧ x ≤ 255
theorem bytes_wf {l : List Int} (h : ∀ x ∈ l, (Lit.int .u8 x).wf = true) : Bytes l := by
 intro x hx
 have h1 := h x hx
 unfold Lit.wf at h1
 rw [Bool.and_eq_true, decide_eq_true_iff, decide_eq_true_iff] at h1
 exact h1
def CurAt (m : Nat) (a : Int) : Prop := (0 ≤ a ∧ a ≤ (m : Int)) ∧ m ≤ 1152921504606846976
theorem CurAt.mono {m n : Nat} {a : Int} (h : CurAt m a) (hn : m ≤ n) (hm : n ≤ 1152921504606846976) : CurAt n a := by
 obtain ⟨⟨h1, h2⟩, h3⟩ := h
 exact ⟨⟨h1, by omega⟩, hm⟩
theorem cur_next {l : List Int} (hb : Bytes l) {m : Nat} {a : Int} (s : Int) (h : CurAt m a) (hm : m < 1152921504606846976) :
  ∃ b a' s', spec_l1Cur_next.f l a s = some (b, a', s') ∧ (0 ≤ b ∧ b ≤ 255) ∧ CurAt (m + 1) a' := by
 obtain ⟨⟨h1, h2⟩, _⟩ := h
 have e : wrap64 (a + 1) = a + 1 := w64 (by omega)
 unfold spec_l1Cur_next.f
 rw [e]
 by_cases c1 : a < (l.length : Int)
 ·have hr := hb _ (rd_mem h1 c1)
  rw [if_pos c1, if_pos h1, w64 (n := rd l a) (by omega)]
  by_cases c2 : a + 1 ≤ (l.length : Int)
  ·rw [if_pos c2]; exact ⟨_, _, _, rfl, hr, ⟨by omega, by omega⟩, by omega⟩
  ·rw [if_neg c2]; exact ⟨_, _, _, rfl, draw_in _, ⟨by omega, by omega⟩, by omega⟩
 ·rw [if_neg c1]
  by_cases c2 : a + 1 ≤ (l.length : Int)
  ·rw [if_pos c2]; exact ⟨_, _, _, rfl, ⟨by omega, by omega⟩, ⟨by omega, by omega⟩, by omega⟩
  ·rw [if_neg c2]; exact ⟨_, _, _, rfl, draw_in _, ⟨by omega, by omega⟩, by omega⟩
theorem tmod_in {b n : Int} (hb : 0 ≤ b) (hn : 1 < n) : 0 ≤ Int.tmod b n ∧ Int.tmod b n < n := by
 obtain ⟨c, rfl⟩ : ∃ c : Nat, b = (c : Int) := ⟨b.toNat, by omega⟩
 obtain ⟨k, rfl⟩ : ∃ k : Nat, n = (k : Int) := ⟨n.toNat, by omega⟩
 have e : Int.tmod (c : Int) (k : Int) = ((c % k : Nat) : Int) := rfl
 have := Nat.mod_lt c (show 0 < k by omega)
 rw [e]; omega
theorem cur_pick {l : List Int} (hb : Bytes l) {m : Nat} {a : Int} (s n : Int) (h : CurAt m a) (hm : m + 2 ≤ 1152921504606846976) :
  ∃ x a' s', spec_l1Cur_pick.f l a s n = some (x, a', s') ∧ (0 ≤ x ∧ x ≤ max (n - 1) 0) ∧ CurAt (m + 2) a' := by
 unfold spec_l1Cur_pick.f
 by_cases c1 : n ≤ 1
 ·rw [if_pos c1]; exact ⟨_, _, _, rfl, ⟨by omega, by omega⟩, h.mono (by omega) (by omega)⟩
 ·rw [if_neg c1]
  obtain ⟨b, a1, s1, h1, h2, h3⟩ := cur_next hb s h (by omega)
  rw [h1, obind]
  simp only
  have c0 : ¬ n = 0 := by omega
  by_cases c2 : n > 200
  ·rw [if_pos c2]
   obtain ⟨b2, a2, s2, h4, h5, h6⟩ := cur_next hb s1 h3 (by omega)
   rw [h4, obind, if_neg c0]
   simp only
   rw [w64 (n := b * 256) (by omega), w64 (n := b * 256 + b2) (by omega)]
   have := tmod_in (b := b * 256 + b2) (n := n) (by omega) (by omega)
   exact ⟨_, _, _, rfl, ⟨by omega, by omega⟩, h6⟩
  ·rw [if_neg c2, if_neg c0]
   have := tmod_in (b := b) (n := n) (by omega) (by omega)
   exact ⟨_, _, _, rfl, ⟨by omega, by omega⟩, h3.mono (by omega) (by omega)⟩

theorem cur_one {l : List Int} (hb : Bytes l) {m : Nat} {a : Int} (s n : Int) (h : CurAt m a) (hm : m + 2 ≤ 1152921504606846976) :
  ∃ x a' s', spec_l1Cur_one.f l a s n = some (x, a', s') ∧ CurAt (m + 2) a' := by
 unfold spec_l1Cur_one.f
 obtain ⟨b, a1, s1, h1, h2, h3⟩ := cur_pick hb s n h hm
 rw [h1, obind]
 exact ⟨_, _, _, rfl, h3⟩

theorem cur_balanced_loop {l : List Int} (hb : Bytes l) (d : Nat) : ∀ (w : List Int) (o n m : Nat) (a s : Int), 2 * n + o = d → w.length + d ≤ 24 → CurAt m a → m + 2 * d + 6 ≤ 1152921504606846976 →
  ∃ r a' s', Ev (fun k => spec_l1Cur_balancedWord.l0 k w (o : Int) (n : Int) l a s) (r, a', s') ∧ r.length ≤ 26 ∧ CurAt (m + 2 * d + 6) a' := by
 induction d with
 | zero =>
  intro w o n m a s hd hw hc hm
  obtain ⟨rfl, rfl⟩ : n = 0 ∧ o = 0 := ⟨by omega, by omega⟩
  obtain ⟨x, a1, s1, h1, h2, h3⟩ := cur_pick hb s 12 hc (by omega)
  have c0 : ¬ ((0 : Nat) : Int) > 0 := by omega
  have key : ∃ r a' s', Ev (fun k => spec_l1Cur_balancedWord.j2 k w ((0 : Nat) : Int) ((0 : Nat) : Int) false l a s) (r, a', s') ∧ r.length ≤ 26 ∧ CurAt (m + 2 * 0 + 6) a' := by
   by_cases c1 : x = 0
   ·by_cases c2 : (w.length : Int) > 0
    ·obtain ⟨y, a2, s2, h4, h5, h6⟩ := cur_pick hb s1 (w.length : Int) h3 (by omega)
     obtain ⟨z, a3, s3, h7, h8, h9⟩ := cur_pick hb s2 4 h6 (by omega)
     have c3 : y < (w.length : Int) := by omega
     refine ⟨w.set y.toNat (wrap64 (z - 1)), a3, s3, Ev.done fun k => ?_, by simp; omega, h9.mono (by omega) (by omega)⟩
     simp only [spec_l1Cur_balancedWord.j2, Bool.false_eq_true, if_false, h1, obind, if_pos c1, if_pos c2, h4, h7, if_pos h5.1, if_pos c3]
    ·refine ⟨w, a1, s1, Ev.done fun k => ?_, by omega, h3.mono (by omega) (by omega)⟩
     simp only [spec_l1Cur_balancedWord.j2, Bool.false_eq_true, if_false, h1, obind, if_pos c1, if_neg c2]
   ·by_cases c2 : x = 1
    ·have c3 : w.length + ([1, 0] : List Int).length < 17592186044416 := by simp; omega
     refine ⟨w ++ [1, 0], a1, s1, Ev.done fun k => ?_, by simp; omega, h3.mono (by omega) (by omega)⟩
     simp only [spec_l1Cur_balancedWord.j2, Bool.false_eq_true, if_false, h1, obind, if_neg c1, if_pos c2, if_pos c3]
    ·refine ⟨w, a1, s1, Ev.done fun k => ?_, by omega, h3.mono (by omega) (by omega)⟩
     simp only [spec_l1Cur_balancedWord.j2, Bool.false_eq_true, if_false, h1, obind, if_neg c1, if_neg c2]
  obtain ⟨r, a', s', e1, e2, e3⟩ := key
  refine ⟨r, a', s', Ev.succ ?_, e2, e3⟩
  simp only [spec_l1Cur_balancedWord.l0, if_neg c0, decide_eq_false c0]
  exact e1
 | succ d ih =>
  intro w o n m a s hd hw hc hm
  have cl : w.length < 17592186044416 := by omega
  have one : 0 < n → ∀ (m' : Nat) (a' s' : Int), m' ≤ m + 2 → CurAt m' a' → ∃ r a'' s'', Ev (fun k => spec_l1Cur_balancedWord.l0 k (w ++ [1]) (wrap64 ((o : Int) + 1)) (wrap64 ((n : Int) - 1)) l a' s') (r, a'', s'') ∧ r.length ≤ 26 ∧ CurAt (m + 2 * (d + 1) + 6) a'' := by
   intro hn m' a' s' hm' hc'
   obtain ⟨q, rfl⟩ : ∃ q, n = q + 1 := ⟨n - 1, by omega⟩
   obtain ⟨r, a2, s2, h1, h2, h3⟩ := ih (w ++ [1]) (o + 1) q m' a' s' (by omega) (by simp; omega) hc' (by omega)
   refine ⟨r, a2, s2, ?_, h2, h3.mono (by omega) (by omega)⟩
   rw [i_up (by omega), i_down (by omega)]
   exact h1
  have zero : 0 < o → ∀ (m' : Nat) (a' s' : Int), m' ≤ m + 2 → CurAt m' a' → ∃ r a'' s'', Ev (fun k => spec_l1Cur_balancedWord.l0 k (w ++ [0]) (wrap64 ((o : Int) - 1)) (n : Int) l a' s') (r, a'', s'') ∧ r.length ≤ 26 ∧ CurAt (m + 2 * (d + 1) + 6) a'' := by
   intro ho m' a' s' hm' hc'
   obtain ⟨q, rfl⟩ : ∃ q, o = q + 1 := ⟨o - 1, by omega⟩
   obtain ⟨r, a2, s2, h1, h2, h3⟩ := ih (w ++ [0]) q n m' a' s' (by omega) (by simp; omega) hc' (by omega)
   refine ⟨r, a2, s2, ?_, h2, h3.mono (by omega) (by omega)⟩
   rw [i_down (by omega)]
   exact h1
  by_cases hn : (n : Int) > 0
  ·by_cases ho : (o : Int) = 0
   ·obtain ⟨r, a2, s2, h1, h2, h3⟩ := one (by omega) m a s (by omega) hc
    refine ⟨r, a2, s2, Ev.succ ?_, h2, h3⟩
    simp only [spec_l1Cur_balancedWord.l0, if_pos hn]
    refine Ev.succ ?_
    simp only [spec_l1Cur_balancedWord.j2, if_true, if_pos hn, if_pos ho, if_pos cl]
    exact h1
   ·obtain ⟨b, a1, s1, h4, h5⟩ := cur_one hb s 2 hc (by omega)
    cases b with
    | true =>
     obtain ⟨r, a2, s2, h1, h2, h3⟩ := one (by omega) (m + 2) a1 s1 (by omega) h5
     refine ⟨r, a2, s2, Ev.succ ?_, h2, h3⟩
     simp only [spec_l1Cur_balancedWord.l0, if_pos hn]
     refine Ev.succ ?_
     simp only [spec_l1Cur_balancedWord.j2, if_true, if_pos hn, if_neg ho, h4, obind, if_pos cl]
     exact h1
    | false =>
     obtain ⟨r, a2, s2, h1, h2, h3⟩ := zero (by omega) (m + 2) a1 s1 (by omega) h5
     refine ⟨r, a2, s2, Ev.succ ?_, h2, h3⟩
     simp only [spec_l1Cur_balancedWord.l0, if_pos hn]
     refine Ev.succ ?_
     simp only [spec_l1Cur_balancedWord.j2, if_true, if_pos hn, if_neg ho, h4, obind, Bool.false_eq_true, if_false, if_pos cl]
     exact h1
  ·have ho : (o : Int) > 0 := by omega
   obtain ⟨r, a2, s2, h1, h2, h3⟩ := zero (by omega) m a s (by omega) hc
   refine ⟨r, a2, s2, Ev.succ ?_, h2, h3⟩
   simp only [spec_l1Cur_balancedWord.l0, if_neg hn, decide_eq_true ho]
   refine Ev.succ ?_
   simp only [spec_l1Cur_balancedWord.j2, if_true, if_neg hn, if_pos cl]
   exact h1
theorem cur_balanced {l : List Int} (hb : Bytes l) {m : Nat} {a : Int} (s : Int) (h : CurAt m a) (hm : m + 100 ≤ 1152921504606846976) :
  ∃ w a' s', Ev (fun k => spec_l1Cur_balancedWord.f k l a s) (w, a', s') ∧ w.length ≤ 26 ∧ CurAt (m + 100) a' := by
 unfold spec_l1Cur_balancedWord.f
 obtain ⟨x, a1, s1, h1, h2, h3⟩ := cur_pick hb s 7 h (by omega)
 obtain ⟨b, a2, s2, h4, h5⟩ := cur_one hb s1 12 h3 (by omega)
 simp only [h1, obind, h4]
 obtain ⟨n, rfl⟩ : ∃ n : Nat, x = (n : Int) := ⟨x.toNat, by omega⟩
 cases b with
 | true =>
  obtain ⟨r, a3, s3, h6, h7, h8⟩ := cur_balanced_loop hb 24 [] 0 12 _ _ s2 (by omega) (by simp) h5 (by omega)
  refine ⟨r, a3, s3, ?_, h7, h8.mono (by omega) (by omega)⟩
  simp only [if_true]
  refine Ev.succ ?_
  simp only [spec_l1Cur_balancedWord.j0]
  exact h6
 | false =>
  obtain ⟨r, a3, s3, h6, h7, h8⟩ := cur_balanced_loop hb (2 * n) [] 0 n _ _ s2 (by omega) (by simp; omega) h5 (by omega)
  refine ⟨r, a3, s3, ?_, h7, h8.mono (by omega) (by omega)⟩
  simp only [Bool.false_eq_true, if_false]
  refine Ev.succ ?_
  simp only [spec_l1Cur_balancedWord.j0]
  exact h6

theorem spec_l1Most_eq (a b : Int) : spec_l1Most.f a b = some (max a b) := most_max a b

theorem spec_spTop_loop (s : List Int) : ∀ (p : List Int) (m n i : Int), n = ((p ++ s).length : Int) → i = (p.length : Int) → (p ++ s).length ≤ 1099511627776 →
  Ev (fun k => spec_spTop.l0 k m (p ++ s) n i) (s.foldl max m) := by
 induction s with
 | nil =>
  intro p m n i hn hi hl
  refine Ev.to (Ev.done fun k => ?_) (show m = _ by simp)
  simp only [spec_spTop.l0]
  rw [if_neg (by rw [len_nil] at hn; omega)]
 | cons x s ih =>
  intro p m n i hn hi hl
  have h1 := len_mid p s x
  have := ih (p ++ [x]) (max m x) n (i + 1) (by rw [← snoc_mid]; exact hn) (by rw [len_snoc]; omega) (by rw [← snoc_mid]; exact hl)
  rw [← snoc_mid] at this
  refine Ev.to (Ev.step' this fun k => ?_) (by simp)
  simp only [spec_spTop.l0]
  rw [if_pos (by omega), if_pos (by omega), if_pos (by omega), rd_mid hi, spec_l1Most_eq, w64 (by omega)]
  rfl
theorem spec_spTop_ev (l : List Int) (hl : l.length ≤ 1099511627776) : Ev (fun k => spec_spTop.f k l) (l.foldl max (-1)) :=
 spec_spTop_loop l [] (-1) _ 0 rfl (by simp) (by simpa using hl)

theorem spec_l1In_eq (a b c : Int) : spec_l1In.f a b c = some (inB a b c) := inB_ite a b c

theorem spec_spBalanced_loop (l : List Int) (s : List Int) : ∀ (p : List Int) (o n i : Int), 0 ≤ o → o ≤ p.length → n = ((p ++ s).length : Int) → i = (p.length : Int) → (p ++ s).length ≤ 1099511627776 →
  Ev (fun k => spec_spBalanced.l0 k l o (p ++ s) n i) (balW o s && decide ((l.length : Int) ≤ 24)) := by
 induction s with
 | nil =>
  intro p o n i ho ho' hn hi hl
  refine Ev.to (Ev.done fun k => ?_) (show (if o = 0 then decide ((l.length : Int) ≤ 24) else false) = _ by unfold balW; split <;> simp [*])
  simp only [spec_spBalanced.l0]
  rw [if_neg (by rw [len_nil] at hn; omega)]
  split <;> rfl
 | cons x s ih =>
  intro p o n i ho ho' hn hi hl
  have h1 := len_mid p s x
  unfold balW
  cases hb : inB x 0 1 with
  | false =>
   refine Ev.to (Ev.done fun k => ?_) (show false = _ by simp)
   simp only [spec_spBalanced.l0]
   rw [if_pos (by omega), if_pos (by omega), if_pos (by omega), rd_mid hi, spec_l1In_eq, hb]
   rfl
  | true =>
   have hx := inB_true.1 hb
   by_cases hneg : o + (2 * x - 1) < 0
   ·refine Ev.to (Ev.done fun k => ?_) (show false = _ by rw [decide_eq_false (by omega)]; simp)
    simp only [spec_spBalanced.l0]
    rw [if_pos (by omega), if_pos (by omega), if_pos (by omega), rd_mid hi, spec_l1In_eq, hb]
    simp only [obind, if_true]
    rw [w64 (n := 2 * x) (by omega), w64 (n := 2 * x - 1) (by omega), w64 (n := o + (2 * x - 1)) (by omega), if_pos hneg]
   ·have := ih (p ++ [x]) (o + (2 * x - 1)) n (i + 1) (by omega) (by rw [len_snoc]; omega) (by rw [← snoc_mid]; exact hn) (by rw [len_snoc]; omega) (by rw [← snoc_mid]; exact hl)
    rw [← snoc_mid] at this
    refine Ev.to (Ev.step' this fun k => ?_) (by rw [decide_eq_true (show 0 ≤ o + (2 * x - 1) by omega)]; simp)
    simp only [spec_spBalanced.l0]
    rw [if_pos (by omega), if_pos (by omega), if_pos (by omega), rd_mid hi, spec_l1In_eq, hb]
    simp only [obind, if_true]
    rw [w64 (n := 2 * x) (by omega), w64 (n := 2 * x - 1) (by omega), w64 (n := o + (2 * x - 1)) (by omega), if_neg hneg, w64 (n := i + 1) (by omega)]
theorem spec_spBalanced_ev (l : List Int) (hl : l.length ≤ 1099511627776) : Ev (fun k => spec_spBalanced.f k l) (isB l) :=
 spec_spBalanced_loop l l [] 0 _ 0 (by omega) (by simp) rfl (by simp) (by simpa using hl)

theorem impl_within_eq (a b c : Int) : impl_within.f a b c = some (inB a b c) := inB_ite a b c

theorem impl_IsBalancedWord_loop (l : List Int) (s : List Int) : ∀ (p : List Int) (o n i : Int), 0 ≤ o → o ≤ p.length → n = ((p ++ s).length : Int) → i = (p.length : Int) → (p ++ s).length ≤ 1099511627776 →
  Ev (fun k => impl_IsBalancedWord.l0 k l o (p ++ s) n i) (balW o s && decide ((l.length : Int) ≤ 24)) := by
 induction s with
 | nil =>
  intro p o n i ho ho' hn hi hl
  refine Ev.to (Ev.done fun k => ?_) (show (if o = 0 then decide ((l.length : Int) ≤ 24) else false) = _ by unfold balW; split <;> simp [*])
  simp only [impl_IsBalancedWord.l0]
  rw [if_neg (by rw [len_nil] at hn; omega)]
  split <;> rfl
 | cons x s ih =>
  intro p o n i ho ho' hn hi hl
  have h1 := len_mid p s x
  unfold balW
  cases hb : inB x 0 1 with
  | false =>
   refine Ev.to (Ev.done fun k => ?_) (show false = _ by simp)
   simp only [impl_IsBalancedWord.l0]
   rw [if_pos (by omega), if_pos (by omega), if_pos (by omega), rd_mid hi, impl_within_eq, hb]
   rfl
  | true =>
   have hx := inB_true.1 hb
   by_cases hneg : o + (2 * x - 1) < 0
   ·refine Ev.to (Ev.done fun k => ?_) (show false = _ by rw [decide_eq_false (by omega)]; simp)
    simp only [impl_IsBalancedWord.l0]
    rw [if_pos (by omega), if_pos (by omega), if_pos (by omega), rd_mid hi, impl_within_eq, hb]
    simp only [obind, if_true]
    rw [w64 (n := 2 * x) (by omega), w64 (n := 2 * x - 1) (by omega), w64 (n := o + (2 * x - 1)) (by omega), if_pos hneg]
   ·have := ih (p ++ [x]) (o + (2 * x - 1)) n (i + 1) (by omega) (by rw [len_snoc]; omega) (by rw [← snoc_mid]; exact hn) (by rw [len_snoc]; omega) (by rw [← snoc_mid]; exact hl)
    rw [← snoc_mid] at this
    refine Ev.to (Ev.step' this fun k => ?_) (by rw [decide_eq_true (show 0 ≤ o + (2 * x - 1) by omega)]; simp)
    simp only [impl_IsBalancedWord.l0]
    rw [if_pos (by omega), if_pos (by omega), if_pos (by omega), rd_mid hi, impl_within_eq, hb]
    simp only [obind, if_true]
    rw [w64 (n := 2 * x) (by omega), w64 (n := 2 * x - 1) (by omega), w64 (n := o + (2 * x - 1)) (by omega), if_neg hneg, w64 (n := i + 1) (by omega)]
theorem impl_IsBalancedWord_ev (l : List Int) (hl : l.length ≤ 1099511627776) : Ev (fun k => impl_IsBalancedWord.f k l) (isB l) :=
 impl_IsBalancedWord_loop l l [] 0 _ 0 (by omega) (by simp) rfl (by simp) (by simpa using hl)

theorem impl_GrowthOfWord_loop (w : List Int) (s : List Int) : ∀ (p out st : List Int) (c : Nat) (prev : Bool) (n i : Int), w = p ++ s → balW (st.length : Int) s = true → n = (w.length : Int) → i = (p.length : Int) → w.length ≤ 1000 → st.length + s.length ≤ 1000 → out.length + s.length ≤ 1000 → c ≤ p.length →
  ((p = [] ∧ prev = false) ∨ ∃ (p' : List Int) (y : Int), p = p' ++ [y] ∧ prev = decide (y = 1)) →
  Ev (fun k => impl_GrowthOfWord.l0 k w out st.reverse (c : Int) w n i) (out ++ gowF st c prev s, true) := by
 induction s with
 | nil =>
  intro p out st c prev n i hw hb hn hi hl hs ho hc hp
  refine Ev.to (Ev.done fun k => ?_) (show (out, true) = _ by simp [gowF])
  simp only [impl_GrowthOfWord.l0]
  rw [if_neg (by rw [List.append_nil] at hw; subst hw; omega)]
 | cons x s ih =>
  intro p out st c prev n i hw hb hn hi hl hs ho hc hp
  obtain ⟨h1, h2, h3⟩ := balW_cons hb
  have hlen : w.length = p.length + s.length + 1 := by rw [hw]; simp; omega
  rw [List.length_cons] at hs ho
  have hr : rd w i = x := by rw [hw]; exact rd_mid hi
  have hw' : w = (p ++ [x]) ++ s := by rw [hw]; simp
  have hwi : wrap64 (i + 1) = i + 1 := w64 (by omega)
  refine Ev.succ ?_
  simp only [impl_GrowthOfWord.l0]
  simp only [if_pos (show i < n by omega), if_pos (show 0 ≤ i by omega), if_pos (show i < (w.length : Int) by omega), hr, hwi]
  by_cases c1 : x = 1
  ·simp only [if_pos c1, if_pos (show st.reverse.length < 17592186044416 by rw [List.length_reverse]; omega)]
   have := ih (p ++ [x]) out ((c : Int) :: st) c true n (i + 1) hw' (by rw [c1] at h3; simpa using h3) hn (by simp; omega) hl (by simp; omega) (by omega) (by simp; omega) (.inr ⟨p, x, rfl, by simp [c1]⟩)
   rw [List.reverse_cons] at this
   refine Ev.to this ?_
   rw [gowF, if_pos c1]
  ·have hx0 : x = 0 := by omega
   obtain ⟨t, st, rfl⟩ : ∃ t q, st = t :: q := by
    cases st with
    | nil => rw [hx0] at h2; simp at h2
    | cons t q => exact ⟨t, q, rfl⟩
   rw [List.length_cons] at hs
   have eL : (t :: st).reverse = st.reverse ++ [t] := List.reverse_cons ..
   have hbal : balW (st.length : Int) s = true := by
    have e : ((t :: st).length : Int) + (2 * x - 1) = (st.length : Int) := by rw [hx0]; simp; omega
    rw [e] at h3; exact h3
   have hQ : st.reverse.length = st.length := List.length_reverse
   have hrec : ∀ c' : Nat, c' ≤ p.length + 1 → Ev (fun k => impl_GrowthOfWord.l0 k w (out ++ [t]) st.reverse (c' : Int) w n (i + 1)) ((out ++ [t]) ++ gowF st c' false s, true) := fun c' hc' =>
    ih (p ++ [x]) (out ++ [t]) st c' false n (i + 1) hw' hbal hn (by simp; omega) hl (by omega) (by simp; omega) (by simpa using hc') (.inr ⟨p, x, rfl, by simp [c1]⟩)
   generalize hQd : st.reverse = Q at hQ hrec eL
   have e1 : wrap64 (((Q ++ [t]).length : Int) - 1) = (Q.length : Int) := by rw [len_snoc, w64 (by omega)]; omega
   have e2 : rd (Q ++ [t]) (Q.length : Int) = t := rd_mid rfl
   have e7 : (Q ++ [t]).take ((Q.length : Int)).toNat = Q := by simp
   have eg : gowF (t :: st) c prev (x :: s) = t :: gowF st (if prev = true then c + 1 else c) false s := by rw [gowF, if_neg c1]; rfl
   simp only [eL, if_neg c1, e1, e2, e7, obind, if_pos (show (0 : Int) ≤ (Q.length : Int) by omega), if_pos (show (Q.length : Int) < (((Q ++ [t]).length : Nat) : Int) by rw [len_snoc]; omega), if_pos (show (Q.length : Int) ≤ (((Q ++ [t]).length : Nat) : Int) by rw [len_snoc]; omega), if_pos (show out.length < 17592186044416 by omega)]
   rw [eg]
   rcases hp with ⟨rfl, rfl⟩ | ⟨p', y, rfl, rfl⟩
   ·simp only [if_neg (show ¬ i > 0 by simp at hi; omega)]
    refine Ev.to (hrec c (by omega)) ?_
    simp
   ·have hi' : i = (p'.length : Int) + 1 := by rw [hi]; simp
    have em : wrap64 (i - 1) = (p'.length : Int) := by rw [w64 (by omega)]; omega
    have er : rd w (p'.length : Int) = y := by rw [hw, List.append_assoc]; exact rd_mid rfl
    have hpl : (p' ++ [y]).length = p'.length + 1 := by simp
    simp only [if_pos (show i > 0 by omega), em, er, if_pos (show (0 : Int) ≤ (p'.length : Int) by omega), if_pos (show (p'.length : Int) < (w.length : Int) by omega)]
    by_cases cy : y = 1
    ·simp only [if_pos cy, i_up (show c ≤ 1099511627776 by omega)]
     refine Ev.to (hrec (c + 1) (by omega)) ?_
     simp [cy]
    ·simp only [if_neg cy]
     refine Ev.to (hrec c (by omega)) ?_
     simp [cy]
/-- What GrowthOfWord answers. -/
def gowR (l : List Int) : List Int × Bool := if isB l = true then (if (l.length : Int) == 0 then ([], false) else (gowW l, true)) else ([], false)
theorem isB_both {l : List Int} (h : isB l = true) : balW 0 l = true ∧ l.length ≤ 24 := by
 unfold isB at h
 rw [Bool.and_eq_true, decide_eq_true_iff] at h
 exact ⟨h.1, by omega⟩
theorem gowR_len (l : List Int) : (gowR l).1.length ≤ 24 := by
 unfold gowR
 split
 ·rename_i h
  have := isB_both h
  split
  ·simp
  ·exact Nat.le_trans (gowF_len l _ _ _) this.2
 ·simp
theorem impl_GrowthOfWord_ev (l : List Int) (hl : l.length ≤ 1099511627776) : Ev (fun k => impl_GrowthOfWord.f k l) (gowR l) := by
 unfold impl_GrowthOfWord.f gowR
 refine Ev.bind (impl_IsBalancedWord_ev l hl) ?_
 by_cases h : isB l = true
 ·obtain ⟨h1, h2⟩ := isB_both h
  simp only [if_pos h]
  refine Ev.succ ?_
  simp only [impl_GrowthOfWord.j0]
  by_cases c : ((l.length : Int) == 0) = true
  ·simp only [if_pos c]; exact Ev.now _
  ·simp only [if_neg c]
   exact impl_GrowthOfWord_loop l l [] [] [] 0 false _ 0 rfl h1 rfl (by simp) (by omega) (by simp; omega) (by simp; omega) (by simp) (.inl ⟨rfl, rfl⟩)
 ·simp only [if_neg h]
  refine Ev.succ ?_
  simp only [impl_GrowthOfWord.j0, if_true]
  exact Ev.now _

theorem spec_GrowthOfWord_loop (w : List Int) (s : List Int) : ∀ (p out : List Int) (ps : List (Int × Nat)) (c ones : Nat) (n i : Int), w = p ++ s → balW ((ones + (expP ps).length : Nat) : Int) s = true → (∀ z ∈ ps, 0 < z.2) → n = (w.length : Int) → i = (p.length : Int) → w.length ≤ 1000 → ps.length + ones + s.length ≤ 1000 → (∀ z ∈ ps, z.2 ≤ 1000) → out.length + s.length ≤ 1000 → c ≤ p.length →
  Ev (fun k => spec_GrowthOfWord.l0 k out (fstL ps) (sndL ps) (c : Int) (ones : Int) w n i) (out ++ gowF (List.replicate ones (c : Int) ++ expP ps) c (decide (0 < ones)) s, true) := by
 induction s with
 | nil =>
  intro p out ps c ones n i hw hb h0 hn hi hl hs hz ho hc
  refine Ev.to (Ev.done fun k => ?_) (show (out, true) = _ by simp [gowF])
  simp only [spec_GrowthOfWord.l0]
  rw [if_neg (by rw [List.append_nil] at hw; subst hw; omega)]
 | cons x s ih =>
  intro p out ps c ones n i hw hb h0 hn hi hl hs hz ho hc
  obtain ⟨h1, h2, h3⟩ := balW_cons hb
  have hlen : w.length = p.length + s.length + 1 := by rw [hw]; simp; omega
  rw [List.length_cons] at hs ho
  have hr : rd w i = x := by rw [hw]; exact rd_mid hi
  have hw' : w = (p ++ [x]) ++ s := by rw [hw]; simp
  have hwi : wrap64 (i + 1) = i + 1 := w64 (by omega)
  refine Ev.succ ?_
  simp only [spec_GrowthOfWord.l0]
  simp only [if_pos (show i < n by omega), if_pos (show 0 ≤ i by omega), if_pos (show i < (w.length : Int) by omega), hr, hwi]
  by_cases c1 : x = 1
  ·simp only [if_pos c1, i_up (show ones ≤ 1099511627776 by omega)]
   have := ih (p ++ [x]) out ps c (ones + 1) n (i + 1) hw' (by
    have e : ((ones + (expP ps).length : Nat) : Int) + (2 * x - 1) = ((ones + 1 + (expP ps).length : Nat) : Int) := by rw [c1]; omega
    rw [e] at h3; exact h3) h0 hn (by simp; omega) hl (by omega) hz (by omega) (by simp; omega)
   refine Ev.to this ?_
   rw [gowF.eq_2, if_pos c1]
   have ed : decide (0 < ones + 1) = true := decide_eq_true (by omega)
   rw [ed, List.replicate_succ]; rfl
  have hx0 : x = 0 := by omega
  simp only [if_neg c1]
  have hrec : ∀ (t : Int) (m : Nat) (q : List (Int × Nat)) (c' : Nat), m ≤ 1000 → q.length ≤ ps.length + ones - 1 → q.length + 1 ≤ 1000 - s.length → (∀ z ∈ q, 0 < z.2) → (∀ z ∈ q, z.2 ≤ 1000) → ones + (expP ps).length = m + 1 + (expP q).length → c' ≤ p.length + 1 →
    (m = 0 → Ev (fun k => spec_GrowthOfWord.l0 k (out ++ [t]) (fstL q) (sndL q) (c' : Int) 0 w n (i + 1)) (out ++ t :: gowF (List.replicate m t ++ expP q) c' false s, true)) ∧
    (¬ m = 0 → Ev (fun k => spec_GrowthOfWord.l0 k (out ++ [t]) (fstL q ++ [t]) (sndL q ++ [(m : Int)]) (c' : Int) 0 w n (i + 1)) (out ++ t :: gowF (List.replicate m t ++ expP q) c' false s, true)) := by
   intro t m q c' hm hq hq2 hq0 hqz he hc'
   have hb' : balW ((0 + (m + (expP q).length) : Nat) : Int) s = true := by
    have e : ((ones + (expP ps).length : Nat) : Int) + (2 * x - 1) = ((0 + (m + (expP q).length) : Nat) : Int) := by rw [hx0]; omega
    rw [e] at h3; exact h3
   constructor
   ·intro hm0
    subst hm0
    have := ih (p ++ [x]) (out ++ [t]) q c' 0 n (i + 1) hw' (by simpa using hb') hq0 hn (by simp; omega) hl (by omega) hqz (by simp; omega) (by simpa using hc')
    refine Ev.to this ?_
    simp
   ·intro hm0
    have := ih (p ++ [x]) (out ++ [t]) ((t, m) :: q) c' 0 n (i + 1) hw' (by simpa [expP] using hb') (fun z hz' => by rcases List.mem_cons.1 hz' with rfl | h; exact Nat.pos_of_ne_zero hm0; exact hq0 z h) hn (by simp; omega) hl (by simp; omega)
     (fun z hz' => by rcases List.mem_cons.1 hz' with rfl | h; exact hm; exact hqz z h) (by simp; omega) (by simpa using hc')
    refine Ev.to this ?_
    simp [expP]
  by_cases co : 0 < ones
  ·obtain ⟨m, rfl⟩ : ∃ m, ones = m + 1 := ⟨ones - 1, by omega⟩
   obtain ⟨r1, r2⟩ := hrec (c : Int) m ps (c + 1) (by omega) (by omega) (by omega) h0 hz (by omega) (by omega)
   have eg : gowF (List.replicate (m + 1) (c : Int) ++ expP ps) c (decide (0 < m + 1)) (x :: s) = (c : Int) :: gowF (List.replicate m (c : Int) ++ expP ps) (c + 1) false s := by
    rw [gowF.eq_2, if_neg c1, decide_eq_true co, List.replicate_succ]; rfl
   rw [eg]
   generalize hqd : ps = q at *
   generalize htd : (c : Int) = t at *
   generalize hQd : fstL q = Q at *
   generalize hZd : sndL q = Z at *
   have hQ : Q.length = Z.length := by rw [← hQd, ← hZd, fstL_len, sndL_len]
   have hQl : Q.length = q.length := by rw [← hQd, fstL_len]
   have e1 : wrap64 (((Q ++ [t]).length : Int) - 1) = (Q.length : Int) := by rw [len_snoc, w64 (by omega)]; omega
   have e2 : rd (Q ++ [t]) (Q.length : Int) = t := rd_mid rfl
   have e3 : rd (Z ++ [((m + 1 : Nat) : Int)]) (Q.length : Int) = ((m + 1 : Nat) : Int) := rd_mid (by omega)
   have e4 : wrap64 (((m + 1 : Nat) : Int) - 1) = (m : Int) := i_down (by omega)
   have e5 : (Z ++ [((m + 1 : Nat) : Int)]).set ((Q.length : Int)).toNat (m : Int) = Z ++ [(m : Int)] := set_mid (by omega)
   have e6 : rd (Z ++ [(m : Int)]) (Q.length : Int) = (m : Int) := rd_mid (by omega)
   have e7 : (Q ++ [t]).take ((Q.length : Int)).toNat = Q := by simp
   have e8 : (Z ++ [(m : Int)]).take ((Q.length : Int)).toNat = Z := by rw [Int.toNat_natCast, hQ]; simp
   have g1 : (Q.length : Int) < (((Q ++ [t]).length : Nat) : Int) := by rw [len_snoc]; omega
   have g2 : (Q.length : Int) < (((Z ++ [((m + 1 : Nat) : Int)]).length : Nat) : Int) := by rw [len_snoc]; omega
   have g3 : (Q.length : Int) ≤ (((Q ++ [t]).length : Nat) : Int) := by rw [len_snoc]; omega
   have g4 : (Q.length : Int) ≤ (((Z ++ [((m + 1 : Nat) : Int)]).length : Nat) : Int) := by rw [len_snoc]; omega
   have ec : wrap64 (t + 1) = ((c + 1 : Nat) : Int) := by rw [← htd]; exact i_up (by omega)
   simp only [if_pos (show ((m + 1 : Nat) : Int) > 0 by omega), if_pos (show Q.length < 17592186044416 by omega), if_pos (show Z.length < 17592186044416 by omega), obind, e1, e2, e3, e4, e5, e6, e7, e8, if_pos g1, if_pos g2, if_pos g3, if_pos g4, if_pos (show (0 : Int) ≤ (Q.length : Int) by omega), if_pos (show out.length < 17592186044416 by omega), ec]
   by_cases cm : m = 0
   ·have := r1 cm
    simp only [if_pos (show (m : Int) = 0 by omega)]
    exact this
   ·have := r2 cm
    simp only [if_neg (show ¬ (m : Int) = 0 by omega)]
    exact this
  ·have ho0 : ones = 0 := by omega
   subst ho0
   obtain ⟨t, m, q, rfl⟩ : ∃ t m q, ps = (t, m + 1) :: q := by
    cases ps with
    | nil => rw [hx0] at h2; simp [expP] at h2
    | cons z q =>
     obtain ⟨t, m⟩ := z
     have := h0 (t, m) (List.mem_cons_self ..)
     exact ⟨t, m - 1, q, by congr 2; simp at this; omega⟩
   have hz1 : m + 1 ≤ 1000 := hz (t, m + 1) (List.mem_cons_self ..)
   have hpl : ((t, m + 1) :: q).length = q.length + 1 := rfl
   obtain ⟨r1, r2⟩ := hrec t m q c (by omega) (by omega) (by omega) (fun z h => h0 z (List.mem_cons_of_mem _ h)) (fun z h => hz z (List.mem_cons_of_mem _ h)) (by simp [expP]) (by omega)
   have eg : gowF (List.replicate 0 (c : Int) ++ expP ((t, m + 1) :: q)) c (decide (0 < 0)) (x :: s) = t :: gowF (List.replicate m t ++ expP q) c false s := by
    have e : List.replicate 0 (c : Int) ++ expP ((t, m + 1) :: q) = t :: (List.replicate m t ++ expP q) := by rw [expP, List.replicate_succ]; rfl
    rw [e, gowF.eq_2, if_neg c1]; rfl
   rw [eg]
   show Ev (fun k => if ((0 : Nat) : Int) > 0 then _ else _) _
   simp only [if_neg (show ¬ ((0 : Nat) : Int) > 0 by omega), fstL, sndL]
   have hQ : (fstL q).length = (sndL q).length := by rw [fstL_len, sndL_len]
   have hQl : (fstL q).length = q.length := by rw [fstL_len]
   have e1 : wrap64 ((((fstL q) ++ [t]).length : Int) - 1) = ((fstL q).length : Int) := by rw [len_snoc, w64 (by omega)]; omega
   have e2 : rd ((fstL q) ++ [t]) ((fstL q).length : Int) = t := rd_mid rfl
   have e3 : rd ((sndL q) ++ [((m + 1 : Nat) : Int)]) ((fstL q).length : Int) = ((m + 1 : Nat) : Int) := rd_mid (by omega)
   have e4 : wrap64 (((m + 1 : Nat) : Int) - 1) = (m : Int) := i_down (by omega)
   have e5 : ((sndL q) ++ [((m + 1 : Nat) : Int)]).set (((fstL q).length : Int)).toNat (m : Int) = (sndL q) ++ [(m : Int)] := set_mid (by omega)
   have e6 : rd ((sndL q) ++ [(m : Int)]) ((fstL q).length : Int) = (m : Int) := rd_mid (by omega)
   have e7 : ((fstL q) ++ [t]).take (((fstL q).length : Int)).toNat = (fstL q) := by simp
   have e8 : ((sndL q) ++ [(m : Int)]).take (((fstL q).length : Int)).toNat = (sndL q) := by rw [Int.toNat_natCast, hQ]; simp
   have g1 : ((fstL q).length : Int) < ((((fstL q) ++ [t]).length : Nat) : Int) := by rw [len_snoc]; omega
   have g2 : ((fstL q).length : Int) < ((((sndL q) ++ [((m + 1 : Nat) : Int)]).length : Nat) : Int) := by rw [len_snoc]; omega
   have g3 : ((fstL q).length : Int) ≤ ((((fstL q) ++ [t]).length : Nat) : Int) := by rw [len_snoc]; omega
   have g4 : ((fstL q).length : Int) ≤ ((((sndL q) ++ [((m + 1 : Nat) : Int)]).length : Nat) : Int) := by rw [len_snoc]; omega
   simp only [obind, e1, e2, e3, e4, e5, e6, e7, e8, if_pos g1, if_pos g2, if_pos g3, if_pos g4, if_pos (show (0 : Int) ≤ ((fstL q).length : Int) by omega), if_pos (show out.length < 17592186044416 by omega)]
   by_cases cm : m = 0
   ·have := r1 cm
    simp only [if_pos (show (m : Int) = 0 by omega)]
    exact this
   ·have := r2 cm
    simp only [if_neg (show ¬ (m : Int) = 0 by omega)]
    exact this
theorem spec_GrowthOfWord_ev (l : List Int) (hl : l.length ≤ 1099511627776) : Ev (fun k => spec_GrowthOfWord.f k l) (gowR l) := by
 unfold spec_GrowthOfWord.f gowR
 refine Ev.bind (spec_spBalanced_ev l hl) ?_
 by_cases h : isB l = true
 ·obtain ⟨h1, h2⟩ := isB_both h
  simp only [if_pos h]
  refine Ev.succ ?_
  simp only [spec_GrowthOfWord.j0]
  by_cases c : ((l.length : Int) == 0) = true
  ·simp only [if_pos c]; exact Ev.now _
  ·simp only [if_neg c]
   exact spec_GrowthOfWord_loop l l [] [] [] 0 0 _ 0 rfl h1 (fun z hz => by cases hz) rfl (by simp) (by omega) (by simp; omega) (fun z hz => by cases hz) (by simp; omega) (by simp)
 ·simp only [if_neg h]
  refine Ev.succ ?_
  simp only [spec_GrowthOfWord.j0, if_true]
  exact Ev.now _

theorem spec_l1Own_eq (l : List Int) (hl : l.length ≤ 1000000) : spec_l1Own.f l = some l := by
 unfold spec_l1Own.f
 rw [obind, if_pos (by simp; omega), List.nil_append]

theorem impl_blocks_loop (s : List Int) : ∀ (p : List Int) (B : List (List Int)) (n i : Int), growW ((B.length : Int) - 1) s = true → n = ((p ++ s).length : Int) → i = (p.length : Int) → (p ++ s).length ≤ 1000 → B.length + s.length ≤ 1000 → (∀ y ∈ B, y.length + s.length ≤ 1000) →
  Ev (fun k => impl_blocks.l0 k B (p ++ s) n i) (blkF p.length B s) := by
 induction s with
 | nil =>
  intro p B n i hg hn hi hl hb hr
  refine Ev.done fun k => ?_
  simp only [impl_blocks.l0]
  rw [if_neg (by rw [List.append_nil] at hn; omega)]; rfl
 | cons x s ih =>
  intro p B n i hg hn hi hl hb hr
  obtain ⟨h1, h2⟩ := growW_next hg
  have hp : (((p ++ x :: s).length : Nat) : Int) = p.length + s.length + 1 := by simp; omega
  have hl' : p.length + s.length + 1 ≤ 1000 := by omega
  rw [List.length_cons] at hb
  have hr' : ∀ y ∈ B, y.length + (s.length + 1) ≤ 1000 := fun y hy => by have := hr y hy; rwa [List.length_cons] at this
  have e2 : p ++ x :: s = (p ++ [x]) ++ s := by simp
  have hlen := blkOne_len (i := p.length) h1
  have := ih (p ++ [x]) (blkOne B x p.length) n (i + 1) (by rw [hlen]; exact h2) (by rw [← e2]; exact hn) (by simp; omega) (by rw [← e2]; exact hl) (by rw [hlen]; omega)
   (fun y hy => by
    have := blkOne_row (n := 1000 - s.length) (by omega) (fun u hu => by have := hr' u hu; omega) y hy
    omega)
  rw [← e2] at this
  have ep : (p ++ [x]).length = p.length + 1 := by simp
  rw [ep] at this
  refine Ev.succ ?_
  simp only [impl_blocks.l0]
  simp only [if_pos (show i < n by omega), if_pos (show 0 ≤ i by omega), if_pos (show i < (((p ++ x :: s).length : Nat) : Int) by omega), rd_mid hi, show wrap64 (i + 1) = i + 1 from w64 (by omega), if_pos h1.1]
  by_cases c : x = (B.length : Int)
  ·have cN : x.toNat = B.length := by omega
   have er : rd_L2 (B ++ [[]]) x = [] := by unfold rd_L2; rw [cN]; simp
   have es : (B ++ [[]]).set x.toNat ([] ++ [i]) = blkOne B x p.length := by unfold blkOne; rw [if_pos cN, cN, hi]; simp
   simp only [if_pos c, if_pos (show B.length < 5864062014805 by omega), obind, er, if_pos (show x < (((B ++ [[]] : List (List Int)).length : Nat) : Int) by simp; omega), List.length_nil, if_pos (show 0 < 17592186044416 by omega), es]
   exact this
  ·have cN : ¬ x.toNat = B.length := by omega
   have hlt : x.toNat < B.length := by omega
   have er : rd_L2 B x = B.getD x.toNat [] := rfl
   have hrow := hr' (B.getD x.toNat []) (by rw [getD_at hlt]; exact List.getElem_mem _)
   have es : B.set x.toNat (B.getD x.toNat [] ++ [i]) = blkOne B x p.length := by unfold blkOne; rw [if_neg cN, hi]
   simp only [if_neg c, if_pos (show x < (B.length : Int) by omega), er, if_pos (show (B.getD x.toNat []).length < 17592186044416 by omega), es]
   exact this
theorem impl_blocks_ev (l : List Int) (h : isG l = true) : Ev (fun k => impl_blocks.f k l) (blk l) := by
 obtain ⟨h1, h2, h3⟩ := isG_true h
 exact impl_blocks_loop l [] [] _ 0 h1 (by simp) (by simp) (by simp; omega) (by simp; omega) (fun y hy => by cases hy)
theorem spec_spBlocks_loop (s : List Int) : ∀ (p : List Int) (B : List (List Int)) (r : Nat) (n i : Int), growW ((B.length : Int) - 1) s = true → B.length + r = topK B.length s → n = ((p ++ s).length : Int) → i = (p.length : Int) → (p ++ s).length ≤ 1000 → B.length + s.length ≤ 1000 → (∀ y ∈ B, y.length + s.length ≤ 1000) →
  Ev (fun k => spec_spBlocks.l0 k (B ++ List.replicate r []) (p ++ s) n i) (blkF p.length B s) := by
 induction s with
 | nil =>
  intro p B r n i hg ht hn hi hl hb hr
  have hr0 : r = 0 := by simp only [topK] at ht; omega
  subst hr0
  refine Ev.to (Ev.done fun k => ?_) (show B ++ List.replicate 0 [] = _ by simp [blkF])
  simp only [spec_spBlocks.l0]
  rw [if_neg (by rw [List.append_nil] at hn; omega)]
 | cons x s ih =>
  intro p B r n i hg ht hn hi hl hb hr
  obtain ⟨h1, h2⟩ := growW_next hg
  have hp : (((p ++ x :: s).length : Nat) : Int) = p.length + s.length + 1 := by simp; omega
  have hl' : p.length + s.length + 1 ≤ 1000 := by omega
  rw [List.length_cons] at hb
  have hr' : ∀ y ∈ B, y.length + (s.length + 1) ≤ 1000 := fun y hy => by have := hr y hy; rwa [List.length_cons] at this
  have e2 : p ++ x :: s = (p ++ [x]) ++ s := by simp
  have hlen := blkOne_len (i := p.length) h1
  simp only [topK] at ht
  have htop := topK_ge s (max B.length (x.toNat + 1))
  have := ih (p ++ [x]) (blkOne B x p.length) (B.length + r - max B.length (x.toNat + 1)) n (i + 1) (by rw [hlen]; exact h2) (by rw [hlen]; omega) (by rw [← e2]; exact hn) (by simp; omega) (by rw [← e2]; exact hl) (by rw [hlen]; omega)
   (fun y hy => by
    have := blkOne_row (n := 1000 - s.length) (by omega) (fun u hu => by have := hr' u hu; omega) y hy
    omega)
  rw [← e2] at this
  have ep : (p ++ [x]).length = p.length + 1 := by simp
  rw [ep, ← blkOne_room h1 (by omega)] at this
  have hrow : ((B ++ List.replicate r []).getD x.toNat ([] : List Int)).length ≤ 1000 := by
   by_cases c : x.toNat < (B ++ List.replicate r ([] : List Int)).length
   ·rw [getD_at c]
    rcases List.mem_append.1 (List.getElem_mem c) with hm | hm
    ·have := hr' _ hm; omega
    ·rw [(List.mem_replicate.1 hm).2]; simp
   ·rw [getD_out (by omega)]; simp
  have er : rd_L2 (B ++ List.replicate r []) x = (B ++ List.replicate r []).getD x.toNat [] := rfl
  refine Ev.succ ?_
  simp only [spec_spBlocks.l0]
  simp only [if_pos (show i < n by omega), if_pos (show 0 ≤ i by omega), if_pos (show i < (((p ++ x :: s).length : Nat) : Int) by omega), rd_mid hi, show wrap64 (i + 1) = i + 1 from w64 (by omega), if_pos h1.1,
   if_pos (show x < (((B ++ List.replicate r ([] : List Int)).length : Nat) : Int) by simp; omega), er, spec_l1Own_eq _ (Nat.le_trans hrow (by omega)), obind, if_pos (show ((B ++ List.replicate r []).getD x.toNat ([] : List Int)).length < 17592186044416 by omega)]
  rw [hi] at this ⊢
  exact this
theorem spec_spBlocks_ev (l : List Int) (h : isG l = true) : Ev (fun k => spec_spBlocks.f k l) (blk l) := by
 obtain ⟨h1, h2, h3⟩ := isG_true h
 have ht := topK_fold l 0 h1
 have hle := topK_le l 0 h1
 unfold spec_spBlocks.f
 refine Ev.bind (spec_spTop_ev l (by omega)) ?_
 have e : wrap64 (l.foldl max (-1) + 1) = (topK 0 l : Int) := by
  have : l.foldl max (-1) = (topK 0 l : Int) - 1 := ht
  rw [this, w64 (by omega)]; omega
 simp only [e, Int.toNat_natCast, if_pos (show (0 : Int) ≤ (topK 0 l : Int) by omega), if_pos (show topK 0 l ≤ 11728124029610 by omega)]
 have := spec_spBlocks_loop l [] [] (topK 0 l) (l.length : Int) 0 h1 (by simp) (by simp) (by simp) (by simp; omega) (by simp; omega) (fun y hy => by cases hy)
 rw [List.nil_append, List.nil_append] at this
 exact this
theorem blk_len {l : List Int} (h : isG l = true) : (blk l).length ≤ 12 ∧ ∀ x ∈ blk l, x.length ≤ 12 := by
 obtain ⟨h1, h2, h3⟩ := isG_true h
 refine ⟨?_, fun x hx => blkF_row l 0 [] 12 (fun y hy => by cases hy) (by omega) x hx⟩
 have := blkF_len l 0 [] h1
 have hle := topK_le l 0 h1
 have e : (blk l).length = topK 0 l := this
 omega

theorem spec_spGrowth_loop (l : List Int) (s : List Int) : ∀ (p : List Int) (m n i : Int), -1 ≤ m → m + 1 ≤ p.length → n = ((p ++ s).length : Int) → i = (p.length : Int) → (p ++ s).length ≤ 1099511627776 →
  Ev (fun k => spec_spGrowth.l0 k l m (p ++ s) n i) (growW m s && inB l.length 1 12) := by
 induction s with
 | nil =>
  intro p m n i hm hm' hn hi hl
  refine Ev.to (Ev.done fun k => ?_) (show inB l.length 1 12 = _ by unfold growW; simp)
  simp only [spec_spGrowth.l0]
  rw [if_neg (by rw [len_nil] at hn; omega), spec_l1In_eq]
  rfl
 | cons x s ih =>
  intro p m n i hm hm' hn hi hl
  have h1 := len_mid p s x
  unfold growW
  cases hb : inB x 0 (m + 1) with
  | false =>
   refine Ev.to (Ev.done fun k => ?_) (show false = _ by simp)
   simp only [spec_spGrowth.l0]
   rw [if_pos (by omega), if_pos (by omega), if_pos (by omega), rd_mid hi, w64 (n := m + 1) (by omega), spec_l1In_eq, hb]
   rfl
  | true =>
   have hx := inB_true.1 hb
   have := ih (p ++ [x]) (max m x) n (i + 1) (by omega) (by rw [len_snoc]; omega) (by rw [← snoc_mid]; exact hn) (by rw [len_snoc]; omega) (by rw [← snoc_mid]; exact hl)
   rw [← snoc_mid] at this
   refine Ev.to (Ev.step' this fun k => ?_) (by simp)
   simp only [spec_spGrowth.l0]
   rw [if_pos (by omega), if_pos (by omega), if_pos (by omega), rd_mid hi, w64 (n := m + 1) (by omega), spec_l1In_eq, hb]
   simp only [obind, if_true, spec_l1Most_eq, obind]
   rw [w64 (n := i + 1) (by omega)]
theorem spec_spGrowth_ev (l : List Int) (hl : l.length ≤ 1099511627776) : Ev (fun k => spec_spGrowth.f k l) (isG l) :=
 spec_spGrowth_loop l l [] (-1) _ 0 (by omega) (by simp) rfl (by simp) (by simpa using hl)

theorem impl_IsGrowth_loop (l : List Int) (s : List Int) : ∀ (p : List Int) (m n i : Int), -1 ≤ m → m + 1 ≤ p.length → n = ((p ++ s).length : Int) → i = (p.length : Int) → (p ++ s).length ≤ 1099511627776 →
  Ev (fun k => impl_IsGrowth.l0 k l m (p ++ s) n i) (growW m s && inB l.length 1 12) := by
 induction s with
 | nil =>
  intro p m n i hm hm' hn hi hl
  refine Ev.to (Ev.done fun k => ?_) (show inB l.length 1 12 = _ by unfold growW; simp)
  simp only [impl_IsGrowth.l0]
  rw [if_neg (by rw [len_nil] at hn; omega), impl_within_eq]
  rfl
 | cons x s ih =>
  intro p m n i hm hm' hn hi hl
  have h1 := len_mid p s x
  unfold growW
  cases hb : inB x 0 (m + 1) with
  | false =>
   refine Ev.to (Ev.done fun k => ?_) (show false = _ by simp)
   simp only [impl_IsGrowth.l0]
   rw [if_pos (by omega), if_pos (by omega), if_pos (by omega), rd_mid hi, w64 (n := m + 1) (by omega), impl_within_eq, hb]
   rfl
  | true =>
   have hx := inB_true.1 hb
   have := ih (p ++ [x]) (max m x) n (i + 1) (by omega) (by rw [len_snoc]; omega) (by rw [← snoc_mid]; exact hn) (by rw [len_snoc]; omega) (by rw [← snoc_mid]; exact hl)
   rw [← snoc_mid] at this
   refine Ev.to (Ev.step' this fun k => ?_) (by simp)
   simp only [impl_IsGrowth.l0]
   rw [if_pos (by omega), if_pos (by omega), if_pos (by omega), rd_mid hi, w64 (n := m + 1) (by omega), impl_within_eq, hb]
   simp only [obind, if_true, mx_max]
   rw [w64 (n := i + 1) (by omega)]
theorem impl_IsGrowth_ev (l : List Int) (hl : l.length ≤ 1099511627776) : Ev (fun k => impl_IsGrowth.f k l) (isG l) :=
 impl_IsGrowth_loop l l [] (-1) _ 0 (by omega) (by simp) rfl (by simp) (by simpa using hl)

theorem spec_BlocksOf_ev (l : List Int) (hl : l.length ≤ 1099511627776) : Ev (fun k => spec_BlocksOf.f k l) (if isG l = true then (blk l, true) else ([], false)) := by
 unfold spec_BlocksOf.f
 refine Ev.bind (spec_spGrowth_ev l hl) ?_
 split
 ·rename_i h
  exact Ev.bind (spec_spBlocks_ev l h) (Ev.now _)
 ·exact Ev.now _
theorem impl_BlocksOf_ev (l : List Int) (hl : l.length ≤ 1099511627776) : Ev (fun k => impl_BlocksOf.f k l) (if isG l = true then (blk l, true) else ([], false)) := by
 unfold impl_BlocksOf.f
 refine Ev.bind (impl_IsGrowth_ev l hl) ?_
 split
 ·rename_i h
  exact Ev.bind (impl_blocks_ev l h) (Ev.now _)
 ·exact Ev.now _

theorem spec_l1Has_loop (y : Int) (s : List Int) : ∀ (p : List Int) (n i : Int), n = ((p ++ s).length : Int) → i = (p.length : Int) → (p ++ s).length ≤ 1099511627776 →
  Ev (fun k => spec_l1Has.l0 k y (p ++ s) n i) (hasV y s) := by
 induction s with
 | nil =>
  intro p n i hn hi hl
  refine Ev.to (Ev.done fun k => ?_) (show false = _ by simp [hasV])
  simp only [spec_l1Has.l0]
  rw [if_neg (by rw [len_nil] at hn; omega)]
 | cons x s ih =>
  intro p n i hn hi hl
  have h1 := len_mid p s x
  have := ih (p ++ [x]) n (i + 1) (by rw [← snoc_mid]; exact hn) (by rw [len_snoc]; omega) (by rw [← snoc_mid]; exact hl)
  rw [← snoc_mid] at this
  by_cases c : x = y
  ·refine Ev.to (Ev.done fun k => ?_) (show true = _ by simp [hasV, c])
   simp only [spec_l1Has.l0]
   rw [if_pos (by omega), if_pos (by omega), if_pos (by omega), rd_mid hi, if_pos c]
  ·refine Ev.to (Ev.step' this fun k => ?_) (by simp [hasV, c])
   simp only [spec_l1Has.l0]
   rw [if_pos (by omega), if_pos (by omega), if_pos (by omega), rd_mid hi, if_neg c, w64 (by omega)]
theorem spec_l1Has_ev (l : List Int) (y : Int) (hl : l.length ≤ 1099511627776) : Ev (fun k => spec_l1Has.f k l y) (hasV y l) :=
 spec_l1Has_loop y l [] _ 0 rfl (by simp) (by simpa using hl)

theorem spec_spCrosses_l2 (a : List Int) (ha : a.length ≤ 1099511627776) (j i : Nat) (hi : i < a.length) (hj : j < a.length) (R : Bool)
  (hR : Ev (fun f => spec_spCrosses.l1 f a (i : Int) (wrap64 ((j : Int) + 1)) (a.length : Int) (i : Int)) R) (s : List Int) : ∀ p : List Int, p ++ s = a →
  Ev (fun f => spec_spCrosses.l2 f a (i : Int) (j : Int) (p.length : Int) (a.length : Int) (i : Int)) (crK (rd a (i : Int)) (rd a (j : Int)) s || R) := by
 induction s with
 | nil =>
  intro p hp
  have hl : a.length = p.length := by rw [← hp]; simp
  refine Ev.succ ?_
  simp only [spec_spCrosses.l2]
  simp only [if_neg (show ¬ (p.length : Int) < (a.length : Int) by omega)]
  refine Ev.to hR ?_
  simp [crK]
 | cons z s ih =>
  intro p hp
  have hl : a.length = p.length + s.length + 1 := by rw [← hp]; simp; omega
  have e0 : rd a (p.length : Int) = z := by rw [← hp]; exact rd_mid rfl
  have e1 : wrap64 ((p.length : Int) + 1) = ((p ++ [z]).length : Int) := by rw [w64 (by omega), len_snoc]
  have hp' : (p ++ [z]) ++ s = a := by rw [← snoc_mid]; exact hp
  have h2 := ih (p ++ [z]) hp'
  have e2 : a.drop (((p ++ [z]).length : Nat) : Int).toNat = s := by rw [← hp']; simp
  refine Ev.succ ?_
  simp only [spec_spCrosses.l2]
  simp only [if_pos (show (p.length : Int) < (a.length : Int) by omega), if_pos (show 0 ≤ (i : Int) by omega), if_pos (show (i : Int) < (a.length : Int) by omega), if_pos (show 0 ≤ (j : Int) by omega), if_pos (show (j : Int) < (a.length : Int) by omega), if_pos (show 0 ≤ (p.length : Int) by omega), e0, e1]
  by_cases c1 : rd a (i : Int) = z
  ·simp only [if_pos c1]
   by_cases c2 : rd a (j : Int) = rd a (i : Int)
   ·simp only [if_pos c2]
    refine Ev.to h2 ?_
    simp [crK, c2]
   ·have hle := len_snoc p z
    simp only [if_neg c2, if_pos (show 0 ≤ ((p ++ [z]).length : Int) by omega), if_pos (show ((p ++ [z]).length : Int) ≤ (a.length : Int) by omega), e2]
    refine Ev.bind (spec_l1Has_ev s _ (by omega)) ?_
    cases hh : hasV (rd a (j : Int)) s with
    | true =>
     simp only [if_true]
     refine Ev.some_ ?_
     rw [crK, decide_eq_true c1, decide_eq_false (fun e => c2 e.symm), hh]
     rfl
    | false =>
     simp only [Bool.false_eq_true, if_false]
     refine Ev.to h2 ?_
     simp [crK, hh]
  ·simp only [if_neg c1]
   refine Ev.to h2 ?_
   simp [crK, c1]
theorem spec_spCrosses_l1 (a : List Int) (ha : a.length ≤ 1099511627776) (i : Nat) (hi : i < a.length) (R : Bool)
  (hR : Ev (fun f => spec_spCrosses.l0 f a (a.length : Int) (wrap64 ((i : Int) + 1))) R) (s : List Int) : ∀ p : List Int, p ++ s = a →
  Ev (fun f => spec_spCrosses.l1 f a (i : Int) (p.length : Int) (a.length : Int) (i : Int)) (crJ (rd a (i : Int)) s || R) := by
 induction s with
 | nil =>
  intro p hp
  have hl : a.length = p.length := by rw [← hp]; simp
  refine Ev.succ ?_
  simp only [spec_spCrosses.l1]
  simp only [if_neg (show ¬ (p.length : Int) < (a.length : Int) by omega)]
  refine Ev.to hR ?_
  simp [crJ]
 | cons y s ih =>
  intro p hp
  have hl : a.length = p.length + s.length + 1 := by rw [← hp]; simp; omega
  have e0 : rd a (p.length : Int) = y := by rw [← hp]; exact rd_mid rfl
  have e1 : wrap64 ((p.length : Int) + 1) = ((p ++ [y]).length : Int) := by rw [w64 (by omega), len_snoc]
  have hp' : (p ++ [y]) ++ s = a := by rw [← snoc_mid]; exact hp
  have h2 := ih (p ++ [y]) hp'
  rw [← e1] at h2
  have h3 := spec_spCrosses_l2 a ha p.length i hi (by omega) _ h2 s (p ++ [y]) hp'
  refine Ev.succ ?_
  simp only [spec_spCrosses.l1]
  simp only [if_pos (show (p.length : Int) < (a.length : Int) by omega), e1]
  refine Ev.to h3 ?_
  rw [e0]
  simp only [crJ]
  rw [Bool.or_assoc]
theorem spec_spCrosses_l0 (a : List Int) (ha : a.length ≤ 1099511627776) (s : List Int) : ∀ p : List Int, p ++ s = a →
  Ev (fun f => spec_spCrosses.l0 f a (a.length : Int) (p.length : Int)) (crI s) := by
 induction s with
 | nil =>
  intro p hp
  have hl : a.length = p.length := by rw [← hp]; simp
  refine Ev.succ ?_
  simp only [spec_spCrosses.l0]
  simp only [if_neg (show ¬ (p.length : Int) < (a.length : Int) by omega)]
  exact Ev.now _
 | cons x s ih =>
  intro p hp
  have hl : a.length = p.length + s.length + 1 := by rw [← hp]; simp; omega
  have e0 : rd a (p.length : Int) = x := by rw [← hp]; exact rd_mid rfl
  have e1 : wrap64 ((p.length : Int) + 1) = ((p ++ [x]).length : Int) := by rw [w64 (by omega), len_snoc]
  have hp' : (p ++ [x]) ++ s = a := by rw [← snoc_mid]; exact hp
  have h2 := ih (p ++ [x]) hp'
  rw [← e1] at h2
  have h3 := spec_spCrosses_l1 a ha p.length (by omega) _ h2 s (p ++ [x]) hp'
  rw [e0] at h3
  refine Ev.succ ?_
  simp only [spec_spCrosses.l0]
  simp only [if_pos (show (p.length : Int) < (a.length : Int) by omega), e1]
  exact Ev.to h3 (by simp only [crI])
theorem spec_spCrosses_ev (a : List Int) (ha : a.length ≤ 1099511627776) : Ev (fun f => spec_spCrosses.f f a) (crI a) :=
 spec_spCrosses_l0 a ha a [] rfl

theorem impl_crosses_l3 (a : List Int) (ha : a.length ≤ 1099511627776) (x : Int) (j k i : Nat) (hj : j < a.length) (hk : k < a.length) (R : Bool)
  (hR : Ev (fun f => impl_crosses.l2 f a x (j : Int) (wrap64 ((k : Int) + 1)) a (a.length : Int) (i : Int)) R) (t : List Int) : ∀ q : List Int, q ++ t = a →
  Ev (fun f => impl_crosses.l3 f a x (j : Int) (k : Int) (q.length : Int) a (a.length : Int) (i : Int)) (((decide (x = rd a (k : Int)) && !decide (x = rd a (j : Int))) && hasV (rd a (j : Int)) t) || R) := by
 induction t with
 | nil =>
  intro q hq
  have hl : a.length = q.length := by rw [← hq]; simp
  refine Ev.succ ?_
  simp only [impl_crosses.l3]
  simp only [if_neg (show ¬ (q.length : Int) < (a.length : Int) by omega)]
  refine Ev.to hR ?_
  simp [hasV]
 | cons u t ih =>
  intro q hq
  have hl : a.length = q.length + t.length + 1 := by rw [← hq]; simp; omega
  have e0 : rd a (q.length : Int) = u := by rw [← hq]; exact rd_mid rfl
  have e1 : wrap64 ((q.length : Int) + 1) = ((q ++ [u]).length : Int) := by rw [w64 (by omega), len_snoc]
  have := ih (q ++ [u]) (by rw [← snoc_mid]; exact hq)
  refine Ev.succ ?_
  simp only [impl_crosses.l3]
  simp only [if_pos (show (q.length : Int) < (a.length : Int) by omega), if_pos (show 0 ≤ (k : Int) by omega), if_pos (show (k : Int) < (a.length : Int) by omega), if_pos (show 0 ≤ (j : Int) by omega), if_pos (show (j : Int) < (a.length : Int) by omega), if_pos (show 0 ≤ (q.length : Int) by omega), e0, e1]
  by_cases c1 : x = rd a (k : Int)
  ·simp only [if_pos c1]
   by_cases c2 : rd a (j : Int) = u
   ·simp only [if_pos c2]
    by_cases c3 : x = rd a (j : Int)
    ·simp only [if_pos c3]
     refine Ev.to this ?_
     simp [c3]
    ·simp only [if_neg c3]
     refine Ev.some_ ?_
     rw [decide_eq_true c1, decide_eq_false c3]
     simp [hasV, c2]
   ·simp only [if_neg c2]
    refine Ev.to this ?_
    simp [hasV, Ne.symm c2]
  ·simp only [if_neg c1]
   refine Ev.to this ?_
   simp [c1]
theorem impl_crosses_l2 (a : List Int) (ha : a.length ≤ 1099511627776) (x : Int) (j i : Nat) (hj : j < a.length) (R : Bool)
  (hR : Ev (fun f => impl_crosses.l1 f a x (wrap64 ((j : Int) + 1)) a (a.length : Int) (i : Int)) R) (s : List Int) : ∀ p : List Int, p ++ s = a →
  Ev (fun f => impl_crosses.l2 f a x (j : Int) (p.length : Int) a (a.length : Int) (i : Int)) (crK x (rd a (j : Int)) s || R) := by
 induction s with
 | nil =>
  intro p hp
  have hl : a.length = p.length := by rw [← hp]; simp
  refine Ev.succ ?_
  simp only [impl_crosses.l2]
  simp only [if_neg (show ¬ (p.length : Int) < (a.length : Int) by omega)]
  refine Ev.to hR ?_
  simp [crK]
 | cons z s ih =>
  intro p hp
  have hl : a.length = p.length + s.length + 1 := by rw [← hp]; simp; omega
  have e0 : rd a (p.length : Int) = z := by rw [← hp]; exact rd_mid rfl
  have e1 : wrap64 ((p.length : Int) + 1) = ((p ++ [z]).length : Int) := by rw [w64 (by omega), len_snoc]
  have hp' : (p ++ [z]) ++ s = a := by rw [← snoc_mid]; exact hp
  have h2 := ih (p ++ [z]) hp'
  rw [← e1] at h2
  have h3 := impl_crosses_l3 a ha x j p.length i hj (by omega) _ h2 s (p ++ [z]) hp'
  refine Ev.succ ?_
  simp only [impl_crosses.l2]
  simp only [if_pos (show (p.length : Int) < (a.length : Int) by omega), e1]
  refine Ev.to h3 ?_
  rw [e0]
  simp only [crK]
  rw [Bool.or_assoc]
theorem impl_crosses_l1 (a : List Int) (ha : a.length ≤ 1099511627776) (x : Int) (i : Nat) (R : Bool)
  (hR : Ev (fun f => impl_crosses.l0 f a a (a.length : Int) (wrap64 ((i : Int) + 1))) R) (s : List Int) : ∀ p : List Int, p ++ s = a →
  Ev (fun f => impl_crosses.l1 f a x (p.length : Int) a (a.length : Int) (i : Int)) (crJ x s || R) := by
 induction s with
 | nil =>
  intro p hp
  have hl : a.length = p.length := by rw [← hp]; simp
  refine Ev.succ ?_
  simp only [impl_crosses.l1]
  simp only [if_neg (show ¬ (p.length : Int) < (a.length : Int) by omega)]
  refine Ev.to hR ?_
  simp [crJ]
 | cons y s ih =>
  intro p hp
  have hl : a.length = p.length + s.length + 1 := by rw [← hp]; simp; omega
  have e0 : rd a (p.length : Int) = y := by rw [← hp]; exact rd_mid rfl
  have e1 : wrap64 ((p.length : Int) + 1) = ((p ++ [y]).length : Int) := by rw [w64 (by omega), len_snoc]
  have hp' : (p ++ [y]) ++ s = a := by rw [← snoc_mid]; exact hp
  have h2 := ih (p ++ [y]) hp'
  rw [← e1] at h2
  have h3 := impl_crosses_l2 a ha x p.length i (by omega) _ h2 s (p ++ [y]) hp'
  refine Ev.succ ?_
  simp only [impl_crosses.l1]
  simp only [if_pos (show (p.length : Int) < (a.length : Int) by omega), e1]
  refine Ev.to h3 ?_
  rw [e0]
  simp only [crJ]
  rw [Bool.or_assoc]
theorem impl_crosses_l0 (a : List Int) (ha : a.length ≤ 1099511627776) (s : List Int) : ∀ p : List Int, p ++ s = a →
  Ev (fun f => impl_crosses.l0 f a a (a.length : Int) (p.length : Int)) (crI s) := by
 induction s with
 | nil =>
  intro p hp
  have hl : a.length = p.length := by rw [← hp]; simp
  refine Ev.succ ?_
  simp only [impl_crosses.l0]
  simp only [if_neg (show ¬ (p.length : Int) < (a.length : Int) by omega)]
  exact Ev.now _
 | cons x s ih =>
  intro p hp
  have hl : a.length = p.length + s.length + 1 := by rw [← hp]; simp; omega
  have e0 : rd a (p.length : Int) = x := by rw [← hp]; exact rd_mid rfl
  have e1 : wrap64 ((p.length : Int) + 1) = ((p ++ [x]).length : Int) := by rw [w64 (by omega), len_snoc]
  have hp' : (p ++ [x]) ++ s = a := by rw [← snoc_mid]; exact hp
  have h2 := ih (p ++ [x]) hp'
  rw [← e1] at h2
  have h3 := impl_crosses_l1 a ha x p.length _ h2 s (p ++ [x]) hp'
  refine Ev.succ ?_
  simp only [impl_crosses.l0]
  simp only [if_pos (show (p.length : Int) < (a.length : Int) by omega), if_pos (show 0 ≤ (p.length : Int) by omega), e0, e1]
  exact Ev.to h3 (by simp only [crI])
theorem impl_crosses_ev (a : List Int) (ha : a.length ≤ 1099511627776) : Ev (fun f => impl_crosses.f f a) (crI a) :=
 impl_crosses_l0 a ha a [] rfl

theorem spec_spWord_l1 (a : List Int) (B : List (List Int)) (n i : Int) (hi : wrap64 (i + 1) = i + 1) (R : List Int) (len : Nat) (hlen : len ≤ 1000) (d : Nat) : ∀ (z : Nat) (out : List Int), z + d = len → out.length + d ≤ 100000 →
  Ev (fun k => spec_spWord.l0 k (out ++ List.replicate d 1 ++ [0]) B a n (i + 1)) R → Ev (fun k => spec_spWord.l1 k out B a n i (len : Int) (z : Int)) R := by
 induction d with
 | zero =>
  intro z out hz ho h
  refine Ev.succ ?_
  simp only [spec_spWord.l1]
  simp only [if_neg (show ¬ (z : Int) < (len : Int) by omega), if_pos (show out.length < 17592186044416 by omega), hi]
  simpa using h
 | succ d ih =>
  intro z out hz ho h
  refine Ev.succ ?_
  simp only [spec_spWord.l1]
  simp only [if_pos (show (z : Int) < (len : Int) by omega), if_pos (show out.length < 17592186044416 by omega), i_up (show z ≤ 1099511627776 by omega)]
  refine ih (z + 1) (out ++ [1]) (by omega) (by simp; omega) ?_
  have e : out ++ [1] ++ List.replicate d 1 = out ++ List.replicate (d + 1) 1 := by rw [List.replicate_succ]; simp
  rw [e]; exact h
theorem spec_spWord_loop (B : List (List Int)) (s : List Int) : ∀ (p out : List Int) (n i : Int), blkFor B s → n = ((p ++ s).length : Int) → i = (p.length : Int) → (p ++ s).length ≤ 1000 → out.length + 13 * s.length ≤ 50000 →
  Ev (fun k => spec_spWord.l0 k out B (p ++ s) n i) (out ++ wogF B p.length s) := by
 induction s with
 | nil =>
  intro p out n i hb hn hi hl ho
  refine Ev.to (Ev.done fun k => ?_) (show out = _ by simp [wogF])
  simp only [spec_spWord.l0]
  rw [if_neg (by rw [List.append_nil] at hn; omega)]
 | cons x s ih =>
  intro p out n i hb hn hi hl ho
  obtain ⟨b1, b2, b3, b4⟩ := hb x (List.mem_cons_self ..)
  have hp : (((p ++ x :: s).length : Nat) : Int) = p.length + s.length + 1 := by simp; omega
  have e2 : p ++ x :: s = (p ++ [x]) ++ s := by simp
  have ho' : out.length + 13 * s.length + 13 ≤ 50000 := by rw [List.length_cons] at ho; omega
  have hrec : ∀ out' : List Int, out'.length ≤ out.length + 12 → Ev (fun k => spec_spWord.l0 k (out' ++ [0]) B (p ++ x :: s) n (i + 1)) (out' ++ 0 :: wogF B (p.length + 1) s) := by
   intro out' h'
   have := ih (p ++ [x]) (out' ++ [0]) n (i + 1) (fun y hy => hb y (List.mem_cons_of_mem _ hy)) (by rw [← e2]; exact hn) (by simp; omega) (by rw [← e2]; exact hl) (by simp; omega)
   rw [← e2] at this
   refine Ev.to this ?_
   have ep : (p ++ [x]).length = p.length + 1 := by simp
   rw [ep]; simp
  have hw : wrap64 (i + 1) = i + 1 := w64 (by omega)
  have er : rd_L2 B x = B.getD x.toNat [] := rfl
  refine Ev.succ ?_
  simp only [spec_spWord.l0]
  simp only [if_pos (show i < n by omega), if_pos (show 0 ≤ i by omega), if_pos (show i < (((p ++ x :: s).length : Nat) : Int) by omega), rd_mid hi, if_pos b1, if_pos b2, er, if_pos (show 0 < (((B.getD x.toNat []).length : Nat) : Int) by omega)]
  by_cases c : rd (B.getD x.toNat []) 0 = i
  ·simp only [if_pos c]
   refine spec_spWord_l1 (p ++ x :: s) B n i hw _ (B.getD x.toNat []).length (by omega) (B.getD x.toNat []).length 0 out (by omega) (by omega) ?_
   refine Ev.to (hrec (out ++ List.replicate (B.getD x.toNat []).length 1) (by rw [List.length_append, List.length_replicate]; omega)) ?_
   rw [wogF, if_pos (by rw [c, hi])]; simp
  ·simp only [if_neg c, if_pos (show out.length < 17592186044416 by omega), hw]
   refine Ev.to (hrec out (by omega)) ?_
   rw [wogF, if_neg (by rw [← hi]; exact c)]; simp
theorem impl_WordOfGrowth_l1 (a : List Int) (B : List (List Int)) (n i : Int) (hi : wrap64 (i + 1) = i + 1) (R : List Int × Bool) (len : Nat) (hlen : len ≤ 1000) (d : Nat) : ∀ (z : Nat) (out : List Int), z + d = len → out.length + d ≤ 100000 →
  Ev (fun k => impl_WordOfGrowth.l0 k (out ++ List.replicate d 1 ++ [0]) B a n (i + 1)) R → Ev (fun k => impl_WordOfGrowth.l1 k out B a n i (len : Int) (z : Int)) R := by
 induction d with
 | zero =>
  intro z out hz ho h
  refine Ev.succ ?_
  simp only [impl_WordOfGrowth.l1]
  simp only [if_neg (show ¬ (z : Int) < (len : Int) by omega), if_pos (show out.length < 17592186044416 by omega), hi]
  simpa using h
 | succ d ih =>
  intro z out hz ho h
  refine Ev.succ ?_
  simp only [impl_WordOfGrowth.l1]
  simp only [if_pos (show (z : Int) < (len : Int) by omega), if_pos (show out.length < 17592186044416 by omega), i_up (show z ≤ 1099511627776 by omega)]
  refine ih (z + 1) (out ++ [1]) (by omega) (by simp; omega) ?_
  have e : out ++ [1] ++ List.replicate d 1 = out ++ List.replicate (d + 1) 1 := by rw [List.replicate_succ]; simp
  rw [e]; exact h
theorem impl_WordOfGrowth_loop (B : List (List Int)) (s : List Int) : ∀ (p out : List Int) (n i : Int), blkFor B s → n = ((p ++ s).length : Int) → i = (p.length : Int) → (p ++ s).length ≤ 1000 → out.length + 13 * s.length ≤ 50000 →
  Ev (fun k => impl_WordOfGrowth.l0 k out B (p ++ s) n i) ((out ++ wogF B p.length s, true)) := by
 induction s with
 | nil =>
  intro p out n i hb hn hi hl ho
  refine Ev.to (Ev.done fun k => ?_) (show (out, true) = _ by simp [wogF])
  simp only [impl_WordOfGrowth.l0]
  rw [if_neg (by rw [List.append_nil] at hn; omega)]
 | cons x s ih =>
  intro p out n i hb hn hi hl ho
  obtain ⟨b1, b2, b3, b4⟩ := hb x (List.mem_cons_self ..)
  have hp : (((p ++ x :: s).length : Nat) : Int) = p.length + s.length + 1 := by simp; omega
  have e2 : p ++ x :: s = (p ++ [x]) ++ s := by simp
  have ho' : out.length + 13 * s.length + 13 ≤ 50000 := by rw [List.length_cons] at ho; omega
  have hrec : ∀ out' : List Int, out'.length ≤ out.length + 12 → Ev (fun k => impl_WordOfGrowth.l0 k (out' ++ [0]) B (p ++ x :: s) n (i + 1)) ((out' ++ 0 :: wogF B (p.length + 1) s, true)) := by
   intro out' h'
   have := ih (p ++ [x]) (out' ++ [0]) n (i + 1) (fun y hy => hb y (List.mem_cons_of_mem _ hy)) (by rw [← e2]; exact hn) (by simp; omega) (by rw [← e2]; exact hl) (by simp; omega)
   rw [← e2] at this
   refine Ev.to this ?_
   have ep : (p ++ [x]).length = p.length + 1 := by simp
   rw [ep]; simp
  have hw : wrap64 (i + 1) = i + 1 := w64 (by omega)
  have er : rd_L2 B x = B.getD x.toNat [] := rfl
  refine Ev.succ ?_
  simp only [impl_WordOfGrowth.l0]
  simp only [if_pos (show i < n by omega), if_pos (show 0 ≤ i by omega), if_pos (show i < (((p ++ x :: s).length : Nat) : Int) by omega), rd_mid hi, if_pos b1, if_pos b2, er, if_pos (show 0 < (((B.getD x.toNat []).length : Nat) : Int) by omega)]
  by_cases c : rd (B.getD x.toNat []) 0 = i
  ·simp only [if_pos c]
   refine impl_WordOfGrowth_l1 (p ++ x :: s) B n i hw _ (B.getD x.toNat []).length (by omega) (B.getD x.toNat []).length 0 out (by omega) (by omega) ?_
   refine Ev.to (hrec (out ++ List.replicate (B.getD x.toNat []).length 1) (by rw [List.length_append, List.length_replicate]; omega)) ?_
   rw [wogF, if_pos (by rw [c, hi])]; simp
  ·simp only [if_neg c, if_pos (show out.length < 17592186044416 by omega), hw]
   refine Ev.to (hrec out (by omega)) ?_
   rw [wogF, if_neg (by rw [← hi]; exact c)]; simp
/-- What WordOfGrowth answers. -/
def wogR (l : List Int) : List Int × Bool := if isG l = true then (if crI l = true then ([], false) else (wogW l, true)) else ([], false)
theorem wogR_len (l : List Int) : (wogR l).1.length ≤ 200 := by
 unfold wogR
 split
 ·rename_i h
  obtain ⟨h1, h2, h3⟩ := isG_true h
  split
  ·simp
  ·exact Nat.le_trans (wogF_len (blk l) l 0 (blk_for h)) (by omega)
 ·simp
theorem spec_WordOfGrowth_ev (l : List Int) (hl : l.length ≤ 1099511627776) : Ev (fun k => spec_WordOfGrowth.f k l) (wogR l) := by
 unfold spec_WordOfGrowth.f wogR
 refine Ev.bind (spec_spGrowth_ev l hl) ?_
 by_cases h : isG l = true
 ·obtain ⟨h1, h2, h3⟩ := isG_true h
  simp only [if_pos h]
  refine Ev.bind (spec_spCrosses_ev l (by omega)) ?_
  by_cases c : crI l = true
  ·simp only [if_pos c]; exact Ev.now _
  ·simp only [if_neg c]
   refine Ev.bind ?_ (Ev.now _)
   unfold spec_spWord.f
   refine Ev.bind (spec_spBlocks_ev l h) ?_
   exact spec_spWord_loop (blk l) l [] [] _ 0 (blk_for h) (by simp) (by simp) (by simp; omega) (by simp; omega)
 ·simp only [if_neg h]; exact Ev.now _
theorem impl_WordOfGrowth_ev (l : List Int) (hl : l.length ≤ 1099511627776) : Ev (fun k => impl_WordOfGrowth.f k l) (wogR l) := by
 unfold impl_WordOfGrowth.f wogR
 refine Ev.bind (impl_IsGrowth_ev l hl) ?_
 by_cases h : isG l = true
 ·obtain ⟨h1, h2, h3⟩ := isG_true h
  simp only [if_pos h]
  refine Ev.bind (impl_crosses_ev l (by omega)) ?_
  refine Ev.succ ?_
  simp only [impl_WordOfGrowth.j0]
  by_cases c : crI l = true
  ·simp only [if_pos c]; exact Ev.now _
  ·simp only [if_neg c]
   refine Ev.bind (impl_blocks_ev l h) ?_
   exact impl_WordOfGrowth_loop (blk l) l [] [] _ 0 (blk_for h) (by simp) (by simp) (by simp; omega) (by simp; omega)
 ·simp only [if_neg h]
  refine Ev.succ ?_
  simp only [impl_WordOfGrowth.j0, if_true]
  exact Ev.now _

theorem impl_HasCrossing_ev (l : List Int) (hl : l.length ≤ 1099511627776) : Ev (fun k => impl_HasCrossing.f k l) (if isG l = true then (crI l, true) else (false, false)) := by
 unfold impl_HasCrossing.f
 refine Ev.bind (impl_IsGrowth_ev l hl) ?_
 split
 ·refine Ev.bind (impl_crosses_ev l hl) ?_
  exact Ev.now _
 ·exact Ev.now _

/-- How many numbers stand in the rows. -/
def sumLen : List (List Int) → Nat
 | [] => 0
 | x :: s => x.length + sumLen s
/-- The rows with the numbers m, m + 1, .. written over them. -/
def upRows (m : Nat) : List (List Int) → List (List Int)
 | [] => []
 | x :: s => upFrom (m : Int) x.length :: upRows (m + x.length) s
theorem upRows_len (L : List (List Int)) : ∀ m, (upRows m L).length = L.length := by
 induction L with
 | nil => intro m; rfl
 | cons x s ih => intro m; simp [upRows, ih]
/-- Rows of few numbers. -/
def rowsFew (L : List (List Int)) : Prop := L.length ≤ 1048576 ∧ ∀ x ∈ L, x.length ≤ 1000
theorem sumLen_le (L : List (List Int)) (h : ∀ x ∈ L, x.length ≤ 1000) : sumLen L ≤ L.length * 1000 := by
 induction L with
 | nil => simp [sumLen]
 | cons x s ih =>
  have h1 := h x (List.mem_cons_self ..)
  have h2 := ih fun y hy => h y (List.mem_cons_of_mem _ hy)
  simp only [sumLen, List.length_cons]; omega
theorem rowsFew_sum {L : List (List Int)} (h : rowsFew L) : 1 + sumLen L ≤ 1073741824 := by
 have h1 := sumLen_le L h.2
 have h2 := h.1
 omega

theorem len_sumLen {L : List (List Int)} {x : List Int} (h : x ∈ L) : x.length ≤ sumLen L := by
 induction L with
 | nil => cases h
 | cons y s ih =>
  have e : sumLen (y :: s) = y.length + sumLen s := rfl
  rcases List.mem_cons.1 h with rfl | h
  ·omega
  ·have := ih h; omega
/-- The numbers of one block get the block's number. -/
def fillR (n : Nat) (v : Int) : List Int → List Int → Option (List Int)
 | [], a => some a
 | i :: s, a => if inB i 0 ((n : Int) - 1) = true then fillR n v s (a.set i.toNat v) else none
/-- All blocks, from the one with number v on. -/
def fillB (n : Nat) : Int → List (List Int) → List Int → Option (List Int)
 | _, [], a => some a
 | v, r :: s, a => match fillR n v r a with
  | none => none
  | some a => fillB n (v + 1) s a
def finG (L : List (List Int)) (a : List Int) : List Int × Bool := if isG a = true ∧ blk a = L then (a, true) else ([], false)
def grwR (L : List (List Int)) : List Int × Bool :=
 if inB (sumLen L : Int) 1 12 = true then
  (match fillB (sumLen L) 0 L (List.replicate (sumLen L) 0) with
  | none => ([], false)
  | some a => finG L a)
 else ([], false)
theorem fillR_len (n : Nat) (v : Int) (s : List Int) : ∀ a b, fillR n v s a = some b → b.length = a.length := by
 induction s with
 | nil => intro a b h; simp only [fillR, Option.some.injEq] at h; rw [h]
 | cons i s ih =>
  intro a b h
  unfold fillR at h
  split at h
  ·rw [ih _ _ h, List.length_set]
  ·cases h
theorem fillB_len (n : Nat) (s : List (List Int)) : ∀ v a b, fillB n v s a = some b → b.length = a.length := by
 induction s with
 | nil => intro v a b h; simp only [fillB, Option.some.injEq] at h; rw [h]
 | cons r s ih =>
  intro v a b h
  unfold fillB at h
  split at h
  ·cases h
  ·rename_i c hc
   rw [ih _ _ _ h, fillR_len _ _ _ _ _ hc]
theorem grwR_few (L : List (List Int)) : (grwR L).1.length ≤ 12 := by
 unfold grwR
 by_cases h : inB (sumLen L : Int) 1 12 = true
 ·have hx := inB_true.1 h
  rw [if_pos h]
  split
  ·simp
  ·rename_i a ha
   unfold finG
   split
   ·have := fillB_len _ _ _ _ _ ha
    rw [List.length_replicate] at this
    show a.length ≤ 12
    omega
   ·simp
 ·rw [if_neg h]; simp

theorem slices_Equal_int_int_loop (s : List Int) : ∀ (p q t : List Int) (n i : Int), t.length = s.length → q.length = p.length → n = ((p ++ s).length : Int) → i = (p.length : Int) → (p ++ s).length ≤ 1000 →
  Ev (fun k => slices_Equal_int_int.l0 k (p ++ s) (q ++ t) n i) (decide (s = t)) := by
 induction s with
 | nil =>
  intro p q t n i ht hq hn hi hl
  have ht0 : t = [] := List.eq_nil_of_length_eq_zero ht
  subst ht0
  refine Ev.done fun k => ?_
  simp only [slices_Equal_int_int.l0]
  rw [if_neg (by rw [len_nil] at hn; omega)]
  simp
 | cons x s ih =>
  intro p q t n i ht hq hn hi hl
  cases t with
  | nil => simp at ht
  | cons y t =>
   have ht' : t.length = s.length := by simpa using ht
   have h1 := len_mid p s x
   have h2 := len_mid q t y
   by_cases hxy : x = y
   ·have := ih (p ++ [x]) (q ++ [y]) t n (i + 1) ht' (by simp [hq]) (by rw [← snoc_mid]; exact hn) (by rw [len_snoc]; omega) (by rw [← snoc_mid]; exact hl)
    rw [← snoc_mid, ← snoc_mid] at this
    refine Ev.to (Ev.step' this fun k => ?_) (by simp [hxy])
    simp only [slices_Equal_int_int.l0]
    rw [if_pos (by omega), if_pos (by omega), if_pos (by omega), if_pos (by omega), rd_mid hi, rd_mid (by omega), if_pos hxy, w64 (by omega)]
   ·refine Ev.to (Ev.done fun k => ?_) (show false = _ by simp [hxy])
    simp only [slices_Equal_int_int.l0]
    rw [if_pos (by omega), if_pos (by omega), if_pos (by omega), if_pos (by omega), rd_mid hi, rd_mid (by omega), if_neg hxy]
theorem slices_Equal_int_int_ev (l t : List Int) (hl : l.length ≤ 1000) : Ev (fun k => slices_Equal_int_int.f k l t) (decide (l = t)) := by
 by_cases h : l.length = t.length
 ·have := slices_Equal_int_int_loop l [] [] t _ 0 h.symm rfl rfl (by simp) (by simpa using hl)
  simp only [List.nil_append] at this
  refine Ev.congr (fun k => ?_) this
  unfold slices_Equal_int_int.f
  rw [if_pos (by omega)]
 ·refine Ev.to (Ev.congr (fun k => ?_) (Ev.now false)) (by rw [decide_eq_false]; exact fun e => h (by rw [e]))
  unfold slices_Equal_int_int.f
  rw [if_neg (by omega)]

theorem impl_EqualFunc_loop (s : List (List Int)) : ∀ (p q t : List (List Int)) (n i : Int), t.length = s.length → q.length = p.length → n = ((p ++ s).length : Int) → i = (p.length : Int) → (p ++ s).length ≤ 1048576 → (∀ x ∈ s, x.length ≤ 1000) →
  Ev (fun k => slices_EqualFunc_int_int_int_int.l0 k (q ++ t) (p ++ s) n i) (decide (s = t)) := by
 induction s with
 | nil =>
  intro p q t n i ht hq hn hi hl hs
  have ht0 : t = [] := List.eq_nil_of_length_eq_zero ht
  subst ht0
  refine Ev.done fun k => ?_
  simp only [slices_EqualFunc_int_int_int_int.l0]
  rw [if_neg (by rw [List.append_nil] at hn; omega)]
  simp
 | cons x s ih =>
  intro p q t n i ht hq hn hi hl hs
  cases t with
  | nil => simp at ht
  | cons y t =>
   have ht' : t.length = s.length := by simpa using ht
   have h1 : (((p ++ x :: s).length : Nat) : Int) = p.length + s.length + 1 := by simp; omega
   have h2 : (((q ++ y :: t).length : Nat) : Int) = q.length + t.length + 1 := by simp; omega
   have er : rd_L2 (p ++ x :: s) i = x := by subst hi; simp [rd_L2]
   have er2 : rd_L2 (q ++ y :: t) i = y := by subst hi; rw [← hq]; simp [rd_L2]
   have e2 : p ++ x :: s = (p ++ [x]) ++ s := by simp
   have e3 : q ++ y :: t = (q ++ [y]) ++ t := by simp
   have hx := hs x (List.mem_cons_self ..)
   refine Ev.succ ?_
   simp only [slices_EqualFunc_int_int_int_int.l0, if_pos (show i < n by omega), if_pos (show 0 ≤ i by omega), if_pos (show i < (((p ++ x :: s).length : Nat) : Int) by omega), if_pos (show i < (((q ++ y :: t).length : Nat) : Int) by omega), er, er2, show wrap64 (i + 1) = i + 1 from w64 (by omega)]
   refine Ev.bind (a := decide (x = y)) ?_ ?_
   ·unfold impl_GrowthOf_f1.f
    exact Ev.bind (slices_Equal_int_int_ev x y hx) (Ev.now _)
   ·by_cases hxy : x = y
    ·have := ih (p ++ [x]) (q ++ [y]) t n (i + 1) ht' (by simp [hq]) (by rw [← e2]; exact hn) (by simp; omega) (by rw [← e2]; exact hl) (fun u hu => hs u (List.mem_cons_of_mem _ hu))
     rw [← e2, ← e3] at this
     simp only [decide_eq_true hxy, if_true]
     exact Ev.to this (by simp [hxy])
    ·simp only [decide_eq_false hxy, Bool.false_eq_true, if_false]
     exact Ev.some_ (by simp [hxy])
theorem impl_EqualFunc_ev (l t : List (List Int)) (hl : l.length ≤ 1048576) (hs : ∀ x ∈ l, x.length ≤ 1000) : Ev (fun k => slices_EqualFunc_int_int_int_int.f k l t) (decide (l = t)) := by
 by_cases h : l.length = t.length
 ·have := impl_EqualFunc_loop l [] [] t _ 0 h.symm rfl rfl (by simp) (by simpa using hl) hs
  simp only [List.nil_append] at this
  refine Ev.congr (fun k => ?_) this
  unfold slices_EqualFunc_int_int_int_int.f
  rw [if_pos (by omega)]
 ·refine Ev.to (Ev.congr (fun k => ?_) (Ev.now false)) (by rw [decide_eq_false]; exact fun e => h (by rw [e]))
  unfold slices_EqualFunc_int_int_int_int.f
  rw [if_neg (by omega)]
theorem impl_GrowthOf_end (L : List (List Int)) (a : List Int) (ha : a.length ≤ 12) (hL : L.length ≤ 1048576) (hrows : ∀ x ∈ L, x.length ≤ 12) :
  Ev (fun k => (impl_IsGrowth.f k a).bind fun t => (if t = true then ((impl_blocks.f k a).bind fun u => ((slices_EqualFunc_int_int_int_int.f k u L).bind fun v => (if v = true then (some (a, true)) else (some (([] : List Int), false))))) else (some (([] : List Int), false)))) (finG L a) := by
 refine Ev.bind (impl_IsGrowth_ev a (by omega)) ?_
 unfold finG
 cases h : isG a with
 | false => simp only [Bool.false_eq_true, if_false, false_and]; exact Ev.now _
 | true =>
  obtain ⟨h1, h2⟩ := blk_len h
  simp only [if_true, true_and]
  refine Ev.bind (impl_blocks_ev a h) (Ev.bind (impl_EqualFunc_ev _ L (by omega) (fun x hx => Nat.le_trans (h2 x hx) (by omega))) ?_)
  by_cases hb : blk a = L
  ·simp only [decide_eq_true hb, if_true, if_pos hb]; exact Ev.now _
  ·simp only [decide_eq_false hb, Bool.false_eq_true, if_false, if_neg hb]; exact Ev.now _
theorem impl_GrowthOf_l2 (L : List (List Int)) (n : Nat) (hn : n ≤ 12) (v i0 : Int) (row : List Int) (hrow : row.length ≤ 12) (R : List Int → List Int × Bool)
  (hr : ∀ a, a.length = n → Ev (fun k => impl_GrowthOf.l1 k L (n : Int) a L (L.length : Int) (wrap64 (i0 + 1))) (R a)) (s : List Int) : ∀ (p a : List Int) (i : Int), row = p ++ s → i = (p.length : Int) → a.length = n →
  Ev (fun k => impl_GrowthOf.l2 k L (n : Int) a v L (L.length : Int) i0 row (row.length : Int) i) (match fillR n v s a with | none => ([], false) | some a' => R a') := by
 induction s with
 | nil =>
  intro p a i hp hi ha
  rw [List.append_nil] at hp
  refine Ev.succ ?_
  simp only [impl_GrowthOf.l2, if_neg (show ¬ i < (row.length : Int) by rw [hp]; omega), fillR]
  exact hr a ha
 | cons x s ih =>
  intro p a i hp hi ha
  have h1 : (row.length : Int) = p.length + s.length + 1 := by rw [hp]; simp; omega
  have er : rd row i = x := by rw [hp]; exact rd_mid hi
  have e2 : row = (p ++ [x]) ++ s := by rw [hp]; simp
  have ew : wrap64 ((n : Int) - 1) = (n : Int) - 1 := w64 (by omega)
  have ew2 : wrap64 (i + 1) = i + 1 := w64 (by omega)
  refine Ev.succ ?_
  simp only [impl_GrowthOf.l2, if_pos (show i < (row.length : Int) by omega), if_pos (show 0 ≤ i by omega), er, ew, ew2, impl_within_eq, obind, fillR]
  cases h : inB x 0 ((n : Int) - 1) with
  | false => simp only [Bool.false_eq_true, if_false]; exact Ev.now _
  | true =>
   have hx := inB_true.1 h
   simp only [if_true, if_pos hx.1, if_pos (show x < (a.length : Int) by omega)]
   exact ih (p ++ [x]) (a.set x.toNat v) (i + 1) e2 (by simp; omega) (by rw [List.length_set]; exact ha)
theorem impl_GrowthOf_l1 (L : List (List Int)) (n : Nat) (hn : n ≤ 12) (hL : L.length ≤ 1048576) (hrows : ∀ x ∈ L, x.length ≤ 12) (s : List (List Int)) : ∀ (p : List (List Int)) (a : List Int) (i : Int), L = p ++ s → i = (p.length : Int) → a.length = n →
  Ev (fun k => impl_GrowthOf.l1 k L (n : Int) a L (L.length : Int) i) (match fillB n i s a with | none => ([], false) | some a' => finG L a') := by
 induction s with
 | nil =>
  intro p a i hp hi ha
  rw [List.append_nil] at hp
  refine Ev.succ ?_
  simp only [impl_GrowthOf.l1, if_neg (show ¬ i < (L.length : Int) by rw [hp]; omega), fillB]
  exact impl_GrowthOf_end L a (by omega) hL hrows
 | cons x s ih =>
  intro p a i hp hi ha
  have h1 : (L.length : Int) = p.length + s.length + 1 := by rw [hp]; simp; omega
  have er : rd_L2 L i = x := by rw [hp]; subst hi; simp [rd_L2]
  have e2 : L = (p ++ [x]) ++ s := by rw [hp]; simp
  have ew2 : wrap64 (i + 1) = i + 1 := w64 (by omega)
  have hx : x ∈ L := by rw [hp]; simp
  have := impl_GrowthOf_l2 L n hn i i x (hrows x hx) (fun a => match fillB n (i + 1) s a with | none => ([], false) | some a' => finG L a')
   (fun a ha => by rw [ew2]; exact ih (p ++ [x]) a (i + 1) e2 (by simp; omega) ha) x [] a 0 rfl rfl ha
  refine Ev.succ ?_
  simp only [impl_GrowthOf.l1, if_pos (show i < (L.length : Int) by omega), if_pos (show 0 ≤ i by omega), er, fillB]
  refine Ev.to this ?_
  cases fillR n i x a <;> rfl
theorem impl_GrowthOf_l0 (L : List (List Int)) (hL : L.length + sumLen L ≤ 1048576) (s : List (List Int)) : ∀ (p : List (List Int)) (t : Nat) (i : Int), L = p ++ s → i = (p.length : Int) → t + sumLen s = sumLen L →
  Ev (fun k => impl_GrowthOf.l0 k L (t : Int) L (L.length : Int) i) (grwR L) := by
 induction s with
 | nil =>
  intro p t i hp hi ht
  rw [List.append_nil] at hp
  have ht : t = sumLen L := by simpa [sumLen] using ht
  subst ht
  refine Ev.succ ?_
  simp only [impl_GrowthOf.l0, if_neg (show ¬ i < (L.length : Int) by rw [hp]; omega), impl_within_eq, obind]
  unfold grwR
  cases h : inB (sumLen L : Int) 1 12 with
  | false => simp only [Bool.false_eq_true, if_false]; exact Ev.now _
  | true =>
   have hx := inB_true.1 h
   simp only [if_true, Int.toNat_natCast, if_pos (show (0 : Int) ≤ (sumLen L : Int) by omega), if_pos (show sumLen L ≤ 35184372088832 by omega)]
   exact impl_GrowthOf_l1 L (sumLen L) (by omega) (by omega) (fun x hx => by have := len_sumLen hx; omega) L [] _ 0 rfl rfl (by simp)
 | cons x s ih =>
  intro p t i hp hi ht
  have h1 : (L.length : Int) = p.length + s.length + 1 := by rw [hp]; simp; omega
  have er : rd_L2 L i = x := by rw [hp]; subst hi; simp [rd_L2]
  have e2 : L = (p ++ [x]) ++ s := by rw [hp]; simp
  have ew2 : wrap64 (i + 1) = i + 1 := w64 (by omega)
  have es : sumLen (x :: s) = x.length + sumLen s := rfl
  have ew : wrap64 ((t : Int) + (x.length : Int)) = ((t + x.length : Nat) : Int) := by rw [w64 (by omega)]; omega
  refine Ev.succ ?_
  simp only [impl_GrowthOf.l0, if_pos (show i < (L.length : Int) by omega), if_pos (show 0 ≤ i by omega), er, ew, ew2]
  exact ih (p ++ [x]) (t + x.length) (i + 1) e2 (by simp; omega) (by omega)
theorem impl_GrowthOf_ev (L : List (List Int)) (hL : L.length + sumLen L ≤ 1048576) : Ev (fun k => impl_GrowthOf.f k L) (grwR L) := by
 unfold impl_GrowthOf.f
 exact impl_GrowthOf_l0 L hL L [] 0 0 rfl rfl (by omega)

theorem law_cr_l3 (a : List Int) (ha : a.length ≤ 1099511627776) (x : Int) (j k i : Nat) (hi : i < a.length) (ex : rd a (i : Int) = x) (hj : j < a.length) (hk : k < a.length) (R : Bool)
  (hR : Ev (fun f => laws_FnBlocksAreGrowths.l2 f a (i : Int) (j : Int) (wrap64 ((k : Int) + 1)) (a.length : Int) (i : Int)) R) (t : List Int) : ∀ q : List Int, q ++ t = a →
  Ev (fun f => laws_FnBlocksAreGrowths.l3 f a (i : Int) (j : Int) (k : Int) (q.length : Int) (a.length : Int) (i : Int)) (((decide (x = rd a (k : Int)) && !decide (x = rd a (j : Int))) && hasV (rd a (j : Int)) t) || R) := by
 induction t with
 | nil =>
  intro q hq
  have hl : a.length = q.length := by rw [← hq]; simp
  refine Ev.succ ?_
  simp only [laws_FnBlocksAreGrowths.l3]
  simp only [if_neg (show ¬ (q.length : Int) < (a.length : Int) by omega)]
  refine Ev.to hR ?_
  simp [hasV]
 | cons u t ih =>
  intro q hq
  have hl : a.length = q.length + t.length + 1 := by rw [← hq]; simp; omega
  have e0 : rd a (q.length : Int) = u := by rw [← hq]; exact rd_mid rfl
  have e1 : wrap64 ((q.length : Int) + 1) = ((q ++ [u]).length : Int) := by rw [w64 (by omega), len_snoc]
  have := ih (q ++ [u]) (by rw [← snoc_mid]; exact hq)
  refine Ev.succ ?_
  simp only [laws_FnBlocksAreGrowths.l3]
  simp only [if_pos (show (q.length : Int) < (a.length : Int) by omega), if_pos (show 0 ≤ (k : Int) by omega), if_pos (show (k : Int) < (a.length : Int) by omega), if_pos (show 0 ≤ (j : Int) by omega), if_pos (show (j : Int) < (a.length : Int) by omega), if_pos (show 0 ≤ (q.length : Int) by omega), if_pos (show 0 ≤ (i : Int) by omega), if_pos (show (i : Int) < (a.length : Int) by omega), ex, e0, e1]
  by_cases c1 : x = rd a (k : Int)
  ·simp only [if_pos c1]
   by_cases c2 : rd a (j : Int) = u
   ·simp only [if_pos c2]
    by_cases c3 : x = rd a (j : Int)
    ·simp only [if_pos c3]
     refine Ev.to this ?_
     simp [c3]
    ·simp only [if_neg c3]
     refine Ev.some_ ?_
     rw [decide_eq_true c1, decide_eq_false c3]
     simp [hasV, c2]
   ·simp only [if_neg c2]
    refine Ev.to this ?_
    simp [hasV, Ne.symm c2]
  ·simp only [if_neg c1]
   refine Ev.to this ?_
   simp [c1]
theorem law_cr_l2 (a : List Int) (ha : a.length ≤ 1099511627776) (x : Int) (j i : Nat) (hi : i < a.length) (ex : rd a (i : Int) = x) (hj : j < a.length) (R : Bool)
  (hR : Ev (fun f => laws_FnBlocksAreGrowths.l1 f a (i : Int) (wrap64 ((j : Int) + 1)) (a.length : Int) (i : Int)) R) (s : List Int) : ∀ p : List Int, p ++ s = a →
  Ev (fun f => laws_FnBlocksAreGrowths.l2 f a (i : Int) (j : Int) (p.length : Int) (a.length : Int) (i : Int)) (crK x (rd a (j : Int)) s || R) := by
 induction s with
 | nil =>
  intro p hp
  have hl : a.length = p.length := by rw [← hp]; simp
  refine Ev.succ ?_
  simp only [laws_FnBlocksAreGrowths.l2]
  simp only [if_neg (show ¬ (p.length : Int) < (a.length : Int) by omega)]
  refine Ev.to hR ?_
  simp [crK]
 | cons z s ih =>
  intro p hp
  have hl : a.length = p.length + s.length + 1 := by rw [← hp]; simp; omega
  have e0 : rd a (p.length : Int) = z := by rw [← hp]; exact rd_mid rfl
  have e1 : wrap64 ((p.length : Int) + 1) = ((p ++ [z]).length : Int) := by rw [w64 (by omega), len_snoc]
  have hp' : (p ++ [z]) ++ s = a := by rw [← snoc_mid]; exact hp
  have h2 := ih (p ++ [z]) hp'
  rw [← e1] at h2
  have h3 := law_cr_l3 a ha x j p.length i hi ex hj (by omega) _ h2 s (p ++ [z]) hp'
  refine Ev.succ ?_
  simp only [laws_FnBlocksAreGrowths.l2]
  simp only [if_pos (show (p.length : Int) < (a.length : Int) by omega), e1]
  refine Ev.to h3 ?_
  rw [e0]
  simp only [crK]
  rw [Bool.or_assoc]
theorem law_cr_l1 (a : List Int) (ha : a.length ≤ 1099511627776) (x : Int) (i : Nat) (hi : i < a.length) (ex : rd a (i : Int) = x) (R : Bool)
  (hR : Ev (fun f => laws_FnBlocksAreGrowths.l0 f a (a.length : Int) (wrap64 ((i : Int) + 1))) R) (s : List Int) : ∀ p : List Int, p ++ s = a →
  Ev (fun f => laws_FnBlocksAreGrowths.l1 f a (i : Int) (p.length : Int) (a.length : Int) (i : Int)) (crJ x s || R) := by
 induction s with
 | nil =>
  intro p hp
  have hl : a.length = p.length := by rw [← hp]; simp
  refine Ev.succ ?_
  simp only [laws_FnBlocksAreGrowths.l1]
  simp only [if_neg (show ¬ (p.length : Int) < (a.length : Int) by omega)]
  refine Ev.to hR ?_
  simp [crJ]
 | cons y s ih =>
  intro p hp
  have hl : a.length = p.length + s.length + 1 := by rw [← hp]; simp; omega
  have e0 : rd a (p.length : Int) = y := by rw [← hp]; exact rd_mid rfl
  have e1 : wrap64 ((p.length : Int) + 1) = ((p ++ [y]).length : Int) := by rw [w64 (by omega), len_snoc]
  have hp' : (p ++ [y]) ++ s = a := by rw [← snoc_mid]; exact hp
  have h2 := ih (p ++ [y]) hp'
  rw [← e1] at h2
  have h3 := law_cr_l2 a ha x p.length i hi ex (by omega) _ h2 s (p ++ [y]) hp'
  refine Ev.succ ?_
  simp only [laws_FnBlocksAreGrowths.l1]
  simp only [if_pos (show (p.length : Int) < (a.length : Int) by omega), e1]
  refine Ev.to h3 ?_
  rw [e0]
  simp only [crJ]
  rw [Bool.or_assoc]
theorem law_cr_l0 (a : List Int) (ha : a.length ≤ 1099511627776) (s : List Int) : ∀ p : List Int, p ++ s = a →
  Ev (fun f => laws_FnBlocksAreGrowths.l0 f a (a.length : Int) (p.length : Int)) (crI s) := by
 induction s with
 | nil =>
  intro p hp
  have hl : a.length = p.length := by rw [← hp]; simp
  refine Ev.succ ?_
  simp only [laws_FnBlocksAreGrowths.l0]
  simp only [if_neg (show ¬ (p.length : Int) < (a.length : Int) by omega)]
  exact Ev.now _
 | cons x s ih =>
  intro p hp
  have hl : a.length = p.length + s.length + 1 := by rw [← hp]; simp; omega
  have e0 : rd a (p.length : Int) = x := by rw [← hp]; exact rd_mid rfl
  have e1 : wrap64 ((p.length : Int) + 1) = ((p ++ [x]).length : Int) := by rw [w64 (by omega), len_snoc]
  have hp' : (p ++ [x]) ++ s = a := by rw [← snoc_mid]; exact hp
  have h2 := ih (p ++ [x]) hp'
  rw [← e1] at h2
  have h3 := law_cr_l1 a ha x p.length (by omega) e0 _ h2 s (p ++ [x]) hp'
  refine Ev.succ ?_
  simp only [laws_FnBlocksAreGrowths.l0]
  simp only [if_pos (show (p.length : Int) < (a.length : Int) by omega), e1]
  exact Ev.to h3 (by simp only [crI])
/-! ### what is drawn -/
theorem cur_growth_loop {l : List Int} (hb : Bytes l) (n : Nat) (h1 : 1 ≤ n) (hn : n ≤ 13) (d : Nat) : ∀ (w : List Int) (m : Nat) (a s : Int), w.length + d = n → (-1 ≤ w.foldl max (-1) ∧ w.foldl max (-1) < (w.length : Int)) → CurAt m a → m + 2 * d + 6 ≤ 1152921504606846976 →
  ∃ r a' s', Ev (fun k => spec_l1Cur_growth.l0 k (n : Int) w l a s) (r, a', s') ∧ r.length ≤ 13 := by
 induction d with
 | zero =>
  intro w m a s hw ht hc hm
  obtain ⟨x, a1, s1, e1, e2, e3⟩ := cur_pick hb s 14 hc (by omega)
  by_cases c0 : x = 0
  ·obtain ⟨y, a2, s2, e4, e5, e6⟩ := cur_pick hb s1 (w.length : Int) e3 (by omega)
   obtain ⟨z, a3, s3, e7, e8, e9⟩ := cur_pick hb s2 6 e6 (by omega)
   refine ⟨w.set y.toNat (wrap64 (z - 1)), a3, s3, Ev.done fun k => ?_, by rw [List.length_set]; omega⟩
   simp only [spec_l1Cur_growth.l0, if_neg (show ¬ (w.length : Int) < (n : Int) by omega), e1, obind, if_pos c0, e4, e7, if_pos e5.1, if_pos (show y < (w.length : Int) by omega)]
  ·by_cases c1 : x = 1
   ·refine ⟨[], a1, s1, Ev.done fun k => ?_, by simp⟩
    simp only [spec_l1Cur_growth.l0, if_neg (show ¬ (w.length : Int) < (n : Int) by omega), e1, obind, if_neg c0, if_pos c1]
   ·refine ⟨w, a1, s1, Ev.done fun k => ?_, by omega⟩
    simp only [spec_l1Cur_growth.l0, if_neg (show ¬ (w.length : Int) < (n : Int) by omega), e1, obind, if_neg c0, if_neg c1]
 | succ d ih =>
  intro w m a s hw ht hc hm
  have hT := spec_spTop_ev w (by omega)
  generalize hg : w.foldl max (-1) = t at hT ht
  obtain ⟨x, a1, s1, e1, e2, e3⟩ := cur_pick hb s (t + 2) hc (by omega)
  have ew : wrap64 (t + 2) = t + 2 := w64 (by omega)
  have hf : (w ++ [x]).foldl max (-1) = max t x := by rw [List.foldl_append, hg]; rfl
  obtain ⟨r, a2, s2, h2, h3⟩ := ih (w ++ [x]) (m + 2) a1 s1 (by simp; omega) (by rw [hf]; simp; omega) e3 (by omega)
  refine ⟨r, a2, s2, Ev.succ ?_, h3⟩
  simp only [spec_l1Cur_growth.l0, if_pos (show (w.length : Int) < (n : Int) by omega)]
  refine Ev.bind hT ?_
  simp only [ew, e1, obind, if_pos (show w.length < 17592186044416 by omega)]
  exact h2
theorem cur_growth {l : List Int} (hb : Bytes l) {m : Nat} {a : Int} (s : Int) (h : CurAt m a) (hm : m + 100 ≤ 1152921504606846976) :
  ∃ w a' s', Ev (fun k => spec_l1Cur_growth.f k l a s) (w, a', s') ∧ w.length ≤ 13 := by
 unfold spec_l1Cur_growth.f
 obtain ⟨x, a1, s1, h1, h2, h3⟩ := cur_pick hb s 7 h (by omega)
 obtain ⟨b, a2, s2, h4, h5⟩ := cur_one hb s1 12 h3 (by omega)
 simp only [h1, obind, h4]
 have h0 : -1 ≤ ([0] : List Int).foldl max (-1) ∧ ([0] : List Int).foldl max (-1) < ((([0] : List Int).length : Nat) : Int) := by decide
 cases b with
 | true =>
  obtain ⟨y, a3, s3, h6, h7, h8⟩ := cur_pick hb s2 2 h5 (by omega)
  obtain ⟨n, hn⟩ : ∃ n : Nat, 12 + y = (n : Int) := ⟨(12 + y).toNat, by omega⟩
  obtain ⟨r, a4, s4, h9, h10⟩ := cur_growth_loop hb n (by omega) (by omega) (n - 1) [0] _ _ s3 (by simp; omega) h0 h8 (by omega)
  refine ⟨r, a4, s4, ?_, h10⟩
  simp only [if_true, h6, obind, hn, show wrap64 (n : Int) = (n : Int) from w64 (by omega)]
  refine Ev.succ ?_
  simp only [spec_l1Cur_growth.j0]
  exact h9
 | false =>
  obtain ⟨n, hn⟩ : ∃ n : Nat, 1 + x = (n : Int) := ⟨(1 + x).toNat, by omega⟩
  obtain ⟨r, a4, s4, h9, h10⟩ := cur_growth_loop hb n (by omega) (by omega) (n - 1) [0] _ _ s2 (by simp; omega) h0 h5 (by omega)
  refine ⟨r, a4, s4, ?_, h10⟩
  simp only [Bool.false_eq_true, if_false, hn, show wrap64 (n : Int) = (n : Int) from w64 (by omega)]
  refine Ev.succ ?_
  simp only [spec_l1Cur_growth.j0]
  exact h9
theorem draw_WordOfGrowth (l : List Int) (hb : Bytes l) : ∃ a, Ev (fun k => spec_DrawWordOfGrowth.f k l) a ∧ a.length ≤ 26 := by
 unfold spec_DrawWordOfGrowth.f
 obtain ⟨b, a1, s1, h1, h2⟩ := cur_one hb 0 2 (show CurAt 0 0 from ⟨by omega, by omega⟩) (by omega)
 simp only [h1, obind]
 cases b with
 | false =>
  obtain ⟨w, a2, s2, h3, h4⟩ := cur_growth hb s1 h2 (by omega)
  refine ⟨w, ?_, by omega⟩
  simp only [Bool.false_eq_true, if_false]
  exact Ev.bind h3 (Ev.now _)
 | true =>
  obtain ⟨w, a2, s2, h3, h4, h5⟩ := cur_balanced hb s1 h2 (by omega)
  have hG := spec_GrowthOfWord_ev w (by omega)
  have hl := gowR_len w
  generalize gowR w = R at hG hl
  obtain ⟨o, ok⟩ := R
  cases ok with
  | true =>
   refine ⟨o, ?_, by simp only at hl; omega⟩
   simp only [if_true]
   refine Ev.bind h3 (Ev.bind hG ?_)
   simp only [if_true]
   exact Ev.now _
  | false =>
   obtain ⟨u, a3, s3, h6, h7⟩ := cur_growth hb s2 h5 (by omega)
   refine ⟨u, ?_, by omega⟩
   simp only [if_true]
   refine Ev.bind h3 (Ev.bind hG ?_)
   simp only [Bool.false_eq_true, if_false]
   exact Ev.bind h6 (Ev.now _)
/-! ### the blocks tell the growth -/
theorem sumLen_snoc (B : List (List Int)) (y : List Int) : sumLen (B ++ [y]) = sumLen B + y.length := by
 induction B with
 | nil => simp [sumLen]
 | cons x s ih => simp only [List.cons_append, sumLen, ih]; omega
theorem sumLen_set (B : List (List Int)) : ∀ (k : Nat) (i : Int), k < B.length → sumLen (B.set k (B.getD k [] ++ [i])) = sumLen B + 1 := by
 induction B with
 | nil => intro k i h; simp at h
 | cons x s ih =>
  intro k i h
  cases k with
  | zero => simp [sumLen]; omega
  | succ k =>
   have := ih k i (by simpa using h)
   simp only [List.set_cons_succ, List.getD_cons_succ, sumLen, this]; omega
theorem sumLen_blkF (s : List Int) : ∀ (i : Nat) (B : List (List Int)), growW ((B.length : Int) - 1) s = true → sumLen (blkF i B s) = sumLen B + s.length := by
 induction s with
 | nil => intro i B _; simp [blkF]
 | cons x s ih =>
  intro i B h
  obtain ⟨h1, h2⟩ := growW_next h
  have hlen := blkOne_len (i := i) h1
  rw [← hlen] at h2
  rw [blkF, ih _ _ h2]
  have e : sumLen (blkOne B x i) = sumLen B + 1 := by
   unfold blkOne
   by_cases c : x.toNat = B.length
   ·rw [if_pos c, sumLen_snoc]; rfl
   ·rw [if_neg c, sumLen_set _ _ _ (by omega)]
  rw [e, List.length_cons]; omega
theorem fillR_some (n : Nat) (v : Int) (s : List Int) : ∀ a : List Int, a.length = n → (∀ i ∈ s, 0 ≤ i ∧ i < (n : Int)) → ∃ b, fillR n v s a = some b ∧ b.length = n ∧ ∀ j : Nat, j < n → b.getD j 0 = if (j : Int) ∈ s then v else a.getD j 0 := by
 induction s with
 | nil => intro a ha _; exact ⟨a, rfl, ha, fun j _ => by simp⟩
 | cons i s ih =>
  intro a ha hs
  have hi := hs i (List.mem_cons_self ..)
  obtain ⟨b, h1, h2, h3⟩ := ih (a.set i.toNat v) (by rw [List.length_set]; exact ha) (fun u hu => hs u (List.mem_cons_of_mem _ hu))
  refine ⟨b, ?_, h2, fun j hj => ?_⟩
  ·rw [fillR, if_pos (inB_yes (by omega))]; exact h1
  ·rw [h3 j hj]
   by_cases c : (j : Int) ∈ s
   ·rw [if_pos c, if_pos (List.mem_cons_of_mem _ c)]
   ·rw [if_neg c]
    by_cases e : (j : Int) = i
    ·rw [if_pos (by rw [e]; exact List.mem_cons_self ..)]
     have e2 : i.toNat = j := by omega
     rw [e2, List.getD_eq_getElem?_getD, List.getElem?_set_self (by omega)]; rfl
    ·rw [if_neg (fun h => by rcases List.mem_cons.1 h with h | h; exact e h; exact c h)]
     have e2 : i.toNat ≠ j := by omega
     rw [List.getD_eq_getElem?_getD, List.getElem?_set_ne e2, ← List.getD_eq_getElem?_getD]
theorem fillB_some (a : List Int) (m : Nat) : ∀ (v : Nat) (b : List Int), b.length = a.length →
  ∃ b', fillB a.length (v : Int) ((List.range' v m).map fun x => idx 0 x a) b = some b' ∧ b'.length = a.length ∧ ∀ j : Nat, j < a.length → b'.getD j 0 = if v ≤ (a.getD j 0).toNat ∧ (a.getD j 0).toNat < v + m then (((a.getD j 0).toNat : Nat) : Int) else b.getD j 0 := by
 induction m with
 | zero =>
  intro v b hb
  refine ⟨b, rfl, hb, fun j hj => ?_⟩
  rw [if_neg (by omega)]
 | succ m ih =>
  intro v b hb
  have hmem := idx_mem v a 0
  obtain ⟨b1, h1, h2, h3⟩ := fillR_some a.length (v : Int) (idx 0 v a) b hb (fun i hi => by
   obtain ⟨j, h4, h5, h6⟩ := (hmem i).1 hi
   omega)
  obtain ⟨b2, h4, h5, h6⟩ := ih (v + 1) b1 h2
  refine ⟨b2, ?_, h5, fun j hj => ?_⟩
  ·rw [List.range'_succ, List.map_cons, fillB, h1]
   simp only
   have e : (v : Int) + 1 = ((v + 1 : Nat) : Int) := by omega
   rw [e]; exact h4
  ·rw [h6 j hj]
   by_cases c : v + 1 ≤ (a.getD j 0).toNat ∧ (a.getD j 0).toNat < v + 1 + m
   ·rw [if_pos c, if_pos (by omega)]
   ·rw [if_neg c, h3 j hj]
    by_cases c2 : (a.getD j 0).toNat = v
    ·rw [if_pos ((hmem _).2 ⟨j, hj, by omega, c2⟩), if_pos (by omega), c2]
    ·rw [if_neg (fun h => by
      obtain ⟨j', q1, q2, q3⟩ := (hmem _).1 h
      have e : j' = j := by omega
      rw [e] at q3
      exact c2 q3), if_neg (by omega)]
theorem grwR_blk {a : List Int} (h : isG a = true) : grwR (blk a) = (a, true) := by
 obtain ⟨h1, h2, h3⟩ := isG_true h
 have hs : sumLen (blk a) = a.length := by
  have := sumLen_blkF a 0 [] h1
  rw [show blkF 0 [] a = blk a from rfl] at this
  rw [this]; simp [sumLen]
 have hpos := growW_pos a _ h1
 obtain ⟨b, g1, g2, g3⟩ := fillB_some a (blk a).length 0 (List.replicate a.length 0) (by simp)
 have hab : b = a := by
  refine List.ext_getElem (by omega) fun j q1 q2 => ?_
  have hj := g3 j q2
  have hm : a[j] ∈ a := List.getElem_mem q2
  have ea : a.getD j 0 = a[j] := by rw [List.getD_eq_getElem?_getD, List.getElem?_eq_getElem q2]; rfl
  have eb : b.getD j 0 = b[j] := by rw [List.getD_eq_getElem?_getD, List.getElem?_eq_getElem q1]; rfl
  have h0 := hpos _ hm
  have ht := topK_mem a 0 _ hm
  have hK : (blk a).length = topK 0 a := blkF_len a 0 [] h1
  rw [ea, eb, if_pos (by omega)] at hj
  rw [hj]; omega
 unfold grwR
 rw [hs, if_pos (inB_yes (by omega))]
 have e : fillB a.length 0 (blk a) (List.replicate a.length 0) = some b := by
  have hr := blk_rows h1
  rw [List.range_eq_range'] at hr
  rw [hr]
  exact g1
 rw [e, hab]
 show finG (blk a) a = (a, true)
 unfold finG
 rw [if_pos ⟨h, rfl⟩]
/-! ### the law's parts -/
theorem law_j2_word (a : List Int) (hG : isG a = true) (hc : crI a = false) : Ev (fun k => laws_FnBlocksAreGrowths.j2 k a (wogW a) true false) true := by
 obtain ⟨h1, h2, h3⟩ := isG_true hG
 obtain ⟨g1, g2, g3⟩ := wog_back hG hc
 have hg := impl_GrowthOfWord_ev (wogW a) (by omega)
 unfold gowR at hg
 rw [if_pos g1, if_neg (show ¬ (((wogW a).length : Int) == 0) = true by rw [beq_iff_eq]; omega), g2] at hg
 have hB := impl_IsBalancedWord_ev (wogW a) (by omega)
 rw [g1] at hB
 refine Ev.succ ?_
 simp only [laws_FnBlocksAreGrowths.j2, Bool.false_eq_true, if_false, if_true]
 refine Ev.bind hg ?_
 simp only [if_true]
 refine Ev.bind (laws_tSame_self a (by omega)) ?_
 simp only [if_true]
 refine Ev.bind hB ?_
 simp only [if_true]
 refine Ev.some_ ?_
 rw [beq_iff_eq, w64 (by omega), g3]; omega
theorem law_j2_cross (a w : List Int) (ha : a.length ≤ 1000) (hc : crI a = true) : Ev (fun k => laws_FnBlocksAreGrowths.j2 k a w false false) true := by
 have := law_cr_l0 a (by omega) a [] rfl
 rw [hc] at this
 refine Ev.succ ?_
 simp only [laws_FnBlocksAreGrowths.j2, Bool.false_eq_true, if_false]
 exact this
theorem law_j1 (a w : List Int) (told : Bool) (hG : isG a = true) (hr : Ev (fun k => laws_FnBlocksAreGrowths.j2 k a w told false) true) : Ev (fun k => laws_FnBlocksAreGrowths.j1 k a (blk a) true w told false) true := by
 obtain ⟨h1, h2, h3⟩ := isG_true hG
 obtain ⟨b1, b2⟩ := blk_len hG
 have hs : sumLen (blk a) ≤ 12000 := by
  have := sumLen_le (blk a) (fun x hx => Nat.le_trans (b2 x hx) (by omega))
  omega
 have hg := impl_GrowthOf_ev (blk a) (by omega)
 rw [grwR_blk hG] at hg
 refine Ev.succ ?_
 simp only [laws_FnBlocksAreGrowths.j1, Bool.false_eq_true, if_false, if_true]
 refine Ev.bind hg ?_
 simp only [if_true]
 refine Ev.bind (laws_tSame_self a (by omega)) ?_
 simp only [Bool.not_true]
 exact hr
theorem law_j0 (a : List Int) (ha : a.length ≤ 26) : Ev (fun k => laws_FnBlocksAreGrowths.j0 k a (if isG a = true then (blk a, true) else ([], false) : List (List Int) × Bool).1 (if isG a = true then (blk a, true) else ([], false) : List (List Int) × Bool).2 (if isG a = true then (blk a, true) else ([], false) : List (List Int) × Bool).2 false) true := by
 have h1 := impl_WordOfGrowth_ev a (by omega)
 have h2 := spec_WordOfGrowth_ev a (by omega)
 have h3 := impl_HasCrossing_ev a (by omega)
 have hl := wogR_len a
 unfold wogR at h1 h2 hl
 refine Ev.succ ?_
 simp only [laws_FnBlocksAreGrowths.j0, Bool.false_eq_true, if_false]
 refine Ev.bind h1 (Ev.bind h2 (Ev.bind h3 ?_))
 simp only [bne_self_eq_false, Bool.false_eq_true, if_false]
 refine Ev.bind (laws_tSame_self _ (by omega)) ?_
 cases hG : isG a with
 | false =>
  simp only [Bool.false_eq_true, if_false, if_true, bne_self_eq_false]
  refine Ev.done fun k => ?_
  simp only [laws_FnBlocksAreGrowths.j1, Bool.false_eq_true, if_false]
 | true =>
  cases hc : crI a with
  | false =>
   simp only [if_true, Bool.false_eq_true, if_false, bne_self_eq_false, Bool.not_false]
   exact law_j1 a (wogW a) true hG (law_j2_word a hG hc)
  | true =>
   simp only [if_true, Bool.false_eq_true, if_false, bne_self_eq_false, Bool.not_true]
   exact law_j1 a [] false hG (law_j2_cross a [] (by omega) hc)
theorem blocks_small (a : List Int) : (if isG a = true then (blk a, true) else ([], false) : List (List Int) × Bool).1.length ≤ 12 ∧ ∀ x ∈ (if isG a = true then (blk a, true) else ([], false) : List (List Int) × Bool).1, x.length ≤ 12 := by
 split
 ·rename_i h
  exact blk_len h
 ·exact ⟨by simp, by simp⟩
theorem FnBlocksAreGrowths : laws_FnBlocksAreGrowths.Pure := by
 intro l0 l1 _ _ hb0 _ _ _
 unfold laws_FnBlocksAreGrowths.f
 rcases laws_big_ok l0 l1 with hbig | ⟨hbig, hl0, hl1⟩
 ·exact ⟨0, by rw [hbig, obind, if_pos rfl]⟩
 simp only [hbig, obind, Bool.false_eq_true, if_false]
 obtain ⟨a, hd, ha⟩ := draw_WordOfGrowth l0 (bytes_wf hb0)
 have hs := spec_BlocksOf_ev a (by omega)
 have hi := impl_BlocksOf_ev a (by omega)
 have hf := blocks_small a
 refine (Ev.bind hd (Ev.bind hi (Ev.bind hs ?_))).rounds
 simp only [bne_self_eq_false, Bool.false_eq_true, if_false]
 refine Ev.bind (laws_tSameRows_self _ (by omega) (fun x hx => Nat.le_trans (hf.2 x hx) (by omega))) ?_
 simp only [Bool.not_true]
 exact law_j0 a ha

end Go.Proofs.Ytoledgkfohkfkaa.Pure
