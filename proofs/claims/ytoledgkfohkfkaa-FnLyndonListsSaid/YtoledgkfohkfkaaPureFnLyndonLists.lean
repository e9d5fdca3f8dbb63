/- Lyndon words are listed in order, each one is the next one of that before, and they are as many as are counted: for all rows of bytes that code and more may be. -/
import Derived.Test.YtoledgkfohkfkaaHFnLyndonListsx6
import Derived.Test.YtoledgkfohkfkaaCoreA
import Derived.Test.YtoledgkfohkfkaaCoreL
import Derived.Test.YtoledgkfohkfkaaCoreM
import Derived.Test.YtoledgkfohkfkaaCoreLL
import Derived.Test.YtoledgkfohkfkaaCoreLy
import Derived.Test.YtoledgkfohkfkaaCoreLK
namespace Go.Proofs.Ytoledgkfohkfkaa.Pure
open Go.RowKit Go.Proofs.Ytoledgkfohkfkaa.HFnLyndonLists Go.Proofs.YtoledgkfohkfkaaW.PrintWords Go.Proofs.YtoledgkfohkfkaaW.PrintLast Go.Proofs.YtoledgkfohkfkaaW.PrintMore Go.Proofs.Ytoledgkfohkfkaa.Core
set_option linter.unusedVariables false
set_option linter.unusedSimpArgs false

theorem laws_big_ok (a b : List Int) : laws_big.f a b = some true ∨ (laws_big.f a b = some false ∧ a.length ≤ 1048576 ∧ b.length ≤ 1048576) := by
  unfold laws_big.f
  by_cases h : (a.length : Int) > 1048576
  · rw [if_pos h]; exact .inl rfl
  · rw [if_neg h, w64 (by omega)]
    by_cases h2 : (b.length : Int) > 1048576 - (a.length : Int)
    · rw [decide_eq_true h2]; exact .inl rfl
    · rw [decide_eq_false h2]; exact .inr ⟨rfl, by omega, by omega⟩

theorem laws_tSame_loop (s : List Int) : ∀ (p : List Int) (n i : Int), n = ((p ++ s).length : Int) → i = (p.length : Int) → (p ++ s).length ≤ 1099511627776 →
    Ev (fun k => laws_tSame.l0 k (p ++ s) (p ++ s) n i) true := by
  induction s with
  | nil =>
    intro p n i hn hi hl
    refine Ev.done fun k => ?_
    simp only [laws_tSame.l0]
    rw [if_neg (by rw [len_nil] at hn; omega)]
  | cons x s ih =>
    intro p n i hn hi hl
    have h1 := len_mid p s x
    have := ih (p ++ [x]) n (i + 1) (by rw [← snoc_mid]; exact hn) (by rw [len_snoc]; omega) (by rw [← snoc_mid]; exact hl)
    rw [← snoc_mid] at this
    refine Ev.step' this fun k => ?_
    simp only [laws_tSame.l0]
    rw [if_pos (by omega), if_pos (by omega), if_pos (by omega), if_pos (by omega), if_pos trivial, w64 (by omega)]
theorem laws_tSame_self (l : List Int) (hl : l.length ≤ 1099511627776) : Ev (fun k => laws_tSame.f k l l) true := by
  unfold laws_tSame.f
  simp only [if_true]
  exact laws_tSame_loop l [] _ 0 (by simp) (by simp) (by simpa using hl)

theorem laws_tSameRows_loop (s : List (List Int)) : ∀ (p : List (List Int)) (n i : Int), n = ((p ++ s).length : Int) → i = (p.length : Int) → (p ++ s).length ≤ 1073741824 → (∀ x ∈ s, x.length ≤ 1073741824) →
    Ev (fun k => laws_tSameRows.l0 k (p ++ s) (p ++ s) n i) true := by
  induction s with
  | nil =>
    intro p n i hn hi hl hs
    refine Ev.done fun k => ?_
    simp only [laws_tSameRows.l0]
    rw [if_neg (by rw [List.append_nil] at hn; omega)]
  | cons x s ih =>
    intro p n i hn hi hl hs
    have h1 : (((p ++ x :: s).length : Nat) : Int) = p.length + s.length + 1 := by simp; omega
    have er : rd_L2 (p ++ x :: s) i = x := by subst hi; simp [rd_L2]
    have e2 : p ++ x :: s = (p ++ [x]) ++ s := by simp
    have := ih (p ++ [x]) n (i + 1) (by rw [← e2]; exact hn) (by simp; omega) (by rw [← e2]; exact hl) (fun y hy => hs y (List.mem_cons_of_mem _ hy))
    rw [← e2] at this
    refine Ev.succ ?_
    simp only [laws_tSameRows.l0]
    simp only [if_pos (show i < n by omega), if_pos (show 0 ≤ i by omega), if_pos (show i < (((p ++ x :: s).length : Nat) : Int) by omega), er, show wrap64 (i + 1) = i + 1 from w64 (by omega)]
    refine Ev.bind (laws_tSame_self x (by have := hs x (List.mem_cons_self ..); omega)) ?_
    simp only [if_true]
    exact this
theorem laws_tSameRows_self (l : List (List Int)) (hl : l.length ≤ 1073741824) (hs : ∀ x ∈ l, x.length ≤ 1073741824) : Ev (fun k => laws_tSameRows.f k l l) true := by
  unfold laws_tSameRows.f
  simp only [if_true]
  exact laws_tSameRows_loop l [] _ 0 (by simp) (by simp) (by simpa using hl) hs

theorem laws_tLess_loop (s : List Int) : ∀ (t p : List Int) (i : Int), i = (p.length : Int) → (p ++ s).length ≤ 1099511627776 → (p ++ t).length ≤ 1099511627776 →
    Ev (fun k => laws_tLess.l0 k (p ++ s) (p ++ t) i) (lexLt s t) := by
  induction s with
  | nil =>
    intro t p i hi hl hl2
    have c1 : ¬ i < (((p ++ ([] : List Int)).length : Nat) : Int) := by rw [len_nil]; omega
    refine Ev.succ ?_
    simp only [laws_tLess.l0, if_neg c1]
    refine Ev.done fun k => ?_
    simp only [laws_tLess.j1, Bool.false_eq_true, if_false]
    cases t with
    | nil => simp [lexLt]
    | cons y t => simp [lexLt]; omega
  | cons x s ih =>
    intro t p i hi hl hl2
    have h1 := len_mid p s x
    have c1 : i < (((p ++ x :: s).length : Nat) : Int) := by omega
    refine Ev.succ ?_
    simp only [laws_tLess.l0, if_pos c1]
    cases t with
    | nil =>
      have c2 : ¬ i < (((p ++ ([] : List Int)).length : Nat) : Int) := by rw [len_nil]; omega
      refine Ev.done fun k => ?_
      simp only [decide_eq_false c2, laws_tLess.j1, Bool.false_eq_true, if_false]
      simp [lexLt]; omega
    | cons y t =>
      have h2 := len_mid p t y
      have c2 : i < (((p ++ y :: t).length : Nat) : Int) := by omega
      have c3 : 0 ≤ i := by omega
      refine Ev.succ ?_
      simp only [decide_eq_true c2, laws_tLess.j1, if_true, if_pos c3, if_pos c1, if_pos c2, rd_mid (p := p) (s := s) (x := x) hi, rd_mid (p := p) (s := t) (x := y) hi]
      unfold lexLt
      by_cases e : x = y
      · subst e
        have := ih t (p ++ [x]) (i + 1) (by rw [len_snoc]; omega) (by rw [← snoc_mid]; exact hl) (by rw [← snoc_mid]; exact hl2)
        rw [← snoc_mid, ← snoc_mid] at this
        simp only [if_true, w64 (show -9223372036854775808 ≤ i + 1 ∧ i + 1 ≤ 9223372036854775807 by omega)]
        exact this
      · simp only [if_neg e]
        exact Ev.now _
theorem laws_tLess_ev (a b : List Int) (ha : a.length ≤ 1099511627776) (hb : b.length ≤ 1099511627776) : Ev (fun k => laws_tLess.f k a b) (lexLt a b) :=
  laws_tLess_loop a b [] 0 (by simp) (by simpa using ha) (by simpa using hb)

/-! ### the reader of draws: it tells a number always -/
theorem and255 (E : Int) (h0 : 0 ≤ E) (h1 : E ≤ 18446744073709551615) : 0 ≤ Go.bits .and .u64 E 255 ∧ Go.bits .and .u64 E 255 ≤ 255 := by
  have h := Go.bits_and_u64_nat E.toNat 255 (by omega) (by omega)
  rw [Int.toNat_of_nonneg h0] at h
  have h2 : E.toNat &&& 255 ≤ 255 := Nat.and_le_right
  have h3 : Go.bits .and .u64 E 255 = ((E.toNat &&& 255 : Nat) : Int) := h
  omega
theorem u64_in (n : Int) : 0 ≤ IntKind.u64.wrap n ∧ IntKind.u64.wrap n ≤ 18446744073709551615 := by
  have e : IntKind.u64.wrap n = n % 18446744073709551616 := rfl
  rw [e]; omega
theorem draw_in (n : Int) : 0 ≤ wrap64 (Go.bits .and .u64 (IntKind.u64.wrap n / 1099511627776) 255) ∧ wrap64 (Go.bits .and .u64 (IntKind.u64.wrap n / 1099511627776) 255) ≤ 255 := by
  have h := u64_in n
  have h2 := and255 (IntKind.u64.wrap n / 1099511627776) (by omega) (by omega)
  rw [w64 (by omega)]; exact h2
def Bytes (l : List Int) : Prop := ∀ x ∈ l, 0 ≤ x ∧ x ≤ 255
theorem bytes_wf {l : List Int} (h : ∀ x ∈ l, (Lit.int .u8 x).wf = true) : Bytes l := by
  intro x hx
  have h1 := h x hx
  unfold Lit.wf at h1
  rw [Bool.and_eq_true, decide_eq_true_iff, decide_eq_true_iff] at h1
  exact h1
def CurAt (m : Nat) (a : Int) : Prop := (0 ≤ a ∧ a ≤ (m : Int)) ∧ m ≤ 1152921504606846976
theorem CurAt.mono {m n : Nat} {a : Int} (h : CurAt m a) (hn : m ≤ n) (hm : n ≤ 1152921504606846976) : CurAt n a := by
  obtain ⟨⟨h1, h2⟩, h3⟩ := h
  exact ⟨⟨h1, by omega⟩, hm⟩
theorem cur_next {l : List Int} (hb : Bytes l) {m : Nat} {a : Int} (s : Int) (h : CurAt m a) (hm : m < 1152921504606846976) :
    ∃ b a' s', spec_l1Cur_next.f l a s = some (b, a', s') ∧ (0 ≤ b ∧ b ≤ 255) ∧ CurAt (m + 1) a' := by
  obtain ⟨⟨h1, h2⟩, _⟩ := h
  have e : wrap64 (a + 1) = a + 1 := w64 (by omega)
  unfold spec_l1Cur_next.f
  rw [e]
  by_cases c1 : a < (l.length : Int)
  · have hr := hb _ (rd_mem h1 c1)
    rw [if_pos c1, if_pos h1, w64 (n := rd l a) (by omega)]
    by_cases c2 : a + 1 ≤ (l.length : Int)
    · rw [if_pos c2]; exact ⟨_, _, _, rfl, hr, ⟨by omega, by omega⟩, by omega⟩
    · rw [if_neg c2]; exact ⟨_, _, _, rfl, draw_in _, ⟨by omega, by omega⟩, by omega⟩
  · rw [if_neg c1]
    by_cases c2 : a + 1 ≤ (l.length : Int)
    · rw [if_pos c2]; exact ⟨_, _, _, rfl, ⟨by omega, by omega⟩, ⟨by omega, by omega⟩, by omega⟩
    · rw [if_neg c2]; exact ⟨_, _, _, rfl, draw_in _, ⟨by omega, by omega⟩, by omega⟩
theorem tmod_in {b n : Int} (hb : 0 ≤ b) (hn : 1 < n) : 0 ≤ Int.tmod b n ∧ Int.tmod b n < n := by
  obtain ⟨c, rfl⟩ : ∃ c : Nat, b = (c : Int) := ⟨b.toNat, by omega⟩
  obtain ⟨k, rfl⟩ : ∃ k : Nat, n = (k : Int) := ⟨n.toNat, by omega⟩
  have e : Int.tmod (c : Int) (k : Int) = ((c % k : Nat) : Int) := rfl
  have := Nat.mod_lt c (show 0 < k by omega)
  rw [e]; omega
theorem cur_pick {l : List Int} (hb : Bytes l) {m : Nat} {a : Int} (s n : Int) (h : CurAt m a) (hm : m + 2 ≤ 1152921504606846976) :
    ∃ x a' s', spec_l1Cur_pick.f l a s n = some (x, a', s') ∧ (0 ≤ x ∧ x ≤ max (n - 1) 0) ∧ CurAt (m + 2) a' := by
  unfold spec_l1Cur_pick.f
  by_cases c1 : n ≤ 1
  · rw [if_pos c1]; exact ⟨_, _, _, rfl, ⟨by omega, by omega⟩, h.mono (by omega) (by omega)⟩
  · rw [if_neg c1]
    obtain ⟨b, a1, s1, h1, h2, h3⟩ := cur_next hb s h (by omega)
    rw [h1, obind]
    simp only
    have c0 : ¬ n = 0 := by omega
    by_cases c2 : n > 200
    · rw [if_pos c2]
      obtain ⟨b2, a2, s2, h4, h5, h6⟩ := cur_next hb s1 h3 (by omega)
      rw [h4, obind, if_neg c0]
      simp only
      rw [w64 (n := b * 256) (by omega), w64 (n := b * 256 + b2) (by omega)]
      have := tmod_in (b := b * 256 + b2) (n := n) (by omega) (by omega)
      exact ⟨_, _, _, rfl, ⟨by omega, by omega⟩, h6⟩
    · rw [if_neg c2, if_neg c0]
      have := tmod_in (b := b) (n := n) (by omega) (by omega)
      exact ⟨_, _, _, rfl, ⟨by omega, by omega⟩, h3.mono (by omega) (by omega)⟩

theorem cur_among {l : List Int} (hb : Bytes l) {m : Nat} {a : Int} (s : Int) (L : List Int) (hL : 0 < L.length) (h : CurAt m a) (hm : m + 2 ≤ 1152921504606846976) :
    ∃ x a' s', spec_l1Cur_among.f l a s L = some (x, a', s') ∧ x ∈ L ∧ CurAt (m + 2) a' := by
  unfold spec_l1Cur_among.f
  obtain ⟨b, a1, s1, h1, h2, h3⟩ := cur_pick hb s (L.length : Int) h hm
  rw [h1, obind]
  simp only
  have c1 : b < (L.length : Int) := by omega
  rw [if_pos h2.1, if_pos c1]
  exact ⟨_, _, _, rfl, rd_mem h2.1 c1, h3⟩

theorem spec_lyNext_l1 (k : Int) (hk : -1000 ≤ k ∧ k ≤ 1000) (r : List Int) : (∀ x ∈ r, 0 ≤ x ∧ x ≤ 5) → r.length ≤ 1000 → Ev (fun f => spec_lyNext.l1 f k r.reverse) (incR k r).reverse := by
  induction r with
  | nil => intro _ _; refine Ev.done fun f => ?_; simp only [spec_lyNext.l1]; rw [if_neg (by simp)]; rfl
  | cons x s ih =>
    intro hin hl
    have hx := hin x (List.mem_cons_self ..)
    have hl' : s.length + 1 ≤ 1000 := hl
    have e : (x :: s).reverse = s.reverse ++ x :: [] := by simp
    have el : (((s.reverse ++ x :: []).length : Nat) : Int) = (s.length : Int) + 1 := by simp
    have w1 : wrap64 ((s.length : Int) + 1 - 1) = (s.length : Int) := by rw [w64 (by omega)]; omega
    have w2 : wrap64 (k - 1) = k - 1 := w64 (by omega)
    have er : rd (s.reverse ++ x :: []) (s.length : Int) = x := rd_mid (by simp)
    have w3 : wrap64 (x + 1) = x + 1 := w64 (by omega)
    have et : (s.reverse ++ x :: []).take ((s.length : Int)).toNat = s.reverse := by
      rw [Int.toNat_natCast]; exact List.take_left' (by simp)
    have es : (s.reverse ++ x :: []).set ((s.length : Int)).toNat (x + 1) = s.reverse ++ (x + 1) :: [] := set_mid (by simp)
    rw [e]
    refine Ev.succ ?_
    simp only [spec_lyNext.l1]
    simp only [el, w1, w2, er, w3, et, es, if_pos (show (s.length : Int) + 1 > 0 by omega), if_pos (show 0 ≤ (s.length : Int) by omega), if_pos (show (s.length : Int) < (s.length : Int) + 1 by omega), if_pos (show (s.length : Int) ≤ (s.length : Int) + 1 by omega)]
    unfold incR
    by_cases h : x = k - 1
    · simp only [if_pos h]; exact ih (fun y hy => hin y (List.mem_cons_of_mem _ hy)) (by omega)
    · simp only [if_neg h]; exact Ev.some_ (by simp)
theorem spec_lyNext_l0 (w : List Int) (k : Int) (n : Nat) (h0 : 0 < w.length) (hl : w.length ≤ 1000) (hin : ∀ x ∈ w, 0 ≤ x ∧ x ≤ 5) (hk : -1000 ≤ k ∧ k ≤ 1000) (hn : n ≤ 1000) (d : Nat) : ∀ j, j + d = n →
    Ev (fun f => spec_lyNext.l0 f w (n : Int) k (repW w j)) (nxtW w n k) := by
  induction d with
  | zero =>
    intro j hj
    have e : j = n := by omega
    subst e
    have c1 : ¬ (((repW w j).length : Nat) : Int) < (j : Int) := by rw [repW_len]; omega
    refine Ev.succ ?_
    simp only [spec_lyNext.l0, if_neg c1]
    have := spec_lyNext_l1 k hk (repW w j).reverse (fun x hx => repW_in h0 hin j x (List.mem_reverse.1 hx)) (by rw [List.length_reverse, repW_len]; omega)
    rw [List.reverse_reverse] at this
    exact this
  | succ d ih =>
    intro j hj
    have hm : j % w.length < w.length := Nat.mod_lt _ h0
    have em : ((j : Nat) : Int) % ((w.length : Nat) : Int) = ((j % w.length : Nat) : Int) := rfl
    have er : rd w ((j % w.length : Nat) : Int) = w.getD (j % w.length) 0 := by unfold rd; rw [Int.toNat_natCast]
    have c0 : ¬ (w.length : Int) = 0 := by omega
    have c1 : (j : Int) < (n : Int) := by omega
    have c2 : 0 ≤ ((j % w.length : Nat) : Int) := by omega
    have c3 : ((j % w.length : Nat) : Int) < (w.length : Int) := by omega
    have c4 : j < 17592186044416 := by omega
    refine Ev.succ ?_
    simp only [spec_lyNext.l0]
    simp only [repW_len, if_pos c1, if_neg c0, em, if_pos c2, if_pos c3, er, if_pos c4, ← repW_succ]
    exact ih (j + 1) (by omega)
theorem spec_lyNext_ev (w : List Int) (k : Int) (n : Nat) (h0 : 0 < w.length) (hl : w.length ≤ 1000) (hin : ∀ x ∈ w, 0 ≤ x ∧ x ≤ 5) (hk : -1000 ≤ k ∧ k ≤ 1000) (hn : n ≤ 1000) :
    Ev (fun f => spec_lyNext.f f w (n : Int) k) (nxtW w n k) := spec_lyNext_l0 w k n h0 hl hin hk hn n 0 (by omega)

theorem okw_in {n : Nat} {k : Int} {w : List Int} (h : Okw n k w) (hk : k ≤ 6) : ∀ x ∈ w, 0 ≤ x ∧ x ≤ 5 := fun x hx => by have := h.2 x hx; omega
theorem spec_lyList_l0 (n : Nat) (k : Int) (hn : n ≤ 12) (hk : 1 ≤ k ∧ k ≤ 6) (d : Nat) : ∀ (w : List Int) (out : List (List Int)), Okw n k w → out.length + d = 1101 →
    Ev (fun f => spec_lyList.l0 f (n : Int) k out w) (out ++ lstF n k d w) := by
  induction d with
  | zero =>
    intro w out hw ho
    refine Ev.to (Ev.done fun f => ?_) (show out = out ++ lstF n k 0 w by simp [lstF])
    simp only [spec_lyList.l0]
    by_cases h : (w.length : Int) > 0
    · rw [if_pos h, if_neg (show ¬ (out.length : Int) ≤ 1100 by omega)]
    · rw [if_neg h]
  | succ d ih =>
    intro w out hw ho
    unfold lstF
    by_cases e : w.length = 0
    · rw [if_pos e]
      refine Ev.to (Ev.done fun f => ?_) (show out = out ++ [] by simp)
      simp only [spec_lyList.l0]
      rw [if_neg (by omega)]
    · rw [if_neg e]
      have hw1 := hw.1
      have := ih (nxtW w n k) (out ++ [w]) (okw_nxt (by omega) hw) (by simp; omega)
      refine Ev.succ ?_
      simp only [spec_lyList.l0, if_pos (show (w.length : Int) > 0 by omega), if_pos (show (out.length : Int) ≤ 1100 by omega), if_pos (show out.length < 5864062014805 by omega)]
      refine Ev.bind (spec_lyNext_ev w k n (by omega) (by omega) (okw_in hw hk.2) (by omega) (by omega)) ?_
      exact Ev.to this (by simp)
theorem spec_lyList_ev (n : Nat) (k : Int) (hn : 1 ≤ n ∧ n ≤ 12) (hk : 1 ≤ k ∧ k ≤ 6) : Ev (fun f => spec_lyList.f f (n : Int) k) (lstF n k 1101 [0]) := by
  unfold spec_lyList.f
  exact spec_lyList_l0 n k hn.2 hk 1101 [0] [] (okw_one hn.1 hk.1) rfl

theorem impl_nextLyndon_l1 (k : Int) (hk : -1000 ≤ k ∧ k ≤ 1000) (r : List Int) : (∀ x ∈ r, 0 ≤ x ∧ x ≤ 5) → r.length ≤ 1000 → Ev (fun f => impl_nextLyndon.l1 f k r.reverse) (incR k r).reverse := by
  induction r with
  | nil => intro _ _; refine Ev.done fun f => ?_; simp only [impl_nextLyndon.l1]; rw [if_neg (by simp)]; rfl
  | cons x s ih =>
    intro hin hl
    have hx := hin x (List.mem_cons_self ..)
    have hl' : s.length + 1 ≤ 1000 := hl
    have e : (x :: s).reverse = s.reverse ++ x :: [] := by simp
    have el : (((s.reverse ++ x :: []).length : Nat) : Int) = (s.length : Int) + 1 := by simp
    have w1 : wrap64 ((s.length : Int) + 1 - 1) = (s.length : Int) := by rw [w64 (by omega)]; omega
    have w2 : wrap64 (k - 1) = k - 1 := w64 (by omega)
    have er : rd (s.reverse ++ x :: []) (s.length : Int) = x := rd_mid (by simp)
    have w3 : wrap64 (x + 1) = x + 1 := w64 (by omega)
    have et : (s.reverse ++ x :: []).take ((s.length : Int)).toNat = s.reverse := by
      rw [Int.toNat_natCast]; exact List.take_left' (by simp)
    have es : (s.reverse ++ x :: []).set ((s.length : Int)).toNat (x + 1) = s.reverse ++ (x + 1) :: [] := set_mid (by simp)
    rw [e]
    refine Ev.succ ?_
    simp only [impl_nextLyndon.l1]
    simp only [el, w1, w2, er, w3, et, es, if_pos (show (s.length : Int) + 1 > 0 by omega), if_pos (show 0 ≤ (s.length : Int) by omega), if_pos (show (s.length : Int) < (s.length : Int) + 1 by omega), if_pos (show (s.length : Int) ≤ (s.length : Int) + 1 by omega)]
    unfold incR
    by_cases h : x = k - 1
    · simp only [if_pos h]; exact ih (fun y hy => hin y (List.mem_cons_of_mem _ hy)) (by omega)
    · simp only [if_neg h]; exact Ev.some_ (by simp)
theorem impl_nextLyndon_l0 (w : List Int) (k : Int) (n : Nat) (h0 : 0 < w.length) (hl : w.length ≤ 1000) (hin : ∀ x ∈ w, 0 ≤ x ∧ x ≤ 5) (hk : -1000 ≤ k ∧ k ≤ 1000) (hn : n ≤ 1000) (d : Nat) : ∀ j : Nat, j + d = n →
    Ev (fun f => impl_nextLyndon.l0 f w k (repW w j) (n : Int) (j : Int)) (nxtW w n k) := by
  induction d with
  | zero =>
    intro j hj
    have e : j = n := by omega
    subst e
    have c1 : ¬ (j : Int) < (j : Int) := by omega
    refine Ev.succ ?_
    simp only [impl_nextLyndon.l0, if_neg c1]
    have := impl_nextLyndon_l1 k hk (repW w j).reverse (fun x hx => repW_in h0 hin j x (List.mem_reverse.1 hx)) (by rw [List.length_reverse, repW_len]; omega)
    rw [List.reverse_reverse] at this
    exact this
  | succ d ih =>
    intro j hj
    have hm : j % w.length < w.length := Nat.mod_lt _ h0
    have em : Int.tmod ((j : Nat) : Int) ((w.length : Nat) : Int) = ((j % w.length : Nat) : Int) := rfl
    have er : rd w ((j % w.length : Nat) : Int) = w.getD (j % w.length) 0 := by unfold rd; rw [Int.toNat_natCast]
    have c0 : ¬ (w.length : Int) = 0 := by omega
    have c1 : (j : Int) < (n : Int) := by omega
    have c2 : 0 ≤ ((j % w.length : Nat) : Int) := by omega
    have c3 : ((j % w.length : Nat) : Int) < (w.length : Int) := by omega
    have c4 : (repW w j).length < 17592186044416 := by rw [repW_len]; omega
    have b1 : j ≤ 1099511627776 := by omega
    refine Ev.succ ?_
    simp only [impl_nextLyndon.l0]
    simp only [if_pos c1, if_neg c0, em, if_pos c2, if_pos c3, er, if_pos c4, i_up b1, ← repW_succ]
    exact ih (j + 1) (by omega)
theorem impl_nextLyndon_ev (w : List Int) (k : Int) (n : Nat) (h0 : 0 < w.length) (hl : w.length ≤ 1000) (hin : ∀ x ∈ w, 0 ≤ x ∧ x ≤ 5) (hk : -1000 ≤ k ∧ k ≤ 1000) (hn : n ≤ 1000) :
    Ev (fun f => impl_nextLyndon.f f w (n : Int) k) (nxtW w n k) := by
  unfold impl_nextLyndon.f
  exact impl_nextLyndon_l0 w k n h0 hl hin hk hn n 0 (by omega)

theorem impl_copied_eq (l : List Int) (hl : l.length ≤ 1000000) : impl_copied.f l = some l := by
  unfold impl_copied.f
  rw [obind, if_pos (by simp; omega), List.nil_append]

theorem spec_l1In_eq (a b c : Int) : spec_l1In.f a b c = some (inB a b c) := inB_ite a b c

theorem impl_within_eq (a b c : Int) : impl_within.f a b c = some (inB a b c) := inB_ite a b c

def isKind (a b : Int) : Bool := inB a 1 12 && inB b 1 6
theorem spec_lyKind_eq (a b : Int) : spec_lyKind.f a b = some (isKind a b) := by
  unfold spec_lyKind.f isKind
  simp only [spec_l1In_eq, obind]
  cases inB a 1 12 <;> simp
theorem impl_isOver_eq (a b : Int) : impl_isOver.f a b = some (isKind a b) := by
  unfold impl_isOver.f isKind
  simp only [impl_within_eq, obind]
  cases inB a 1 12 <;> simp

theorem lstF_succ (n : Nat) (k : Int) (d : Nat) (w : List Int) : lstF n k (d + 1) w = if w.length = 0 then [] else w :: lstF n k d (nxtW w n k) := rfl
def upToR (L : List (List Int)) : List (List Int) × Bool := if L.length ≤ 1100 then (L, true) else ([], false)
theorem impl_lyndonWords_l0 (n : Nat) (k : Int) (hn : n ≤ 12) (hk : 1 ≤ k ∧ k ≤ 6) (d : Nat) : ∀ (w : List Int) (out : List (List Int)), Okw n k w → out.length + (d + 1) = 1101 →
    Ev (fun f => impl_lyndonWords.l0 f (n : Int) k 1100 out w) (upToR (out ++ lstF n k (d + 1) w)) := by
  induction d with
  | zero =>
    intro w out hw ho
    rw [lstF_succ]
    by_cases e : w.length = 0
    · rw [if_pos e, List.append_nil]
      unfold upToR
      rw [if_pos (by omega)]
      refine Ev.done fun f => ?_
      simp only [impl_lyndonWords.l0]
      rw [if_neg (by omega)]
    · rw [if_neg e]
      have hw1 := hw.1
      have hl : (out ++ w :: lstF n k 0 (nxtW w n k)).length = 1101 := by simp [lstF]; omega
      unfold upToR
      rw [if_neg (by omega)]
      refine Ev.done fun f => ?_
      simp only [impl_lyndonWords.l0, impl_LyndonUpTo_f1.f, obind, impl_copied_eq w (by omega), if_true, if_pos (show (w.length : Int) > 0 by omega), if_pos (show out.length < 5864062014805 by omega)]
      have hc : (((out ++ [w]).length : Nat) : Int) > 1100 := by simp; omega
      rw [if_pos hc]
  | succ d ih =>
    intro w out hw ho
    rw [lstF_succ]
    by_cases e : w.length = 0
    · rw [if_pos e, List.append_nil]
      unfold upToR
      rw [if_pos (by omega)]
      refine Ev.done fun f => ?_
      simp only [impl_lyndonWords.l0]
      rw [if_neg (by omega)]
    · rw [if_neg e]
      have hw1 := hw.1
      have := ih (nxtW w n k) (out ++ [w]) (okw_nxt (by omega) hw) (by simp; omega)
      have hc : ¬ (((out ++ [w]).length : Nat) : Int) > 1100 := by simp; omega
      refine Ev.succ ?_
      simp only [impl_lyndonWords.l0, impl_LyndonUpTo_f1.f, obind, impl_copied_eq w (by omega), if_true, if_pos (show (w.length : Int) > 0 by omega), if_pos (show out.length < 5864062014805 by omega), if_neg hc]
      refine Ev.bind (impl_nextLyndon_ev w k n (by omega) (by omega) (okw_in hw hk.2) (by omega) (by omega)) ?_
      exact Ev.to this (by simp)
theorem impl_lyndonWords_ev (n : Nat) (k : Int) (hn : 1 ≤ n ∧ n ≤ 12) (hk : 1 ≤ k ∧ k ≤ 6) : Ev (fun f => impl_lyndonWords.f f (n : Int) k 1100) (upToR (lstF n k 1101 [0])) := by
  unfold impl_lyndonWords.f
  exact impl_lyndonWords_l0 n k hn.2 hk 1100 [0] [] (okw_one hn.1 hk.1) rfl
def lyR (a0 a1 : Int) : List (List Int) × Bool := if isKind a0 a1 = true then upToR (lstF a0.toNat a1 1101 [0]) else ([], false)
theorem isKind_tr {a b : Int} (h : isKind a b = true) : (1 ≤ a ∧ a ≤ 12) ∧ 1 ≤ b ∧ b ≤ 6 := by
  unfold isKind at h; rw [Bool.and_eq_true, inB_true, inB_true] at h; exact h
theorem spec_LyndonUpTo_ev (a0 a1 : Int) : Ev (fun f => spec_LyndonUpTo.f f a0 a1) (lyR a0 a1) := by
  unfold spec_LyndonUpTo.f lyR
  simp only [spec_lyKind_eq, obind]
  cases h : isKind a0 a1 with
  | false => simp only [Bool.false_eq_true, if_false]; exact Ev.now _
  | true =>
    obtain ⟨h1, h2⟩ := isKind_tr h
    obtain ⟨n, rfl⟩ : ∃ n : Nat, a0 = (n : Int) := ⟨a0.toNat, by omega⟩
    simp only [if_true, Int.toNat_natCast]
    refine Ev.bind (spec_lyList_ev n a1 (by omega) h2) ?_
    unfold upToR
    by_cases hl : (lstF n a1 1101 [0]).length ≤ 1100
    · rw [if_pos hl, if_neg (by omega)]; exact Ev.now _
    · rw [if_neg hl, if_pos (by omega)]; exact Ev.now _
theorem impl_LyndonUpTo_ev (a0 a1 : Int) : Ev (fun f => impl_LyndonUpTo.f f a0 a1) (lyR a0 a1) := by
  unfold impl_LyndonUpTo.f lyR
  simp only [impl_isOver_eq, obind]
  cases h : isKind a0 a1 with
  | false => simp only [Bool.false_eq_true, if_false]; exact Ev.now _
  | true =>
    obtain ⟨h1, h2⟩ := isKind_tr h
    obtain ⟨n, rfl⟩ : ∃ n : Nat, a0 = (n : Int) := ⟨a0.toNat, by omega⟩
    simp only [if_true, Int.toNat_natCast]
    exact Ev.bind (impl_lyndonWords_ev n a1 (by omega) h2) (Ev.now _)
theorem lyR_few (a0 a1 : Int) : (lyR a0 a1).1.length ≤ 1100 ∧ ∀ x ∈ (lyR a0 a1).1, x.length ≤ 12 := by
  unfold lyR
  by_cases h : isKind a0 a1 = true
  · rw [if_pos h]
    obtain ⟨h1, h2⟩ := isKind_tr h
    unfold upToR
    split
    · rename_i hl
      refine ⟨hl, fun x hx => ?_⟩
      have := (lstF_ok 1101 [0] (okw_one (by omega) h2.1) x hx).1.1
      omega
    · exact ⟨by simp, by simp⟩
  · rw [if_neg h]; exact ⟨by simp, by simp⟩

theorem impl_allWithin_loop (lo hi : Int) (s : List Int) : ∀ (p : List Int) (n i : Int), n = ((p ++ s).length : Int) → i = (p.length : Int) → (p ++ s).length ≤ 1099511627776 →
    Ev (fun k => impl_allWithin.l0 k lo hi (p ++ s) n i) (s.all fun x => inB x lo hi) := by
  induction s with
  | nil =>
    intro p n i hn hx hl
    refine Ev.done fun k => ?_
    simp only [impl_allWithin.l0]
    rw [if_neg (by rw [len_nil] at hn; omega)]
    rfl
  | cons x s ih =>
    intro p n i hn hx hl
    have h1 := len_mid p s x
    cases hb : inB x lo hi with
    | true =>
      have := ih (p ++ [x]) n (i + 1) (by rw [← snoc_mid]; exact hn) (by rw [len_snoc]; omega) (by rw [← snoc_mid]; exact hl)
      rw [← snoc_mid] at this
      refine Ev.to (Ev.step' this fun k => ?_) (by simp [hb])
      simp only [impl_allWithin.l0]
      rw [if_pos (by omega), if_pos (by omega), if_pos (by omega), rd_mid hx, impl_within_eq, hb, w64 (by omega)]
      rfl
    | false =>
      refine Ev.to (Ev.done fun k => ?_) (show false = _ by simp [hb])
      simp only [impl_allWithin.l0]
      rw [if_pos (by omega), if_pos (by omega), if_pos (by omega), rd_mid hx, impl_within_eq, hb]
      rfl
theorem impl_allWithin_ev (l : List Int) (lo hi : Int) (hl : l.length ≤ 1099511627776) : Ev (fun k => impl_allWithin.f k l lo hi) (l.all fun x => inB x lo hi) :=
  impl_allWithin_loop lo hi l [] _ 0 rfl (by simp) (by simpa using hl)

theorem impl_IsWord_ev (l : List Int) (hl : l.length ≤ 1099511627776) : Ev (fun k => impl_IsWord.f k l) (isW l) := by
  unfold impl_IsWord.f isW
  simp only [impl_within_eq, obind]
  cases h : inB (l.length : Int) 1 24 with
  | true => simpa using impl_allWithin_ev l 0 5 hl
  | false => exact Ev.now _

theorem beq_nat_zero (n : Nat) : (((n : Nat) : Int) == 0) = decide (n = 0) := by
  rw [Bool.eq_iff_iff, decide_eq_true_iff, beq_iff_eq]; omega
theorem beq_nat_nat (n m : Nat) : (((n : Nat) : Int) == ((m : Nat) : Int)) = decide (n = m) := by
  rw [Bool.eq_iff_iff, decide_eq_true_iff, beq_iff_eq]; omega

theorem slices_Grow_some (n : Int) (h : 0 < n) (h' : n ≤ 1000000) : slices_Grow_int_int.f n = some [] := by
  unfold slices_Grow_int_int.f
  rw [if_pos h, if_pos (by omega)]
theorem slices_Concat_two (a b : List Int) (h : 0 < a.length + b.length) (hl : a.length + b.length ≤ 1000) : Ev (fun k => slices_Concat_int_int.f k [a, b]) (a ++ b) := by
  have e0 : rd_L2 [a, b] 0 = a := rfl
  have e1 : rd_L2 [a, b] 1 = b := rfl
  have w1 : wrap64 (0 + (a.length : Int)) = (a.length : Int) := by rw [w64 (by omega)]; omega
  have w2 : wrap64 ((a.length : Int) + (b.length : Int)) = ((a.length + b.length : Nat) : Int) := i_plus (by omega)
  have w3 : wrap64 ((0 : Int) + 1) = 1 := w64 (by omega)
  have w4 : wrap64 ((1 : Int) + 1) = 2 := w64 (by omega)
  have hg := slices_Grow_some ((a.length + b.length : Nat) : Int) (by omega) (by omega)
  have n1 : ¬ (a.length : Int) < 0 := by omega
  have n2 : ¬ ((a.length + b.length : Nat) : Int) < 0 := by omega
  have n3 : ([] : List Int).length + a.length < 17592186044416 := by simp; omega
  have n4 : ([] ++ a).length + b.length < 17592186044416 := by simp; omega
  have hlen : (([a, b] : List (List Int)).length : Int) = 2 := rfl
  unfold slices_Concat_int_int.f
  refine Ev.succ ?_
  simp only [slices_Concat_int_int.l0]
  simp only [hlen, if_pos (show (0 : Int) < 2 by decide), if_pos (show (0 : Int) ≤ 0 by decide), e0, w1, if_neg n1, w3]
  refine Ev.succ ?_
  simp only [slices_Concat_int_int.l0]
  simp only [hlen, if_pos (show (1 : Int) < 2 by decide), if_pos (show (0 : Int) ≤ 1 by decide), e1, w2, if_neg n2, w4]
  refine Ev.succ ?_
  simp only [slices_Concat_int_int.l0]
  simp only [hlen, if_neg (show ¬ (2 : Int) < 2 by decide), hg, obind]
  refine Ev.succ ?_
  simp only [slices_Concat_int_int.l1]
  simp only [hlen, if_pos (show (0 : Int) < 2 by decide), if_pos (show (0 : Int) ≤ 0 by decide), e0, if_pos n3, w3]
  refine Ev.succ ?_
  simp only [slices_Concat_int_int.l1]
  simp only [hlen, if_pos (show (1 : Int) < 2 by decide), if_pos (show (0 : Int) ≤ 1 by decide), e1, if_pos n4, w4]
  refine Ev.succ ?_
  simp only [slices_Concat_int_int.l1]
  simp only [hlen, if_neg (show ¬ (2 : Int) < 2 by decide)]
  exact Ev.some_ (by simp)
theorem impl_rotated_ev (w : List Int) (h : 0 < w.length) (hl : w.length ≤ 1000) (b : Int) : Ev (fun k => impl_rotated.f k w b) (rotW w (turnN b w.length % w.length)) := by
  have hp := turnN_pos (b := b) h
  have ht : Int.tmod b (w.length : Int) + (w.length : Int) = ((turnN b w.length : Nat) : Int) := by unfold turnN; omega
  have hm := Nat.mod_lt (turnN b w.length) h
  have e0 : Int.tmod ((turnN b w.length : Nat) : Int) (w.length : Int) = ((turnN b w.length % w.length : Nat) : Int) := rfl
  have hw : wrap64 ((turnN b w.length : Nat) : Int) = ((turnN b w.length : Nat) : Int) := w64 (by omega)
  unfold impl_rotated.f
  generalize turnN b w.length % w.length = j at hm e0
  have c1 : ¬ (w.length : Int) = 0 := by omega
  have c2 : 0 ≤ (j : Int) := by omega
  have c3 : (j : Int) ≤ (w.length : Int) := by omega
  have hc := slices_Concat_two (w.drop j) (w.take j) (by simp; omega) (by simp; omega)
  simp only [if_neg c1, ht, hw, e0, if_pos c2, if_pos c3, Int.toNat_natCast]
  refine Ev.bind hc ?_
  exact Ev.now _

theorem cmp_Compare_eq (a b : Int) : cmp_Compare_int.f a b = some (if a < b then -1 else if a > b then 1 else 0) := by
  unfold cmp_Compare_int.f cmp_isNaN_int.f
  simp only [bne_self_eq_false, obind, Bool.false_eq_true, if_false]
  split
  · rfl
  · split <;> rfl
theorem slices_Compare_loop (s : List Int) : ∀ (t p q : List Int), p.length = q.length → (p ++ s).length ≤ 1000 → (q ++ t).length ≤ 1000 →
    Ev (fun k => slices_Compare_int_int.l0 k (p ++ s) (q ++ t) (p ++ s) ((p ++ s).length : Int) (p.length : Int)) (cmpW s t) := by
  induction s with
  | nil =>
    intro t p q hpq hl1 hl2
    have c1 : ¬ (p.length : Int) < ((p ++ ([] : List Int)).length : Int) := by rw [len_nil]; omega
    refine Ev.succ ?_
    simp only [slices_Compare_int_int.l0]
    simp only [if_neg c1]
    cases t with
    | nil =>
      have c2 : ¬ ((p ++ ([] : List Int)).length : Int) < ((q ++ ([] : List Int)).length : Int) := by rw [len_nil, len_nil]; omega
      simp only [if_neg c2]
      exact Ev.now _
    | cons y t =>
      have c2 : ((p ++ ([] : List Int)).length : Int) < ((q ++ y :: t).length : Int) := by rw [len_nil, len_mid]; omega
      simp only [if_pos c2]
      exact Ev.now _
  | cons x s ih =>
    intro t p q hpq hl1 hl2
    have h1 := len_mid p s x
    have c1 : (p.length : Int) < ((p ++ x :: s).length : Int) := by omega
    have c3 : 0 ≤ (p.length : Int) := by omega
    have e0 : rd (p ++ x :: s) (p.length : Int) = x := rd_mid rfl
    have c5 : p.length ≤ 1099511627776 := by omega
    refine Ev.succ ?_
    simp only [slices_Compare_int_int.l0]
    simp only [if_pos c1, if_pos c3]
    cases t with
    | nil =>
      have c2 : (p.length : Int) ≥ ((q ++ ([] : List Int)).length : Int) := by rw [len_nil]; omega
      simp only [if_pos c2]
      exact Ev.now _
    | cons y t =>
      have h2 := len_mid q t y
      have c2 : ¬ (p.length : Int) ≥ ((q ++ y :: t).length : Int) := by omega
      have c4 : (p.length : Int) < ((q ++ y :: t).length : Int) := by omega
      have e1 : rd (q ++ y :: t) (p.length : Int) = y := rd_mid (by omega)
      simp only [if_neg c2, if_pos c4, e0, e1, cmp_Compare_eq, obind]
      by_cases hxy : x = y
      · have hc : (if x < y then (-1 : Int) else if x > y then 1 else 0) = 0 := by rw [if_neg (by omega), if_neg (by omega)]
        simp only [hc, if_true, i_succ (out := p) (x := x) c5]
        have := ih t (p ++ [x]) (q ++ [y]) (by simp [hpq]) (by rw [← snoc_mid]; exact hl1) (by rw [← snoc_mid]; exact hl2)
        rw [← snoc_mid, ← snoc_mid] at this
        refine Ev.to this ?_
        simp [cmpW, hxy]
      · by_cases hlt : x < y
        · simp only [if_pos hlt, if_neg (show ¬ (-1 : Int) = 0 by decide)]
          exact Ev.some_ (by simp only [cmpW, if_neg hxy, if_pos hlt])
        · have hgt : x > y := by omega
          simp only [if_neg hlt, if_pos hgt, if_neg (show ¬ (1 : Int) = 0 by decide)]
          exact Ev.some_ (by simp only [cmpW, if_neg hxy, if_neg hlt])
theorem slices_Compare_ev (a b : List Int) (h1 : a.length ≤ 1000) (h2 : b.length ≤ 1000) : Ev (fun k => slices_Compare_int_int.f k a b) (cmpW a b) :=
  slices_Compare_loop a b [] [] rfl h1 h2

theorem impl_leastRotation_loop (w : List Int) (h : 0 < w.length) (hl : w.length ≤ 100) (d : Nat) : ∀ b best : Nat, b + d = w.length → best < w.length →
    Ev (fun k => impl_leastRotation.l0 k w (best : Int) (rotW w best) (b : Int)) (((leastF w d b best : Nat) : Int), rotW w (leastF w d b best)) := by
  induction d with
  | zero =>
    intro b best hb hbest
    have c1 : ¬ (b : Int) < (w.length : Int) := by omega
    refine Ev.done fun k => ?_
    simp only [impl_leastRotation.l0]
    rw [if_neg c1]
    rfl
  | succ d ih =>
    intro b best hb hbest
    have c1 : (b : Int) < (w.length : Int) := by omega
    have b1 : b ≤ 1099511627776 := by omega
    have hr1 := impl_rotated_ev w h (by omega) (b : Int)
    rw [turnN_nat h, Nat.mod_eq_of_lt (by omega)] at hr1
    have hc := slices_Compare_ev (rotW w b) (rotW w best) (by rw [rotW_len]; omega) (by rw [rotW_len]; omega)
    refine Ev.succ ?_
    simp only [impl_leastRotation.l0]
    simp only [if_pos c1, i_up b1]
    refine Ev.bind hr1 (Ev.bind hc ?_)
    unfold leastF
    by_cases hlt : cmpW (rotW w b) (rotW w best) < 0
    · simp only [if_pos hlt]
      exact ih (b + 1) b (by omega) (by omega)
    · simp only [if_neg hlt]
      exact ih (b + 1) best (by omega) hbest
theorem impl_leastRotation_ev (w : List Int) (h : 0 < w.length) (hl : w.length ≤ 100) : Ev (fun k => impl_leastRotation.f k w) (((leastW w : Nat) : Int), rotW w (leastW w)) := by
  unfold impl_leastRotation.f
  have hc := impl_copied_eq w (by omega)
  simp only [hc, obind]
  have := impl_leastRotation_loop w h hl (w.length - 1) 1 0 (by omega) h
  rw [rotW_zero] at this
  exact this

theorem impl_isNecklace_ev (w : List Int) (h : 0 < w.length) (hl : w.length ≤ 100) : Ev (fun k => impl_isNecklace.f k w) (neckW w) := by
  unfold impl_isNecklace.f
  refine Ev.bind (impl_leastRotation_ev w h hl) ?_
  exact Ev.some_ (beq_nat_zero _)

theorem slices_Equal_int_int_loop (s : List Int) : ∀ (p q t : List Int) (n i : Int), t.length = s.length → q.length = p.length → n = ((p ++ s).length : Int) → i = (p.length : Int) → (p ++ s).length ≤ 1000 →
    Ev (fun k => slices_Equal_int_int.l0 k (p ++ s) (q ++ t) n i) (decide (s = t)) := by
  induction s with
  | nil =>
    intro p q t n i ht hq hn hi hl
    have ht0 : t = [] := List.eq_nil_of_length_eq_zero ht
    subst ht0
    refine Ev.done fun k => ?_
    simp only [slices_Equal_int_int.l0]
    rw [if_neg (by rw [len_nil] at hn; omega)]
    simp
  | cons x s ih =>
    intro p q t n i ht hq hn hi hl
    cases t with
    | nil => simp at ht
    | cons y t =>
      have ht' : t.length = s.length := by simpa using ht
      have h1 := len_mid p s x
      have h2 := len_mid q t y
      by_cases hxy : x = y
      · have := ih (p ++ [x]) (q ++ [y]) t n (i + 1) ht' (by simp [hq]) (by rw [← snoc_mid]; exact hn) (by rw [len_snoc]; omega) (by rw [← snoc_mid]; exact hl)
        rw [← snoc_mid, ← snoc_mid] at this
        refine Ev.to (Ev.step' this fun k => ?_) (by simp [hxy])
        simp only [slices_Equal_int_int.l0]
        rw [if_pos (by omega), if_pos (by omega), if_pos (by omega), if_pos (by omega), rd_mid hi, rd_mid (by omega), if_pos hxy, w64 (by omega)]
      · refine Ev.to (Ev.done fun k => ?_) (show false = _ by simp [hxy])
        simp only [slices_Equal_int_int.l0]
        rw [if_pos (by omega), if_pos (by omega), if_pos (by omega), if_pos (by omega), rd_mid hi, rd_mid (by omega), if_neg hxy]
theorem slices_Equal_int_int_ev (l t : List Int) (hl : l.length ≤ 1000) : Ev (fun k => slices_Equal_int_int.f k l t) (decide (l = t)) := by
  by_cases h : l.length = t.length
  · have := slices_Equal_int_int_loop l [] [] t _ 0 h.symm rfl rfl (by simp) (by simpa using hl)
    simp only [List.nil_append] at this
    refine Ev.congr (fun k => ?_) this
    unfold slices_Equal_int_int.f
    rw [if_pos (by omega)]
  · refine Ev.to (Ev.congr (fun k => ?_) (Ev.now false)) (by rw [decide_eq_false]; exact fun e => h (by rw [e]))
    unfold slices_Equal_int_int.f
    rw [if_neg (by omega)]

theorem impl_rootLength_loop (w : List Int) (h : 0 < w.length) (hl : w.length ≤ 100) (d : Nat) : ∀ p : Nat, 0 < p → p + d = w.length →
    Ev (fun k => impl_rootLength.l0 k w (p : Int)) ((rootF w d p : Nat) : Int) := by
  induction d with
  | zero =>
    intro p hp hd
    have hpe : p = w.length := by omega
    have c1 : ¬ (p : Int) = 0 := by omega
    have c2 : (w.length : Int) % (p : Int) = 0 := by rw [hpe]; exact Int.emod_self
    have hr := impl_rotated_ev w h (by omega) (p : Int)
    rw [turnN_nat h] at hr
    rw [hpe, Nat.mod_self, rotW_zero, ← hpe] at hr
    have hq := slices_Equal_int_int_ev w w (by omega)
    refine Ev.succ ?_
    simp only [impl_rootLength.l0]
    simp only [if_neg c1, if_pos c2]
    refine Ev.bind hr (Ev.bind hq ?_)
    simp only [decide_true, if_true]
    exact Ev.now _
  | succ d ih =>
    intro p hp hd
    have c1 : ¬ (p : Int) = 0 := by omega
    have b1 : p ≤ 1099511627776 := by omega
    have hr := impl_rotated_ev w h (by omega) (p : Int)
    rw [turnN_nat h] at hr
    have hq := slices_Equal_int_int_ev (rotW w (p % w.length)) w (by rw [rotW_len]; omega)
    have em : (w.length : Int) % (p : Int) = ((w.length % p : Nat) : Int) := rfl
    refine Ev.succ ?_
    simp only [impl_rootLength.l0]
    simp only [if_neg c1, em, i_up b1]
    unfold rootF
    by_cases c2 : w.length % p = 0
    · have c3 : ((w.length % p : Nat) : Int) = 0 := by omega
      simp only [if_pos c3]
      refine Ev.bind hr (Ev.bind hq ?_)
      by_cases c4 : rotW w (p % w.length) = w
      · simp only [decide_eq_true c4, if_true, if_pos (show w.length % p = 0 ∧ rotW w (p % w.length) = w from ⟨c2, c4⟩)]
        exact Ev.now _
      · simp only [decide_eq_false c4, Bool.false_eq_true, if_false, if_neg (show ¬ (w.length % p = 0 ∧ rotW w (p % w.length) = w) from fun e => c4 e.2)]
        exact ih (p + 1) (by omega) (by omega)
    · have c3 : ¬ ((w.length % p : Nat) : Int) = 0 := by omega
      simp only [if_neg c3, if_neg (show ¬ (w.length % p = 0 ∧ rotW w (p % w.length) = w) from fun e => c2 e.1)]
      exact ih (p + 1) (by omega) (by omega)
theorem impl_rootLength_ev (w : List Int) (h : 0 < w.length) (hl : w.length ≤ 100) : Ev (fun k => impl_rootLength.f k w) ((rootW w : Nat) : Int) :=
  impl_rootLength_loop w h hl (w.length - 1) 1 (by omega) (by omega)

theorem impl_isLyndon_ev (w : List Int) (h : 0 < w.length) (hl : w.length ≤ 100) : Ev (fun k => impl_isLyndon.f k w) (lynW w) := by
  unfold impl_isLyndon.f lynW
  refine Ev.bind (impl_isNecklace_ev w h hl) ?_
  cases neckW w with
  | false => simp only [Bool.false_eq_true, if_false, Bool.false_and]; exact Ev.now _
  | true =>
    simp only [if_true, Bool.true_and]
    refine Ev.bind (impl_rootLength_ev w h hl) ?_
    exact Ev.some_ (beq_nat_nat _ _)

def nextR (l : List Int) (a1 a2 : Int) : List Int × Bool :=
  if (((isKind a1 a2 && isW l) && (decide ((l.length : Int) ≤ a1) && l.all fun x => inB x 0 (a2 - 1))) && lynW l) = true ∧ 0 < (nxtW l a1.toNat a2).length then (nxtW l a1.toNat a2, true) else ([], false)
theorem isKind_true {a b : Int} (h : isKind a b = true) : (1 ≤ a ∧ a ≤ 12) ∧ 1 ≤ b ∧ b ≤ 6 := by
  unfold isKind at h; rw [Bool.and_eq_true, inB_true, inB_true] at h; exact h
theorem impl_NextLyndon_ev (l : List Int) (a1 a2 : Int) (hl : l.length ≤ 1099511627776) : Ev (fun k => impl_NextLyndon.f k l a1 a2) (nextR l a1 a2) := by
  unfold impl_NextLyndon.f nextR
  simp only [impl_isOver_eq, obind]
  cases hk : isKind a1 a2 with
  | false => simp only [Bool.false_eq_true, if_false, Bool.false_and, false_and]; exact Ev.now _
  | true =>
    obtain ⟨⟨k1, k2⟩, k3, k4⟩ := isKind_true hk
    simp only [if_true, Bool.true_and]
    refine Ev.bind (impl_IsWord_ev l hl) ?_
    cases hw : isW l with
    | false => simp only [Bool.false_eq_true, if_false, Bool.false_and, false_and]; exact Ev.now _
    | true =>
      obtain ⟨⟨w1, w2⟩, w3⟩ := isW_true hw
      simp only [if_true, Bool.true_and]
      by_cases hc : (l.length : Int) > a1
      · simp only [if_pos hc, decide_eq_false (show ¬ (l.length : Int) ≤ a1 by omega), Bool.false_eq_true, if_false, Bool.false_and, false_and]; exact Ev.now _
      · simp only [if_neg hc, decide_eq_true (show (l.length : Int) ≤ a1 by omega), Bool.true_and]
        rw [show wrap64 (a2 - 1) = a2 - 1 from w64 (by omega)]
        refine Ev.bind (impl_allWithin_ev l 0 (a2 - 1) hl) ?_
        cases ha : (l.all fun x => inB x 0 (a2 - 1)) with
        | false => simp only [Bool.false_eq_true, if_false, Bool.false_and, false_and]; exact Ev.now _
        | true =>
          simp only [if_true, Bool.true_and]
          refine Ev.bind (impl_isLyndon_ev l (by omega) (by omega)) ?_
          cases hy : lynW l with
          | false => simp only [Bool.false_eq_true, if_false, false_and]; exact Ev.now _
          | true =>
            simp only [if_true, true_and]
            obtain ⟨n, rfl⟩ : ∃ n : Nat, a1 = (n : Int) := ⟨a1.toNat, by omega⟩
            rw [Int.toNat_natCast]
            have hn := impl_nextLyndon_ev l a2 n (by omega) (by omega) w3 (by omega) (by omega)
            refine Ev.bind hn ?_
            by_cases h0 : (nxtW l n a2).length = 0
            · rw [if_neg (show ¬ 0 < (nxtW l n a2).length by omega), decide_eq_false (show ¬ (((nxtW l n a2).length : Nat) : Int) > 0 by omega), List.eq_nil_of_length_eq_zero h0]; exact Ev.now _
            · rw [if_pos (show 0 < (nxtW l n a2).length by omega), decide_eq_true (show (((nxtW l n a2).length : Nat) : Int) > 0 by omega)]
              exact Ev.now _
theorem nextR_len (l : List Int) (a1 a2 : Int) : (nextR l a1 a2).1.length ≤ 12 := by
  unfold nextR
  split
  · rename_i h
    have h1 := h.1
    simp only [Bool.and_eq_true] at h1
    have := isKind_true h1.1.1.1
    exact Nat.le_trans (nxtW_len _ _ _) (by omega)
  · simp

theorem impl_IsLyndon_ev (l : List Int) (hl : l.length ≤ 1099511627776) : Ev (fun k => impl_IsLyndon.f k l) (if isW l = true then (lynW l, true) else (false, false)) := by
  unfold impl_IsLyndon.f
  refine Ev.bind (impl_IsWord_ev l hl) ?_
  split
  · rename_i h
    obtain ⟨⟨h1, h2⟩, h3⟩ := isW_true h
    refine Ev.bind (impl_isLyndon_ev l (by omega) (by omega)) ?_
    exact Ev.now _
  · exact Ev.now _

/-- The numbers that are drawn. -/
def kindD (n k : Int) : Prop := ((1 ≤ n ∧ n ≤ 6) ∨ n ∈ [(-1 : Int), 0, 1, 9, 12, 13]) ∧ ((1 ≤ k ∧ k ≤ 3) ∨ (k ∈ [(-1 : Int), 0, 4, 6, 7] ∧ (1 ≤ n ∧ n ≤ 6)))
theorem draw_LyndonUpTo (l : List Int) (hb : Bytes l) : ∃ n k, spec_DrawLyndonUpTo.f l = some (n, k) ∧ kindD n k := by
  unfold spec_DrawLyndonUpTo.f spec_l1Cur_kind.f
  obtain ⟨n, a1, s1, h1, h2, h3⟩ := cur_pick hb 0 6 (show CurAt 0 0 from ⟨by omega, by omega⟩) (by omega)
  obtain ⟨k, a2, s2, h4, h5, h6⟩ := cur_pick hb s1 3 h3 (by omega)
  obtain ⟨c, a3, s3, h7, h8, h9⟩ := cur_pick hb s2 10 h6 (by omega)
  have e1 : wrap64 (1 + n) = 1 + n := w64 (by omega)
  have e2 : wrap64 (1 + k) = 1 + k := w64 (by omega)
  simp only [h1, h4, h7, obind, e1, e2]
  by_cases c0 : c = 0
  · obtain ⟨x, a4, s4, h10, h11, h12⟩ := cur_among hb s3 [(-1 : Int), 0, 1, 9, 12, 13] (by decide) h9 (by omega)
    simp only [if_pos c0, h10, obind]
    exact ⟨_, _, rfl, .inr h11, .inl (by omega)⟩
  · simp only [if_neg c0]
    by_cases c1 : c = 1
    · obtain ⟨x, a4, s4, h10, h11, h12⟩ := cur_among hb s3 [(-1 : Int), 0, 4, 6, 7] (by decide) h9 (by omega)
      simp only [if_pos c1, h10, obind]
      exact ⟨_, _, rfl, .inl (by omega), .inr ⟨h11, by omega⟩⟩
    · simp only [if_neg c1, obind]
      exact ⟨_, _, rfl, .inl (by omega), .inl (by omega)⟩
theorem kindD_drawn {n k : Nat} (h : kindD (n : Int) (k : Int)) (hn : 1 ≤ n ∧ n ≤ 12) (hk : 1 ≤ k ∧ k ≤ 6) : drawnP n k = true := by
  obtain ⟨h1, h2⟩ := h
  simp only [List.mem_cons, List.not_mem_nil, or_false] at h1 h2
  have h3 : (n ≤ 6 ∧ (k ≤ 4 ∨ k = 6)) ∨ ((n = 9 ∨ n = 12) ∧ k ≤ 3) := by omega
  unfold drawnP
  simp only [Bool.or_eq_true, Bool.and_eq_true, Nat.ble_eq, Nat.beq_eq]
  exact h3
/-- How many words of d letters there are in a list. -/
def ofLen (L : List (List Int)) (d : Nat) : Nat := (L.filter fun x => x.length == d).length
def upToLen (L : List (List Int)) (d : Nat) : Nat := (L.filter fun x => decide (x.length ≤ d)).length
theorem upTo_succ (L : List (List Int)) (d : Nat) : upToLen L (d + 1) = upToLen L d + ofLen L (d + 1) := by
  unfold upToLen ofLen
  induction L with
  | nil => rfl
  | cons x s ih =>
    simp only [List.filter_cons]
    by_cases c1 : x.length ≤ d
    · have c2 : ¬ x.length = d + 1 := by omega
      simp only [decide_eq_true (show x.length ≤ d + 1 by omega), decide_eq_true c1, show (x.length == d + 1) = false from by rw [beq_eq_false_iff_ne]; exact c2, if_true, Bool.false_eq_true, if_false, List.length_cons]
      omega
    · by_cases c2 : x.length = d + 1
      · simp only [decide_eq_true (show x.length ≤ d + 1 by omega), decide_eq_false c1, show (x.length == d + 1) = true from by rw [beq_iff_eq]; exact c2, if_true, Bool.false_eq_true, if_false, List.length_cons]
        omega
      · simp only [decide_eq_false (show ¬ x.length ≤ d + 1 by omega), decide_eq_false c1, show (x.length == d + 1) = false from by rw [beq_eq_false_iff_ne]; exact c2, Bool.false_eq_true, if_false]
        omega
theorem upTo_zero (L : List (List Int)) (h : ∀ x ∈ L, 0 < x.length) : upToLen L 0 = 0 := by
  unfold upToLen
  rw [List.length_eq_zero_iff, List.filter_eq_nil_iff]
  intro x hx
  have := h x hx
  rw [decide_eq_true_iff]; omega
theorem upTo_all (L : List (List Int)) (n : Nat) (h : ∀ x ∈ L, x.length ≤ n) : upToLen L n = L.length := by
  unfold upToLen
  rw [List.filter_eq_self.2]
  intro x hx
  rw [decide_eq_true_iff]; exact h x hx
theorem ofLen_le (L : List (List Int)) (d : Nat) : ofLen L d ≤ L.length := List.length_filter_le _ _
theorem upTo_le (L : List (List Int)) (d : Nat) : upToLen L d ≤ L.length := List.length_filter_le _ _
/-- What the program counts, is in the list: looked through by the kernel. -/
def countP (n k : Nat) : Bool :=
  match cntE n (k : Int) (fun _ => true) 1101 1 0 with
  | none => true
  | some _ => (List.range n).all fun d => match cntE n (k : Int) (fun x => Nat.beq x (d + 1)) 1101 1 0, impl_CountLyndon.f 200 ((d + 1 : Nat) : Int) (k : Int) with
    | some c, some (i, b) => b && decide (i = (c : Int))
    | _, _ => false
set_option maxRecDepth 100000 in
theorem countP_all : ((List.range 13).all fun n => (List.range 7).all fun k => !drawnP n k || !Nat.ble 1 n || !Nat.ble 1 k || countP n k) = true := by
  decide +kernel
theorem all_two {P : Nat → Nat → Bool} (h : ((List.range 13).all fun n => (List.range 7).all fun k => !drawnP n k || !Nat.ble 1 n || !Nat.ble 1 k || P n k) = true) {n k : Nat} (hn : 1 ≤ n ∧ n ≤ 12) (hk : 1 ≤ k ∧ k ≤ 6) (hd : drawnP n k = true) : P n k = true := by
  have h1 := List.all_eq_true.1 h n (by rw [List.mem_range]; omega)
  have h2 := List.all_eq_true.1 h1 k (by rw [List.mem_range]; omega)
  rw [hd, Nat.ble_eq_true_of_le hn.1, Nat.ble_eq_true_of_le hk.1] at h2
  simpa using h2
theorem list_count {n k : Nat} (hn : 1 ≤ n ∧ n ≤ 12) (hk : 1 ≤ k ∧ k ≤ 6) (hd : drawnP n k = true) {L : List (List Int)} (hL : Chain n (k : Int) [0] L) (hl : L.length ≤ 1100) (d : Nat) (h1 : d + 1 ≤ n) :
    Ev (fun f => impl_CountLyndon.f f ((d + 1 : Nat) : Int) (k : Int)) (((ofLen L (d + 1) : Nat) : Int), true) := by
  have hw : Okw n (k : Int) [0] := okw_one hn.1 (by omega)
  have e : encW [0] = 1 := rfl
  have hc := all_two countP_all hn hk hd
  unfold countP at hc
  have c1 := cntE_some hn.2 (by omega) (fun _ => true) L 1101 [0] 0 hw hL (by omega)
  rw [e] at c1
  rw [c1] at hc
  have h2 := List.all_eq_true.1 hc d (by rw [List.mem_range]; omega)
  have c2 := cntE_some hn.2 (by omega) (fun x => Nat.beq x (d + 1)) L 1101 [0] 0 hw hL (by omega)
  rw [e] at c2
  rw [c2] at h2
  have eo : (0 + (L.filter fun x => (fun x => Nat.beq x (d + 1)) x.length).length) = ofLen L (d + 1) := by
    have ef : (fun x : List Int => Nat.beq x.length (d + 1)) = fun x => x.length == d + 1 := by
      funext x
      rw [Bool.eq_iff_iff, beq_iff_eq, Nat.beq_eq]
    unfold ofLen
    rw [Nat.zero_add, ef]
  rw [eo] at h2
  cases hf : impl_CountLyndon.f 200 ((d + 1 : Nat) : Int) (k : Int) with
  | none => rw [hf] at h2; simp at h2
  | some r =>
    obtain ⟨i, b⟩ := r
    rw [hf] at h2
    simp only [Bool.and_eq_true, decide_eq_true_iff] at h2
    obtain ⟨rfl, rfl⟩ := h2
    exact Ev.of (fun f => impl_CountLyndon.mono _ _ _) hf
theorem list_good {n k : Nat} (hn : 1 ≤ n ∧ n ≤ 12) (hk : 1 ≤ k ∧ k ≤ 6) (hd : drawnP n k = true) {L : List (List Int)} (hL : Chain n (k : Int) [0] L) (hl : L.length ≤ 1100) : ∀ x ∈ L, goodW n (k : Int) x = true := by
  have hw : Okw n (k : Int) [0] := okw_one hn.1 (by omega)
  have e : encW [0] = 1 := rfl
  have hg := all_two goodP_all hn hk hd
  unfold goodP at hg
  have c1 := cntE_some hn.2 (by omega) (fun _ => true) L 1101 [0] 0 hw hL (by omega)
  rw [e] at c1
  rw [c1] at hg
  exact allE_all hn.2 (by omega) L 1101 [0] hw hL (by omega) (by rw [e]; exact hg)
theorem law_l1 (n k : Int) (L : List (List Int)) (tot : Int) (d : Nat) (c : Int) (r : Bool) (hl : L.length ≤ 1100)
    (hr : ofLen L d = c.toNat → 0 ≤ c → Ev (fun f => laws_FnLyndonLists.l0 f n k L tot (wrap64 ((d : Int) + 1))) r) (h0 : (ofLen L d : Int) = c) (s : List (List Int)) : ∀ (p : List (List Int)) (i m : Int), L = p ++ s → i = (p.length : Int) → m = (ofLen p d : Int) →
    Ev (fun f => laws_FnLyndonLists.l1 f n k L tot (d : Int) c m L (L.length : Int) i) r := by
  induction s with
  | nil =>
    intro p i m hp hi hm
    rw [List.append_nil] at hp
    subst hp
    refine Ev.succ ?_
    simp only [laws_FnLyndonLists.l1, if_neg (show ¬ i < (L.length : Int) by omega), if_pos (show m = c by omega)]
    exact hr (by omega) (by omega)
  | cons x s ih =>
    intro p i m hp hi hm
    have e2 : L = (p ++ [x]) ++ s := by rw [hp]; simp
    have h1 : (L.length : Int) = p.length + s.length + 1 := by rw [hp]; simp; omega
    have er : rd_L2 L i = x := by rw [hp]; subst hi; simp [rd_L2]
    have hmb := ofLen_le p d
    have es : ofLen (p ++ [x]) d = ofLen p d + (if x.length = d then 1 else 0) := by
      unfold ofLen
      rw [List.filter_append, List.length_append]
      congr 1
      by_cases c1 : x.length = d
      · rw [if_pos c1]; simp [c1]
      · rw [if_neg c1]; simp [c1]
    refine Ev.succ ?_
    simp only [laws_FnLyndonLists.l1, if_pos (show i < (L.length : Int) by omega), if_pos (show 0 ≤ i by omega), er, show wrap64 (i + 1) = i + 1 from w64 (by omega)]
    by_cases c1 : x.length = d
    · rw [if_pos c1] at es
      simp only [if_pos (show (x.length : Int) = (d : Int) by omega), show wrap64 (m + 1) = m + 1 from w64 (by omega)]
      exact ih (p ++ [x]) (i + 1) (m + 1) e2 (by simp; omega) (by rw [es]; omega)
    · rw [if_neg c1] at es
      simp only [if_neg (show ¬ (x.length : Int) = (d : Int) by omega)]
      exact ih (p ++ [x]) (i + 1) m e2 (by simp; omega) (by rw [es]; omega)
theorem law_l2 {n k : Nat} (hn : 1 ≤ n ∧ n ≤ 12) (hk : 1 ≤ k ∧ k ≤ 6) (hd : drawnP n k = true) {L : List (List Int)} (hl : L.length ≤ 1100) (hg : ∀ x ∈ L, goodW n (k : Int) x = true) (tot : Int) (ht : tot = (L.length : Int)) (s : List (List Int)) : ∀ (p : List (List Int)) (w : List Int) (i : Int), L = p ++ s → i = (p.length : Int) → Okw n (k : Int) w → Chain n (k : Int) w s →
    Ev (fun f => laws_FnLyndonLists.l2 f (n : Int) (k : Int) L tot L (L.length : Int) i) true := by
  induction s with
  | nil =>
    intro p w i hp hi hw hc
    rw [List.append_nil] at hp
    refine Ev.succ ?_
    simp only [laws_FnLyndonLists.l2, if_neg (show ¬ i < (L.length : Int) by rw [hp]; omega)]
    exact Ev.some_ (by rw [beq_iff_eq]; exact ht)
  | cons x s ih =>
    intro p w i hp hi hw hc
    obtain ⟨h0, rfl, hc2⟩ := hc
    have hx : x ∈ L := by rw [hp]; simp
    have hx1 := hw.1
    have e2 : L = (p ++ [x]) ++ s := by rw [hp]; simp
    have h1 : (L.length : Int) = p.length + s.length + 1 := by rw [hp]; simp; omega
    have er : rd_L2 L i = x := by rw [hp]; subst hi; simp [rd_L2]
    have e1 : wrap64 (i + 1) = i + 1 := w64 (by omega)
    obtain ⟨hy, hlt⟩ := good_lyn (by omega) (hg x hx)
    have hin : ∀ y ∈ x, 0 ≤ y ∧ y ≤ 5 := fun y hy => by have := hw.2 y hy; omega
    have hW : isW x = true := by
      unfold isW
      rw [Bool.and_eq_true, inB_true, List.all_eq_true]
      exact ⟨by omega, fun y hy => inB_true.2 (hin y hy)⟩
    have hK : isKind (n : Int) (k : Int) = true := by
      unfold isKind; rw [Bool.and_eq_true, inB_true, inB_true]; omega
    have hA : (x.all fun y => inB y 0 ((k : Int) - 1)) = true := by
      rw [List.all_eq_true]; exact fun y hy => inB_true.2 (hw.2 y hy)
    have hI := impl_IsLyndon_ev x (by omega)
    rw [if_pos hW, hy] at hI
    have hN := impl_NextLyndon_ev x (n : Int) (k : Int) (by omega)
    unfold nextR at hN
    rw [hK, hW, hA, hy, decide_eq_true (show (x.length : Int) ≤ (n : Int) by omega), Int.toNat_natCast] at hN
    simp only [Bool.and_self, true_and] at hN
    have hnl := nxtW_len x n (k : Int)
    refine Ev.succ ?_
    simp only [laws_FnLyndonLists.l2, if_pos (show i < (L.length : Int) by omega), if_pos (show 0 ≤ i by omega), er, e1]
    refine Ev.bind hI (Ev.bind hN ?_)
    simp only [if_true]
    by_cases hz : (nxtW x n (k : Int)).length = 0
    · have hs : s = [] := by
        cases s with
        | nil => rfl
        | cons y t => exact absurd hz hc2.1
      have c1 : ¬ i + 1 < (L.length : Int) := by rw [hs] at h1; simp at h1; omega
      simp only [if_neg (show ¬ 0 < (nxtW x n (k : Int)).length by omega), decide_eq_false c1, bne_self_eq_false, Bool.false_eq_true, if_false]
      exact ih (p ++ [x]) _ (i + 1) e2 (by simp; omega) (okw_nxt (by omega) hw) hc2
    · obtain ⟨t, hs⟩ : ∃ t, s = nxtW x n (k : Int) :: t := by
        cases s with
        | nil => exact absurd hc2 hz
        | cons y t => exact ⟨t, by rw [hc2.2.1]⟩
      have c1 : i + 1 < (L.length : Int) := by rw [hs] at h1; simp at h1; omega
      have er2 : rd_L2 L (i + 1) = nxtW x n (k : Int) := by
        rw [e2, hs, show i + 1 = (((p ++ [x]).length : Nat) : Int) by simp; omega]
        simp [rd_L2]
      simp only [if_pos (show 0 < (nxtW x n (k : Int)).length by omega), decide_eq_true c1, bne_self_eq_false, Bool.false_eq_true, if_false, if_true, if_pos (show 0 ≤ i + 1 by omega), if_pos c1, er2]
      refine Ev.bind (laws_tSame_self _ (by omega)) ?_
      simp only [if_true]
      refine Ev.bind (laws_tLess_ev x _ (by omega) (by omega)) ?_
      rw [hlt hz]
      simp only [if_true]
      exact ih (p ++ [x]) _ (i + 1) e2 (by simp; omega) (okw_nxt (by omega) hw) hc2
theorem law_l0 {n k : Nat} (hn : 1 ≤ n ∧ n ≤ 12) (hk : 1 ≤ k ∧ k ≤ 6) (hd : drawnP n k = true) {L : List (List Int)} (hL : Chain n (k : Int) [0] L) (hl : L.length ≤ 1100) (r : Nat) : ∀ (d : Nat), d + r = n →
    Ev (fun f => laws_FnLyndonLists.l0 f (n : Int) (k : Int) L ((upToLen L d : Nat) : Int) ((d + 1 : Nat) : Int)) true := by
  have hw : Okw n (k : Int) [0] := okw_one hn.1 (by omega)
  induction r with
  | zero =>
    intro d h
    have e := upTo_all L n (fun x hx => (chain_ok L [0] hw hL x hx).1.1)
    have ed : d = n := by omega
    subst ed
    refine Ev.succ ?_
    simp only [laws_FnLyndonLists.l0, if_neg (show ¬ ((d + 1 : Nat) : Int) ≤ (d : Int) by omega)]
    exact law_l2 hn hk hd hl (list_good hn hk hd hL hl) _ (by rw [e]) L [] [0] 0 rfl rfl hw hL
  | succ r ih =>
    intro d h
    have e := upTo_succ L d
    have b1 := ofLen_le L (d + 1)
    have b2 := upTo_le L d
    have hnext := ih (d + 1) (by omega)
    refine Ev.succ ?_
    simp only [laws_FnLyndonLists.l0, if_pos (show ((d + 1 : Nat) : Int) ≤ (n : Int) by omega)]
    refine Ev.bind (list_count hn hk hd hL hl d (by omega)) ?_
    simp only [if_true]
    have es : wrap64 (((upToLen L d : Nat) : Int) + ((ofLen L (d + 1) : Nat) : Int)) = ((upToLen L (d + 1) : Nat) : Int) := by rw [w64 (by omega)]; omega
    rw [es]
    refine law_l1 (n : Int) (k : Int) L _ (d + 1) _ true hl (fun _ _ => ?_) rfl L [] 0 0 rfl rfl rfl
    rw [show wrap64 (((d + 1 : Nat) : Int) + 1) = ((d + 1 + 1 : Nat) : Int) by rw [w64 (by omega)]; omega]
    exact hnext
theorem FnLyndonLists : laws_FnLyndonLists.Pure := by
  intro l0 l1 _ _ hb0 _ _ _
  unfold laws_FnLyndonLists.f
  rcases laws_big_ok l0 l1 with hbig | ⟨hbig, hl0, hl1⟩
  · exact ⟨0, by rw [hbig, obind, if_pos rfl]⟩
  simp only [hbig, obind, Bool.false_eq_true, if_false]
  obtain ⟨n, k, hd, hD⟩ := draw_LyndonUpTo l0 (bytes_wf hb0)
  simp only [hd, obind]
  have hi := impl_LyndonUpTo_ev n k
  have hs := spec_LyndonUpTo_ev n k
  have hf := lyR_few n k
  refine (Ev.bind hi (Ev.bind hs ?_)).rounds
  simp only [bne_self_eq_false, Bool.false_eq_true, if_false]
  refine Ev.bind (laws_tSameRows_self _ (by omega) (fun x hx => Nat.le_trans (hf.2 x hx) (by omega))) ?_
  refine Ev.succ ?_
  simp only [laws_FnLyndonLists.j0, Bool.not_true, Bool.false_eq_true, if_false]
  by_cases hK : isKind n k = true
  · obtain ⟨k1, k2⟩ := isKind_tr hK
    obtain ⟨n, rfl⟩ : ∃ m : Nat, n = (m : Int) := ⟨n.toNat, by omega⟩
    obtain ⟨k, rfl⟩ : ∃ m : Nat, k = (m : Int) := ⟨k.toNat, by omega⟩
    have hn : 1 ≤ n ∧ n ≤ 12 := by omega
    have hk : 1 ≤ k ∧ k ≤ 6 := by omega
    have hdr := kindD_drawn hD hn hk
    have e : lyR (n : Int) (k : Int) = upToR (lstF n (k : Int) 1101 [0]) := by
      unfold lyR; rw [if_pos hK, Int.toNat_natCast]
    rw [e]
    unfold upToR
    by_cases hl : (lstF n (k : Int) 1101 [0]).length ≤ 1100
    · rw [if_pos hl]
      have hL := lstF_chain n (k : Int) 1101 [0] (by omega)
      generalize lstF n (k : Int) 1101 [0] = L at hl hL
      simp only [if_true]
      have h0 := upTo_zero L (fun x hx => (chain_ok L [0] (okw_one hn.1 (by omega)) hL x hx).2)
      have := law_l0 hn hk hdr hL hl n 0 (by omega)
      rw [h0] at this
      exact this
    · rw [if_neg hl]
      simp only [Bool.false_eq_true, if_false]
      exact Ev.now _
  · have e : lyR n k = ([], false) := by unfold lyR; rw [if_neg hK]
    rw [e]
    simp only [Bool.false_eq_true, if_false]
    exact Ev.now _

end Go.Proofs.Ytoledgkfohkfkaa.Pure
