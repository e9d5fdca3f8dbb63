/- A Lyndon word of at least two letters is made of two Lyndon words, the first one less than the second one; brackets have its letters: for all rows of bytes that code and more may be. -/
import Derived.Test.YtaaoeaojimjikaaHFnStandardFactorsx9
import Derived.Test.YtaaoeaojimjikaaCoreA
import Derived.Test.YtaaoeaojimjikaaCoreL
import Derived.Test.YtaaoeaojimjikaaCoreM
import Derived.Test.YtaaoeaojimjikaaCoreR
import Derived.Test.YtaaoeaojimjikaaCoreLy
import Derived.Test.YtaaoeaojimjikaaCoreBr
namespace Go.Proofs.Ytaaoeaojimjikaa.Pure
open Go.RowKit Go.Proofs.Ytaaoeaojimjikaa.HFnStandardFactors Go.Proofs.YtaaoeaojimjikaaW.PrintWords Go.Proofs.YtaaoeaojimjikaaW.PrintLast Go.Proofs.YtaaoeaojimjikaaW.PrintMore Go.Proofs.Ytaaoeaojimjikaa.Core
set_option linter.unusedVariables false
set_option linter.unusedSimpArgs false

theorem laws_big_ok (a b : List Int) : laws_big.f a b = some true ∨ (laws_big.f a b = some false ∧ a.length ≤ 1048576 ∧ b.length ≤ 1048576) := by
  unfold laws_big.f
  by_cases h : (a.length : Int) > 1048576
  · rw [if_pos h]; exact .inl rfl
  · rw [if_neg h, w64 (by omega)]
    by_cases h2 : (b.length : Int) > 1048576 - (a.length : Int)
    · rw [decide_eq_true h2]; exact .inl rfl
    · rw [decide_eq_false h2]; exact .inr ⟨rfl, by omega, by omega⟩

theorem laws_tSame_loop (s : List Int) : ∀ (p : List Int) (n i : Int), n = ((p ++ s).length : Int) → i = (p.length : Int) → (p ++ s).length ≤ 1099511627776 →
    Ev (fun k => laws_tSame.l0 k (p ++ s) (p ++ s) n i) true := by
  induction s with
  | nil =>
    intro p n i hn hi hl
    refine Ev.done fun k => ?_
    simp only [laws_tSame.l0]
    rw [if_neg (by rw [len_nil] at hn; omega)]
  | cons x s ih =>
    intro p n i hn hi hl
    have h1 := len_mid p s x
    have := ih (p ++ [x]) n (i + 1) (by rw [← snoc_mid]; exact hn) (by rw [len_snoc]; omega) (by rw [← snoc_mid]; exact hl)
    rw [← snoc_mid] at this
    refine Ev.step' this fun k => ?_
    simp only [laws_tSame.l0]
    rw [if_pos (by omega), if_pos (by omega), if_pos (by omega), if_pos (by omega), if_pos trivial, w64 (by omega)]
theorem laws_tSame_self (l : List Int) (hl : l.length ≤ 1099511627776) : Ev (fun k => laws_tSame.f k l l) true := by
  unfold laws_tSame.f
  simp only [if_true]
  exact laws_tSame_loop l [] _ 0 (by simp) (by simp) (by simpa using hl)

theorem laws_tLess_loop (s : List Int) : ∀ (t p : List Int) (i : Int), i = (p.length : Int) → (p ++ s).length ≤ 1099511627776 → (p ++ t).length ≤ 1099511627776 →
    Ev (fun k => laws_tLess.l0 k (p ++ s) (p ++ t) i) (lexLt s t) := by
  induction s with
  | nil =>
    intro t p i hi hl hl2
    have c1 : ¬ i < (((p ++ ([] : List Int)).length : Nat) : Int) := by rw [len_nil]; omega
    refine Ev.succ ?_
    simp only [laws_tLess.l0, if_neg c1]
    refine Ev.done fun k => ?_
    simp only [laws_tLess.j1, Bool.false_eq_true, if_false]
    cases t with
    | nil => simp [lexLt]
    | cons y t => simp [lexLt]; omega
  | cons x s ih =>
    intro t p i hi hl hl2
    have h1 := len_mid p s x
    have c1 : i < (((p ++ x :: s).length : Nat) : Int) := by omega
    refine Ev.succ ?_
    simp only [laws_tLess.l0, if_pos c1]
    cases t with
    | nil =>
      have c2 : ¬ i < (((p ++ ([] : List Int)).length : Nat) : Int) := by rw [len_nil]; omega
      refine Ev.done fun k => ?_
      simp only [decide_eq_false c2, laws_tLess.j1, Bool.false_eq_true, if_false]
      simp [lexLt]; omega
    | cons y t =>
      have h2 := len_mid p t y
      have c2 : i < (((p ++ y :: t).length : Nat) : Int) := by omega
      have c3 : 0 ≤ i := by omega
      refine Ev.succ ?_
      simp only [decide_eq_true c2, laws_tLess.j1, if_true, if_pos c3, if_pos c1, if_pos c2, rd_mid (p := p) (s := s) (x := x) hi, rd_mid (p := p) (s := t) (x := y) hi]
      unfold lexLt
      by_cases e : x = y
      · subst e
        have := ih t (p ++ [x]) (i + 1) (by rw [len_snoc]; omega) (by rw [← snoc_mid]; exact hl) (by rw [← snoc_mid]; exact hl2)
        rw [← snoc_mid, ← snoc_mid] at this
        simp only [if_true, w64 (show -9223372036854775808 ≤ i + 1 ∧ i + 1 ≤ 9223372036854775807 by omega)]
        exact this
      · simp only [if_neg e]
        exact Ev.now _
theorem laws_tLess_ev (a b : List Int) (ha : a.length ≤ 1099511627776) (hb : b.length ≤ 1099511627776) : Ev (fun k => laws_tLess.f k a b) (lexLt a b) :=
  laws_tLess_loop a b [] 0 (by simp) (by simpa using ha) (by simpa using hb)

/-! ### the reader of draws: it tells a number always -/
theorem and255 (E : Int) (h0 : 0 ≤ E) (h1 : E ≤ 18446744073709551615) : 0 ≤ Go.bits .and .u64 E 255 ∧ Go.bits .and .u64 E 255 ≤ 255 := by
  have h := Go.bits_and_u64_nat E.toNat 255 (by omega) (by omega)
  rw [Int.toNat_of_nonneg h0] at h
  have h2 : E.toNat &&& 255 ≤ 255 := Nat.and_le_right
  have h3 : Go.bits .and .u64 E 255 = ((E.toNat &&& 255 : Nat) : Int) := h
  omega
theorem u64_in (n : Int) : 0 ≤ IntKind.u64.wrap n ∧ IntKind.u64.wrap n ≤ 18446744073709551615 := by
  have e : IntKind.u64.wrap n = n % 18446744073709551616 := rfl
  rw [e]; omega
theorem draw_in (n : Int) : 0 ≤ wrap64 (Go.bits .and .u64 (IntKind.u64.wrap n / 1099511627776) 255) ∧ wrap64 (Go.bits .and .u64 (IntKind.u64.wrap n / 1099511627776) 255) ≤ 255 := by
  have h := u64_in n
  have h2 := and255 (IntKind.u64.wrap n / 1099511627776) (by omega) (by omega)
  rw [w64 (by omega)]; exact h2
def Bytes (l : List Int) : Prop := ∀ x ∈ l, 0 ≤ x ∧ x ≤ 255
theorem bytes_wf {l : List Int} (h : ∀ x ∈ l, (Lit.int .u8 x).wf = true) : Bytes l := by
  intro x hx
  have h1 := h x hx
  unfold Lit.wf at h1
  rw [Bool.and_eq_true, decide_eq_true_iff, decide_eq_true_iff] at h1
  exact h1
def CurAt (m : Nat) (a : Int) : Prop := (0 ≤ a ∧ a ≤ (m : Int)) ∧ m ≤ 1152921504606846976
theorem CurAt.mono {m n : Nat} {a : Int} (h : CurAt m a) (hn : m ≤ n) (hm : n ≤ 1152921504606846976) : CurAt n a := by
  obtain ⟨⟨h1, h2⟩, h3⟩ := h
  exact ⟨⟨h1, by omega⟩, hm⟩
theorem cur_next {l : List Int} (hb : Bytes l) {m : Nat} {a : Int} (s : Int) (h : CurAt m a) (hm : m < 1152921504606846976) :
    ∃ b a' s', spec_l1Cur_next.f l a s = some (b, a', s') ∧ (0 ≤ b ∧ b ≤ 255) ∧ CurAt (m + 1) a' := by
  obtain ⟨⟨h1, h2⟩, _⟩ := h
  have e : wrap64 (a + 1) = a + 1 := w64 (by omega)
  unfold spec_l1Cur_next.f
  rw [e]
  by_cases c1 : a < (l.length : Int)
  · have hr := hb _ (rd_mem h1 c1)
    rw [if_pos c1, if_pos h1, w64 (n := rd l a) (by omega)]
    by_cases c2 : a + 1 ≤ (l.length : Int)
    · rw [if_pos c2]; exact ⟨_, _, _, rfl, hr, ⟨by omega, by omega⟩, by omega⟩
    · rw [if_neg c2]; exact ⟨_, _, _, rfl, draw_in _, ⟨by omega, by omega⟩, by omega⟩
  · rw [if_neg c1]
    by_cases c2 : a + 1 ≤ (l.length : Int)
    · rw [if_pos c2]; exact ⟨_, _, _, rfl, ⟨by omega, by omega⟩, ⟨by omega, by omega⟩, by omega⟩
    · rw [if_neg c2]; exact ⟨_, _, _, rfl, draw_in _, ⟨by omega, by omega⟩, by omega⟩
theorem tmod_in {b n : Int} (hb : 0 ≤ b) (hn : 1 < n) : 0 ≤ Int.tmod b n ∧ Int.tmod b n < n := by
  obtain ⟨c, rfl⟩ : ∃ c : Nat, b = (c : Int) := ⟨b.toNat, by omega⟩
  obtain ⟨k, rfl⟩ : ∃ k : Nat, n = (k : Int) := ⟨n.toNat, by omega⟩
  have e : Int.tmod (c : Int) (k : Int) = ((c % k : Nat) : Int) := rfl
  have := Nat.mod_lt c (show 0 < k by omega)
  rw [e]; omega
theorem cur_pick {l : List Int} (hb : Bytes l) {m : Nat} {a : Int} (s n : Int) (h : CurAt m a) (hm : m + 2 ≤ 1152921504606846976) :
    ∃ x a' s', spec_l1Cur_pick.f l a s n = some (x, a', s') ∧ (0 ≤ x ∧ x ≤ max (n - 1) 0) ∧ CurAt (m + 2) a' := by
  unfold spec_l1Cur_pick.f
  by_cases c1 : n ≤ 1
  · rw [if_pos c1]; exact ⟨_, _, _, rfl, ⟨by omega, by omega⟩, h.mono (by omega) (by omega)⟩
  · rw [if_neg c1]
    obtain ⟨b, a1, s1, h1, h2, h3⟩ := cur_next hb s h (by omega)
    rw [h1, obind]
    simp only
    have c0 : ¬ n = 0 := by omega
    by_cases c2 : n > 200
    · rw [if_pos c2]
      obtain ⟨b2, a2, s2, h4, h5, h6⟩ := cur_next hb s1 h3 (by omega)
      rw [h4, obind, if_neg c0]
      simp only
      rw [w64 (n := b * 256) (by omega), w64 (n := b * 256 + b2) (by omega)]
      have := tmod_in (b := b * 256 + b2) (n := n) (by omega) (by omega)
      exact ⟨_, _, _, rfl, ⟨by omega, by omega⟩, h6⟩
    · rw [if_neg c2, if_neg c0]
      have := tmod_in (b := b) (n := n) (by omega) (by omega)
      exact ⟨_, _, _, rfl, ⟨by omega, by omega⟩, h3.mono (by omega) (by omega)⟩

theorem cur_one {l : List Int} (hb : Bytes l) {m : Nat} {a : Int} (s n : Int) (h : CurAt m a) (hm : m + 2 ≤ 1152921504606846976) :
    ∃ x a' s', spec_l1Cur_one.f l a s n = some (x, a', s') ∧ CurAt (m + 2) a' := by
  unfold spec_l1Cur_one.f
  obtain ⟨b, a1, s1, h1, h2, h3⟩ := cur_pick hb s n h hm
  rw [h1, obind]
  exact ⟨_, _, _, rfl, h3⟩

theorem cur_among {l : List Int} (hb : Bytes l) {m : Nat} {a : Int} (s : Int) (L : List Int) (hL : 0 < L.length) (h : CurAt m a) (hm : m + 2 ≤ 1152921504606846976) :
    ∃ x a' s', spec_l1Cur_among.f l a s L = some (x, a', s') ∧ x ∈ L ∧ CurAt (m + 2) a' := by
  unfold spec_l1Cur_among.f
  obtain ⟨b, a1, s1, h1, h2, h3⟩ := cur_pick hb s (L.length : Int) h hm
  rw [h1, obind]
  simp only
  have c1 : b < (L.length : Int) := by omega
  rw [if_pos h2.1, if_pos c1]
  exact ⟨_, _, _, rfl, rd_mem h2.1 c1, h3⟩

theorem cur_letters_loop {l : List Int} (hb : Bytes l) (n : Int) (d : Nat) : ∀ (w : List Int) (m : Nat) (a s : Int), 1 ≤ w.length + d → w.length + d ≤ 25 → CurAt m a → m + 2 * d + 10 ≤ 1152921504606846976 →
    ∃ r a' s', Ev (fun k => spec_l1Cur_letters.l0 k n w (d : Int) l a s) (r, a', s') ∧ r.length ≤ 50 ∧ CurAt (m + 2 * d + 10) a' := by
  induction d with
  | zero =>
    intro w m a s hw1 hw hc hm
    have c0 : ¬ ((0 : Nat) : Int) > 0 := by omega
    obtain ⟨x, a1, s1, h1, h2, h3⟩ := cur_pick hb s 12 hc (by omega)
    by_cases c1 : x = 0
    · have cl : w.length + w.length < 17592186044416 := by omega
      refine ⟨w ++ w, a1, s1, Ev.done fun k => ?_, by simp; omega, h3.mono (by omega) (by omega)⟩
      simp only [spec_l1Cur_letters.l0, if_neg c0, h1, obind, if_pos c1, if_pos cl]
    · by_cases c2 : x = 1
      · obtain ⟨y, a2, s2, h4, h5, h6⟩ := cur_pick hb s1 (w.length : Int) h3 (by omega)
        obtain ⟨z, a3, s3, h7, h8, h9⟩ := cur_among hb s2 [(-1), 0, 5, 6] (by simp) h6 (by omega)
        have c3 : y < (w.length : Int) := by omega
        refine ⟨w.set y.toNat z, a3, s3, Ev.done fun k => ?_, by simp; omega, h9.mono (by omega) (by omega)⟩
        simp only [spec_l1Cur_letters.l0, if_neg c0, h1, obind, if_neg c1, if_pos c2, h4, h7, if_pos h5.1, if_pos c3]
      · by_cases c3 : x = 2
        · obtain ⟨b, a2, s2, h4, h5⟩ := cur_one hb s1 2 h3 (by omega)
          cases b with
          | true =>
            refine ⟨[], a2, s2, Ev.done fun k => ?_, by simp, h5.mono (by omega) (by omega)⟩
            simp only [spec_l1Cur_letters.l0, if_neg c0, h1, obind, if_neg c1, if_neg c2, if_pos c3, h4, if_true]
          | false =>
            refine ⟨w, a2, s2, Ev.done fun k => ?_, by omega, h5.mono (by omega) (by omega)⟩
            simp only [spec_l1Cur_letters.l0, if_neg c0, h1, obind, if_neg c1, if_neg c2, if_pos c3, h4, Bool.false_eq_true, if_false]
        · refine ⟨w, a1, s1, Ev.done fun k => ?_, by omega, h3.mono (by omega) (by omega)⟩
          simp only [spec_l1Cur_letters.l0, if_neg c0, h1, obind, if_neg c1, if_neg c2, if_neg c3]
  | succ d ih =>
    intro w m a s hw1 hw hc hm
    have c0 : ((d + 1 : Nat) : Int) > 0 := by omega
    have cl : w.length < 17592186044416 := by omega
    obtain ⟨x, a1, s1, h1, h2, h3⟩ := cur_pick hb s n hc (by omega)
    obtain ⟨r, a', s', h4, h5, h6⟩ := ih (w ++ [x]) (m + 2) a1 s1 (by simp; omega) (by simp; omega) h3 (by omega)
    refine ⟨r, a', s', Ev.succ ?_, h5, h6.mono (by omega) (by omega)⟩
    simp only [spec_l1Cur_letters.l0, if_pos c0, h1, obind, if_pos cl, i_down (show d ≤ 1099511627776 by omega)]
    exact h4
theorem cur_letters {l : List Int} (hb : Bytes l) (n : Int) {m : Nat} {a : Int} (s : Int) (h : CurAt m a) (hm : m + 100 ≤ 1152921504606846976) :
    ∃ w a' s', Ev (fun k => spec_l1Cur_letters.f k l a s n) (w, a', s') ∧ w.length ≤ 50 ∧ CurAt (m + 100) a' := by
  unfold spec_l1Cur_letters.f
  obtain ⟨x, a1, s1, h1, h2, h3⟩ := cur_pick hb s 8 h (by omega)
  obtain ⟨b, a2, s2, h4, h5⟩ := cur_one hb s1 16 h3 (by omega)
  simp only [h1, obind, h4]
  cases b with
  | true =>
    obtain ⟨y, a3, s3, h6, h7, h8⟩ := cur_pick hb s2 2 h5 (by omega)
    obtain ⟨d, hd⟩ : ∃ d : Nat, 24 + y = (d : Int) := ⟨(24 + y).toNat, by omega⟩
    obtain ⟨r, a4, s4, h9, h10, h11⟩ := cur_letters_loop hb n d [] _ _ s3 (by simp; omega) (by simp; omega) h8 (by omega)
    refine ⟨r, a4, s4, ?_, h10, h11.mono (by omega) (by omega)⟩
    simp only [if_true, h6, obind]
    refine Ev.succ ?_
    simp only [spec_l1Cur_letters.j0, show wrap64 (24 + y) = (d : Int) by rw [w64 (by omega)]; exact hd]
    exact h9
  | false =>
    obtain ⟨d, hd⟩ : ∃ d : Nat, 1 + x = (d : Int) := ⟨(1 + x).toNat, by omega⟩
    obtain ⟨r, a4, s4, h9, h10, h11⟩ := cur_letters_loop hb n d [] _ _ s2 (by simp; omega) (by simp; omega) h5 (by omega)
    refine ⟨r, a4, s4, ?_, h10, h11.mono (by omega) (by omega)⟩
    simp only [Bool.false_eq_true, if_false]
    refine Ev.succ ?_
    simp only [spec_l1Cur_letters.j0, show wrap64 (1 + x) = (d : Int) by rw [w64 (by omega)]; exact hd]
    exact h9

theorem spec_l1Own_eq (l : List Int) (hl : l.length ≤ 1000000) : spec_l1Own.f l = some l := by
  unfold spec_l1Own.f
  rw [obind, if_pos (by simp; omega), List.nil_append]

theorem spec_l1In_eq (a b c : Int) : spec_l1In.f a b c = some (inB a b c) := inB_ite a b c

theorem spec_l1All_loop (lo hi : Int) (s : List Int) : ∀ (p : List Int) (n i : Int), n = ((p ++ s).length : Int) → i = (p.length : Int) → (p ++ s).length ≤ 1099511627776 →
    Ev (fun k => spec_l1All.l0 k lo hi (p ++ s) n i) (s.all fun x => inB x lo hi) := by
  induction s with
  | nil =>
    intro p n i hn hx hl
    refine Ev.done fun k => ?_
    simp only [spec_l1All.l0]
    rw [if_neg (by rw [len_nil] at hn; omega)]
    rfl
  | cons x s ih =>
    intro p n i hn hx hl
    have h1 := len_mid p s x
    cases hb : inB x lo hi with
    | true =>
      have := ih (p ++ [x]) n (i + 1) (by rw [← snoc_mid]; exact hn) (by rw [len_snoc]; omega) (by rw [← snoc_mid]; exact hl)
      rw [← snoc_mid] at this
      refine Ev.to (Ev.step' this fun k => ?_) (by simp [hb])
      simp only [spec_l1All.l0]
      rw [if_pos (by omega), if_pos (by omega), if_pos (by omega), rd_mid hx, spec_l1In_eq, hb, w64 (by omega)]
      rfl
    | false =>
      refine Ev.to (Ev.done fun k => ?_) (show false = _ by simp [hb])
      simp only [spec_l1All.l0]
      rw [if_pos (by omega), if_pos (by omega), if_pos (by omega), rd_mid hx, spec_l1In_eq, hb]
      rfl
theorem spec_l1All_ev (l : List Int) (lo hi : Int) (hl : l.length ≤ 1099511627776) : Ev (fun k => spec_l1All.f k l lo hi) (l.all fun x => inB x lo hi) :=
  spec_l1All_loop lo hi l [] _ 0 rfl (by simp) (by simpa using hl)

theorem spec_lyWord_ev (l : List Int) (hl : l.length ≤ 1099511627776) : Ev (fun k => spec_lyWord.f k l) (isW l) := by
  unfold spec_lyWord.f isW
  simp only [spec_l1In_eq, obind]
  cases h : inB (l.length : Int) 1 24 with
  | true => simpa using spec_l1All_ev l 0 5 hl
  | false => exact Ev.now _

theorem impl_within_eq (a b c : Int) : impl_within.f a b c = some (inB a b c) := inB_ite a b c

theorem impl_allWithin_loop (lo hi : Int) (s : List Int) : ∀ (p : List Int) (n i : Int), n = ((p ++ s).length : Int) → i = (p.length : Int) → (p ++ s).length ≤ 1099511627776 →
    Ev (fun k => impl_allWithin.l0 k lo hi (p ++ s) n i) (s.all fun x => inB x lo hi) := by
  induction s with
  | nil =>
    intro p n i hn hx hl
    refine Ev.done fun k => ?_
    simp only [impl_allWithin.l0]
    rw [if_neg (by rw [len_nil] at hn; omega)]
    rfl
  | cons x s ih =>
    intro p n i hn hx hl
    have h1 := len_mid p s x
    cases hb : inB x lo hi with
    | true =>
      have := ih (p ++ [x]) n (i + 1) (by rw [← snoc_mid]; exact hn) (by rw [len_snoc]; omega) (by rw [← snoc_mid]; exact hl)
      rw [← snoc_mid] at this
      refine Ev.to (Ev.step' this fun k => ?_) (by simp [hb])
      simp only [impl_allWithin.l0]
      rw [if_pos (by omega), if_pos (by omega), if_pos (by omega), rd_mid hx, impl_within_eq, hb, w64 (by omega)]
      rfl
    | false =>
      refine Ev.to (Ev.done fun k => ?_) (show false = _ by simp [hb])
      simp only [impl_allWithin.l0]
      rw [if_pos (by omega), if_pos (by omega), if_pos (by omega), rd_mid hx, impl_within_eq, hb]
      rfl
theorem impl_allWithin_ev (l : List Int) (lo hi : Int) (hl : l.length ≤ 1099511627776) : Ev (fun k => impl_allWithin.f k l lo hi) (l.all fun x => inB x lo hi) :=
  impl_allWithin_loop lo hi l [] _ 0 rfl (by simp) (by simpa using hl)

theorem impl_IsWord_ev (l : List Int) (hl : l.length ≤ 1099511627776) : Ev (fun k => impl_IsWord.f k l) (isW l) := by
  unfold impl_IsWord.f isW
  simp only [impl_within_eq, obind]
  cases h : inB (l.length : Int) 1 24 with
  | true => simpa using impl_allWithin_ev l 0 5 hl
  | false => exact Ev.now _

theorem beq_nat_zero (n : Nat) : (((n : Nat) : Int) == 0) = decide (n = 0) := by
  rw [Bool.eq_iff_iff, decide_eq_true_iff, beq_iff_eq]; omega
theorem beq_nat_nat (n m : Nat) : (((n : Nat) : Int) == ((m : Nat) : Int)) = decide (n = m) := by
  rw [Bool.eq_iff_iff, decide_eq_true_iff, beq_iff_eq]; omega

theorem spec_lyRotate_loop (w : List Int) (h : 0 < w.length) (hl : w.length ≤ 1000) (b : Nat) (hb : b ≤ 100000) (d : Nat) : ∀ i : Nat, i + d = w.length →
    Ev (fun k => spec_lyRotate.l0 k w (b : Int) ((List.range i).map fun t => w.getD ((t + b) % w.length) 0) (w.length : Int) (i : Int)) ((List.range w.length).map fun t => w.getD ((t + b) % w.length) 0) := by
  induction d with
  | zero =>
    intro i hi
    have : i = w.length := by omega
    subst this
    refine Ev.succ ?_
    simp only [spec_lyRotate.l0]
    simp only [if_neg (show ¬ (w.length : Int) < (w.length : Int) by omega)]
    exact Ev.now _
  | succ d ih =>
    intro i hi
    have hm := Nat.mod_lt (i + b) h
    have c1 : (i : Int) < (w.length : Int) := by omega
    have c2 : ¬ (w.length : Int) = 0 := by omega
    have e0 : Int.tmod ((i + b : Nat) : Int) (w.length : Int) = (((i + b) % w.length : Nat) : Int) := rfl
    have c3 : 0 ≤ (((i + b) % w.length : Nat) : Int) := by omega
    have c4 : (((i + b) % w.length : Nat) : Int) < (w.length : Int) := by omega
    have c5 : ((List.range i).map fun t => w.getD ((t + b) % w.length) 0).length < 17592186044416 := by simp; omega
    have b1 : i + b ≤ 9007199254740992 := by omega
    have b2 : i ≤ 1099511627776 := by omega
    have hih := ih (i + 1) (by omega)
    rw [List.range_succ, List.map_append, List.map_singleton] at hih
    refine Ev.succ ?_
    simp only [spec_lyRotate.l0]
    simp only [if_pos c1, if_neg c2, i_plus b1, e0, if_pos c3, if_pos c4, if_pos c5, i_up b2]
    exact hih
theorem spec_lyRotate_ev (w : List Int) (h : 0 < w.length) (hl : w.length ≤ 1000) (b : Nat) (hb : b ≤ 100000) : Ev (fun k => spec_lyRotate.f k w (b : Int)) (rotW w (b % w.length)) := by
  rw [← rot_eq w b h]
  exact spec_lyRotate_loop w h hl b hb w.length 0 (by omega)

theorem spec_l1Sign_eq (a : Int) : spec_l1Sign.f a = some (if a > 0 then 1 else if a < 0 then -1 else 0) := by
  unfold spec_l1Sign.f
  split
  · rfl
  · split <;> rfl
theorem spec_lyCompare_loop (s : List Int) : ∀ (t p q : List Int), p.length = q.length → (∀ x ∈ s, 0 ≤ x ∧ x ≤ 5) → (∀ x ∈ t, 0 ≤ x ∧ x ≤ 5) → (p ++ s).length ≤ 1000 → (q ++ t).length ≤ 1000 →
    Ev (fun k => spec_lyCompare.l0 k (p ++ s) (q ++ t) (p.length : Int)) (cmpW s t) := by
  induction s with
  | nil =>
    intro t p q hpq hs ht hl1 hl2
    have c1 : ¬ (p.length : Int) < ((p ++ ([] : List Int)).length : Int) := by rw [len_nil]; omega
    refine Ev.succ ?_
    simp only [spec_lyCompare.l0]
    simp only [if_neg c1]
    refine Ev.succ ?_
    simp only [spec_lyCompare.j1, Bool.false_eq_true, if_false]
    have e : ((p ++ ([] : List Int)).length : Int) - ((q ++ t).length : Int) = -(t.length : Int) := by rw [len_nil, len_app]; omega
    have hw : wrap64 (-(t.length : Int)) = -(t.length : Int) := by rw [List.length_append] at hl2; exact w64 (by omega)
    simp only [e, hw, spec_l1Sign_eq, obind]
    refine Ev.some_ ?_
    cases t with
    | nil => rfl
    | cons y t =>
      have h1 : ((y :: t).length : Int) = t.length + 1 := by simp
      simp only [cmpW, h1]
      rw [if_neg (by omega), if_pos (by omega)]
  | cons x s ih =>
    intro t p q hpq hs ht hl1 hl2
    have h1 := len_mid p s x
    have c1 : (p.length : Int) < ((p ++ x :: s).length : Int) := by omega
    refine Ev.succ ?_
    simp only [spec_lyCompare.l0]
    simp only [if_pos c1]
    cases t with
    | nil =>
      have c2 : decide ((p.length : Int) < ((q ++ ([] : List Int)).length : Int)) = false := decide_eq_false (by rw [len_nil]; omega)
      simp only [c2]
      refine Ev.succ ?_
      simp only [spec_lyCompare.j1, Bool.false_eq_true, if_false]
      have e : ((p ++ x :: s).length : Int) - ((q ++ ([] : List Int)).length : Int) = (s.length : Int) + 1 := by rw [len_nil]; omega
      have hw : wrap64 ((s.length : Int) + 1) = (s.length : Int) + 1 := by exact w64 (by omega)
      simp only [e, hw, spec_l1Sign_eq, obind]
      refine Ev.some_ ?_
      simp only [cmpW]
      rw [if_pos (by omega)]
    | cons y t =>
      have h2 := len_mid q t y
      have c2 : decide ((p.length : Int) < ((q ++ y :: t).length : Int)) = true := decide_eq_true (by omega)
      have c3 : 0 ≤ (p.length : Int) := by omega
      have c4 : (p.length : Int) < ((q ++ y :: t).length : Int) := by omega
      have e0 : rd (p ++ x :: s) (p.length : Int) = x := rd_mid rfl
      have e1 : rd (q ++ y :: t) (p.length : Int) = y := rd_mid (by omega)
      have c5 : p.length ≤ 1099511627776 := by omega
      have hx := hs x (List.mem_cons_self ..)
      have hy := ht y (List.mem_cons_self ..)
      simp only [c2]
      refine Ev.succ ?_
      simp only [spec_lyCompare.j1, if_true]
      simp only [if_pos c3, if_pos c1, if_pos c4, e0, e1]
      by_cases hxy : x = y
      · simp only [if_pos hxy, i_succ (out := p) (x := x) c5]
        have := ih t (p ++ [x]) (q ++ [y]) (by simp [hpq]) (fun z hz => hs z (List.mem_cons_of_mem _ hz)) (fun z hz => ht z (List.mem_cons_of_mem _ hz)) (by rw [← snoc_mid]; exact hl1) (by rw [← snoc_mid]; exact hl2)
        rw [← snoc_mid, ← snoc_mid] at this
        refine Ev.to this ?_
        simp [cmpW, hxy]
      · have hw : wrap64 (x - y) = x - y := w64 (by omega)
        simp only [if_neg hxy, hw, spec_l1Sign_eq, obind]
        refine Ev.some_ ?_
        simp only [cmpW, if_neg hxy]
        by_cases hlt : x < y
        · rw [if_neg (by omega), if_pos (by omega), if_pos hlt]
        · rw [if_pos (by omega), if_neg hlt]
theorem spec_lyCompare_ev (a b : List Int) (ha : ∀ x ∈ a, 0 ≤ x ∧ x ≤ 5) (hb : ∀ x ∈ b, 0 ≤ x ∧ x ≤ 5) (h1 : a.length ≤ 1000) (h2 : b.length ≤ 1000) : Ev (fun k => spec_lyCompare.f k a b) (cmpW a b) :=
  spec_lyCompare_loop a b [] [] rfl ha hb h1 h2

theorem spec_lyLeast_loop (w : List Int) (h : 0 < w.length) (hl : w.length ≤ 100) (hin : ∀ x ∈ w, 0 ≤ x ∧ x ≤ 5) (d : Nat) : ∀ b best : Nat, b + d = w.length → best < w.length →
    Ev (fun k => spec_lyLeast.l0 k w (best : Int) (b : Int)) ((leastF w d b best : Nat) : Int) := by
  induction d with
  | zero =>
    intro b best hb hbest
    have c1 : ¬ (b : Int) < (w.length : Int) := by omega
    refine Ev.done fun k => ?_
    simp only [spec_lyLeast.l0]
    rw [if_neg c1]
    rfl
  | succ d ih =>
    intro b best hb hbest
    have c1 : (b : Int) < (w.length : Int) := by omega
    have b1 : b ≤ 1099511627776 := by omega
    have hr1 := spec_lyRotate_ev w h (by omega) b (by omega)
    have hr2 := spec_lyRotate_ev w h (by omega) best (by omega)
    rw [Nat.mod_eq_of_lt (by omega)] at hr1
    rw [Nat.mod_eq_of_lt hbest] at hr2
    have hc := spec_lyCompare_ev (rotW w b) (rotW w best) (rotW_in hin b) (rotW_in hin best) (by rw [rotW_len]; omega) (by rw [rotW_len]; omega)
    refine Ev.succ ?_
    simp only [spec_lyLeast.l0]
    simp only [if_pos c1, i_up b1]
    refine Ev.bind hr1 (Ev.bind hr2 (Ev.bind hc ?_))
    unfold leastF
    by_cases hlt : cmpW (rotW w b) (rotW w best) < 0
    · simp only [if_pos hlt]
      exact ih (b + 1) b (by omega) (by omega)
    · simp only [if_neg hlt]
      exact ih (b + 1) best (by omega) hbest
theorem spec_lyLeast_ev (w : List Int) (h : 0 < w.length) (hl : w.length ≤ 100) (hin : ∀ x ∈ w, 0 ≤ x ∧ x ≤ 5) : Ev (fun k => spec_lyLeast.f k w) ((leastW w : Nat) : Int) :=
  spec_lyLeast_loop w h hl hin (w.length - 1) 1 0 (by omega) h

theorem spec_lyNecklace_ev (w : List Int) (h : 0 < w.length) (hl : w.length ≤ 100) (hin : ∀ x ∈ w, 0 ≤ x ∧ x ≤ 5) : Ev (fun k => spec_lyNecklace.f k w) (neckW w) := by
  unfold spec_lyNecklace.f
  refine Ev.bind (spec_lyLeast_ev w h hl hin) ?_
  exact Ev.some_ (beq_nat_zero _)

theorem spec_l1Same_loop (s : List Int) : ∀ (p q t : List Int) (n i : Int), t.length = s.length → q.length = p.length → n = ((p ++ s).length : Int) → i = (p.length : Int) → (p ++ s).length ≤ 1000 →
    Ev (fun k => spec_l1Same.l0 k (p ++ s) (q ++ t) n i) (decide (s = t)) := by
  induction s with
  | nil =>
    intro p q t n i ht hq hn hi hl
    have ht0 : t = [] := List.eq_nil_of_length_eq_zero ht
    subst ht0
    refine Ev.done fun k => ?_
    simp only [spec_l1Same.l0]
    rw [if_neg (by rw [len_nil] at hn; omega)]
    simp
  | cons x s ih =>
    intro p q t n i ht hq hn hi hl
    cases t with
    | nil => simp at ht
    | cons y t =>
      have ht' : t.length = s.length := by simpa using ht
      have h1 := len_mid p s x
      have h2 := len_mid q t y
      by_cases hxy : x = y
      · have := ih (p ++ [x]) (q ++ [y]) t n (i + 1) ht' (by simp [hq]) (by rw [← snoc_mid]; exact hn) (by rw [len_snoc]; omega) (by rw [← snoc_mid]; exact hl)
        rw [← snoc_mid, ← snoc_mid] at this
        refine Ev.to (Ev.step' this fun k => ?_) (by simp [hxy])
        simp only [spec_l1Same.l0]
        rw [if_pos (by omega), if_pos (by omega), if_pos (by omega), if_pos (by omega), rd_mid hi, rd_mid (by omega), if_pos hxy, w64 (by omega)]
      · refine Ev.to (Ev.done fun k => ?_) (show false = _ by simp [hxy])
        simp only [spec_l1Same.l0]
        rw [if_pos (by omega), if_pos (by omega), if_pos (by omega), if_pos (by omega), rd_mid hi, rd_mid (by omega), if_neg hxy]
theorem spec_l1Same_ev (l t : List Int) (hl : l.length ≤ 1000) : Ev (fun k => spec_l1Same.f k l t) (decide (l = t)) := by
  by_cases h : l.length = t.length
  · have := spec_l1Same_loop l [] [] t _ 0 h.symm rfl rfl (by simp) (by simpa using hl)
    simp only [List.nil_append] at this
    refine Ev.congr (fun k => ?_) this
    unfold spec_l1Same.f
    rw [if_pos (by omega)]
  · refine Ev.to (Ev.congr (fun k => ?_) (Ev.now false)) (by rw [decide_eq_false]; exact fun e => h (by rw [e]))
    unfold spec_l1Same.f
    rw [if_neg (by omega)]

theorem spec_lyRoot_loop (w : List Int) (h : 0 < w.length) (hl : w.length ≤ 100) (d : Nat) : ∀ p : Nat, 0 < p → p + d = w.length →
    Ev (fun k => spec_lyRoot.l0 k w (p : Int)) ((rootF w d p : Nat) : Int) := by
  induction d with
  | zero =>
    intro p hp hd
    have hpe : p = w.length := by omega
    have c1 : ¬ (p : Int) = 0 := by omega
    have c2 : (w.length : Int) % (p : Int) = 0 := by rw [hpe]; exact Int.emod_self
    have hr := spec_lyRotate_ev w h (by omega) p (by omega)
    rw [hpe, Nat.mod_self, rotW_zero, ← hpe] at hr
    have hq := spec_l1Same_ev w w (by omega)
    refine Ev.succ ?_
    simp only [spec_lyRoot.l0]
    simp only [if_neg c1, if_pos c2]
    refine Ev.bind hr (Ev.bind hq ?_)
    simp only [decide_true, if_true]
    exact Ev.now _
  | succ d ih =>
    intro p hp hd
    have c1 : ¬ (p : Int) = 0 := by omega
    have b1 : p ≤ 1099511627776 := by omega
    have hr := spec_lyRotate_ev w h (by omega) p (by omega)
    have hq := spec_l1Same_ev (rotW w (p % w.length)) w (by rw [rotW_len]; omega)
    have em : (w.length : Int) % (p : Int) = ((w.length % p : Nat) : Int) := rfl
    refine Ev.succ ?_
    simp only [spec_lyRoot.l0]
    simp only [if_neg c1, em, i_up b1]
    unfold rootF
    by_cases c2 : w.length % p = 0
    · have c3 : ((w.length % p : Nat) : Int) = 0 := by omega
      simp only [if_pos c3]
      refine Ev.bind hr (Ev.bind hq ?_)
      by_cases c4 : rotW w (p % w.length) = w
      · simp only [decide_eq_true c4, if_true, if_pos (show w.length % p = 0 ∧ rotW w (p % w.length) = w from ⟨c2, c4⟩)]
        exact Ev.now _
      · simp only [decide_eq_false c4, Bool.false_eq_true, if_false, if_neg (show ¬ (w.length % p = 0 ∧ rotW w (p % w.length) = w) from fun e => c4 e.2)]
        exact ih (p + 1) (by omega) (by omega)
    · have c3 : ¬ ((w.length % p : Nat) : Int) = 0 := by omega
      simp only [if_neg c3, if_neg (show ¬ (w.length % p = 0 ∧ rotW w (p % w.length) = w) from fun e => c2 e.1)]
      exact ih (p + 1) (by omega) (by omega)
theorem spec_lyRoot_ev (w : List Int) (h : 0 < w.length) (hl : w.length ≤ 100) : Ev (fun k => spec_lyRoot.f k w) ((rootW w : Nat) : Int) :=
  spec_lyRoot_loop w h hl (w.length - 1) 1 (by omega) (by omega)

theorem spec_lyLyndon_ev (w : List Int) (h : 0 < w.length) (hl : w.length ≤ 100) (hin : ∀ x ∈ w, 0 ≤ x ∧ x ≤ 5) : Ev (fun k => spec_lyLyndon.f k w) (lynW w) := by
  unfold spec_lyLyndon.f lynW
  refine Ev.bind (spec_lyNecklace_ev w h hl hin) ?_
  cases neckW w with
  | false => simp only [Bool.false_eq_true, if_false, Bool.false_and]; exact Ev.now _
  | true =>
    simp only [if_true, Bool.true_and]
    refine Ev.bind (spec_lyRoot_ev w h hl) ?_
    exact Ev.some_ (beq_nat_nat _ _)

theorem slices_Grow_some (n : Int) (h : 0 < n) (h' : n ≤ 1000000) : slices_Grow_int_int.f n = some [] := by
  unfold slices_Grow_int_int.f
  rw [if_pos h, if_pos (by omega)]
theorem slices_Concat_two (a b : List Int) (h : 0 < a.length + b.length) (hl : a.length + b.length ≤ 1000) : Ev (fun k => slices_Concat_int_int.f k [a, b]) (a ++ b) := by
  have e0 : rd_L2 [a, b] 0 = a := rfl
  have e1 : rd_L2 [a, b] 1 = b := rfl
  have w1 : wrap64 (0 + (a.length : Int)) = (a.length : Int) := by rw [w64 (by omega)]; omega
  have w2 : wrap64 ((a.length : Int) + (b.length : Int)) = ((a.length + b.length : Nat) : Int) := i_plus (by omega)
  have w3 : wrap64 ((0 : Int) + 1) = 1 := w64 (by omega)
  have w4 : wrap64 ((1 : Int) + 1) = 2 := w64 (by omega)
  have hg := slices_Grow_some ((a.length + b.length : Nat) : Int) (by omega) (by omega)
  have n1 : ¬ (a.length : Int) < 0 := by omega
  have n2 : ¬ ((a.length + b.length : Nat) : Int) < 0 := by omega
  have n3 : ([] : List Int).length + a.length < 17592186044416 := by simp; omega
  have n4 : ([] ++ a).length + b.length < 17592186044416 := by simp; omega
  have hlen : (([a, b] : List (List Int)).length : Int) = 2 := rfl
  unfold slices_Concat_int_int.f
  refine Ev.succ ?_
  simp only [slices_Concat_int_int.l0]
  simp only [hlen, if_pos (show (0 : Int) < 2 by decide), if_pos (show (0 : Int) ≤ 0 by decide), e0, w1, if_neg n1, w3]
  refine Ev.succ ?_
  simp only [slices_Concat_int_int.l0]
  simp only [hlen, if_pos (show (1 : Int) < 2 by decide), if_pos (show (0 : Int) ≤ 1 by decide), e1, w2, if_neg n2, w4]
  refine Ev.succ ?_
  simp only [slices_Concat_int_int.l0]
  simp only [hlen, if_neg (show ¬ (2 : Int) < 2 by decide), hg, obind]
  refine Ev.succ ?_
  simp only [slices_Concat_int_int.l1]
  simp only [hlen, if_pos (show (0 : Int) < 2 by decide), if_pos (show (0 : Int) ≤ 0 by decide), e0, if_pos n3, w3]
  refine Ev.succ ?_
  simp only [slices_Concat_int_int.l1]
  simp only [hlen, if_pos (show (1 : Int) < 2 by decide), if_pos (show (0 : Int) ≤ 1 by decide), e1, if_pos n4, w4]
  refine Ev.succ ?_
  simp only [slices_Concat_int_int.l1]
  simp only [hlen, if_neg (show ¬ (2 : Int) < 2 by decide)]
  exact Ev.some_ (by simp)
theorem impl_rotated_ev (w : List Int) (h : 0 < w.length) (hl : w.length ≤ 1000) (b : Int) : Ev (fun k => impl_rotated.f k w b) (rotW w (turnN b w.length % w.length)) := by
  have hp := turnN_pos (b := b) h
  have ht : Int.tmod b (w.length : Int) + (w.length : Int) = ((turnN b w.length : Nat) : Int) := by unfold turnN; omega
  have hm := Nat.mod_lt (turnN b w.length) h
  have e0 : Int.tmod ((turnN b w.length : Nat) : Int) (w.length : Int) = ((turnN b w.length % w.length : Nat) : Int) := rfl
  have hw : wrap64 ((turnN b w.length : Nat) : Int) = ((turnN b w.length : Nat) : Int) := w64 (by omega)
  unfold impl_rotated.f
  generalize turnN b w.length % w.length = j at hm e0
  have c1 : ¬ (w.length : Int) = 0 := by omega
  have c2 : 0 ≤ (j : Int) := by omega
  have c3 : (j : Int) ≤ (w.length : Int) := by omega
  have hc := slices_Concat_two (w.drop j) (w.take j) (by simp; omega) (by simp; omega)
  simp only [if_neg c1, ht, hw, e0, if_pos c2, if_pos c3, Int.toNat_natCast]
  refine Ev.bind hc ?_
  exact Ev.now _

theorem cmp_Compare_eq (a b : Int) : cmp_Compare_int.f a b = some (if a < b then -1 else if a > b then 1 else 0) := by
  unfold cmp_Compare_int.f cmp_isNaN_int.f
  simp only [bne_self_eq_false, obind, Bool.false_eq_true, if_false]
  split
  · rfl
  · split <;> rfl
theorem slices_Compare_loop (s : List Int) : ∀ (t p q : List Int), p.length = q.length → (p ++ s).length ≤ 1000 → (q ++ t).length ≤ 1000 →
    Ev (fun k => slices_Compare_int_int.l0 k (p ++ s) (q ++ t) (p ++ s) ((p ++ s).length : Int) (p.length : Int)) (cmpW s t) := by
  induction s with
  | nil =>
    intro t p q hpq hl1 hl2
    have c1 : ¬ (p.length : Int) < ((p ++ ([] : List Int)).length : Int) := by rw [len_nil]; omega
    refine Ev.succ ?_
    simp only [slices_Compare_int_int.l0]
    simp only [if_neg c1]
    cases t with
    | nil =>
      have c2 : ¬ ((p ++ ([] : List Int)).length : Int) < ((q ++ ([] : List Int)).length : Int) := by rw [len_nil, len_nil]; omega
      simp only [if_neg c2]
      exact Ev.now _
    | cons y t =>
      have c2 : ((p ++ ([] : List Int)).length : Int) < ((q ++ y :: t).length : Int) := by rw [len_nil, len_mid]; omega
      simp only [if_pos c2]
      exact Ev.now _
  | cons x s ih =>
    intro t p q hpq hl1 hl2
    have h1 := len_mid p s x
    have c1 : (p.length : Int) < ((p ++ x :: s).length : Int) := by omega
    have c3 : 0 ≤ (p.length : Int) := by omega
    have e0 : rd (p ++ x :: s) (p.length : Int) = x := rd_mid rfl
    have c5 : p.length ≤ 1099511627776 := by omega
    refine Ev.succ ?_
    simp only [slices_Compare_int_int.l0]
    simp only [if_pos c1, if_pos c3]
    cases t with
    | nil =>
      have c2 : (p.length : Int) ≥ ((q ++ ([] : List Int)).length : Int) := by rw [len_nil]; omega
      simp only [if_pos c2]
      exact Ev.now _
    | cons y t =>
      have h2 := len_mid q t y
      have c2 : ¬ (p.length : Int) ≥ ((q ++ y :: t).length : Int) := by omega
      have c4 : (p.length : Int) < ((q ++ y :: t).length : Int) := by omega
      have e1 : rd (q ++ y :: t) (p.length : Int) = y := rd_mid (by omega)
      simp only [if_neg c2, if_pos c4, e0, e1, cmp_Compare_eq, obind]
      by_cases hxy : x = y
      · have hc : (if x < y then (-1 : Int) else if x > y then 1 else 0) = 0 := by rw [if_neg (by omega), if_neg (by omega)]
        simp only [hc, if_true, i_succ (out := p) (x := x) c5]
        have := ih t (p ++ [x]) (q ++ [y]) (by simp [hpq]) (by rw [← snoc_mid]; exact hl1) (by rw [← snoc_mid]; exact hl2)
        rw [← snoc_mid, ← snoc_mid] at this
        refine Ev.to this ?_
        simp [cmpW, hxy]
      · by_cases hlt : x < y
        · simp only [if_pos hlt, if_neg (show ¬ (-1 : Int) = 0 by decide)]
          exact Ev.some_ (by simp only [cmpW, if_neg hxy, if_pos hlt])
        · have hgt : x > y := by omega
          simp only [if_neg hlt, if_pos hgt, if_neg (show ¬ (1 : Int) = 0 by decide)]
          exact Ev.some_ (by simp only [cmpW, if_neg hxy, if_neg hlt])
theorem slices_Compare_ev (a b : List Int) (h1 : a.length ≤ 1000) (h2 : b.length ≤ 1000) : Ev (fun k => slices_Compare_int_int.f k a b) (cmpW a b) :=
  slices_Compare_loop a b [] [] rfl h1 h2

theorem impl_copied_eq (l : List Int) (hl : l.length ≤ 1000000) : impl_copied.f l = some l := by
  unfold impl_copied.f
  rw [obind, if_pos (by simp; omega), List.nil_append]

theorem impl_leastRotation_loop (w : List Int) (h : 0 < w.length) (hl : w.length ≤ 100) (d : Nat) : ∀ b best : Nat, b + d = w.length → best < w.length →
    Ev (fun k => impl_leastRotation.l0 k w (best : Int) (rotW w best) (b : Int)) (((leastF w d b best : Nat) : Int), rotW w (leastF w d b best)) := by
  induction d with
  | zero =>
    intro b best hb hbest
    have c1 : ¬ (b : Int) < (w.length : Int) := by omega
    refine Ev.done fun k => ?_
    simp only [impl_leastRotation.l0]
    rw [if_neg c1]
    rfl
  | succ d ih =>
    intro b best hb hbest
    have c1 : (b : Int) < (w.length : Int) := by omega
    have b1 : b ≤ 1099511627776 := by omega
    have hr1 := impl_rotated_ev w h (by omega) (b : Int)
    rw [turnN_nat h, Nat.mod_eq_of_lt (by omega)] at hr1
    have hc := slices_Compare_ev (rotW w b) (rotW w best) (by rw [rotW_len]; omega) (by rw [rotW_len]; omega)
    refine Ev.succ ?_
    simp only [impl_leastRotation.l0]
    simp only [if_pos c1, i_up b1]
    refine Ev.bind hr1 (Ev.bind hc ?_)
    unfold leastF
    by_cases hlt : cmpW (rotW w b) (rotW w best) < 0
    · simp only [if_pos hlt]
      exact ih (b + 1) b (by omega) (by omega)
    · simp only [if_neg hlt]
      exact ih (b + 1) best (by omega) hbest
theorem impl_leastRotation_ev (w : List Int) (h : 0 < w.length) (hl : w.length ≤ 100) : Ev (fun k => impl_leastRotation.f k w) (((leastW w : Nat) : Int), rotW w (leastW w)) := by
  unfold impl_leastRotation.f
  have hc := impl_copied_eq w (by omega)
  simp only [hc, obind]
  have := impl_leastRotation_loop w h hl (w.length - 1) 1 0 (by omega) h
  rw [rotW_zero] at this
  exact this

theorem impl_isNecklace_ev (w : List Int) (h : 0 < w.length) (hl : w.length ≤ 100) : Ev (fun k => impl_isNecklace.f k w) (neckW w) := by
  unfold impl_isNecklace.f
  refine Ev.bind (impl_leastRotation_ev w h hl) ?_
  exact Ev.some_ (beq_nat_zero _)

theorem slices_Equal_int_int_loop (s : List Int) : ∀ (p q t : List Int) (n i : Int), t.length = s.length → q.length = p.length → n = ((p ++ s).length : Int) → i = (p.length : Int) → (p ++ s).length ≤ 1000 →
    Ev (fun k => slices_Equal_int_int.l0 k (p ++ s) (q ++ t) n i) (decide (s = t)) := by
  induction s with
  | nil =>
    intro p q t n i ht hq hn hi hl
    have ht0 : t = [] := List.eq_nil_of_length_eq_zero ht
    subst ht0
    refine Ev.done fun k => ?_
    simp only [slices_Equal_int_int.l0]
    rw [if_neg (by rw [len_nil] at hn; omega)]
    simp
  | cons x s ih =>
    intro p q t n i ht hq hn hi hl
    cases t with
    | nil => simp at ht
    | cons y t =>
      have ht' : t.length = s.length := by simpa using ht
      have h1 := len_mid p s x
      have h2 := len_mid q t y
      by_cases hxy : x = y
      · have := ih (p ++ [x]) (q ++ [y]) t n (i + 1) ht' (by simp [hq]) (by rw [← snoc_mid]; exact hn) (by rw [len_snoc]; omega) (by rw [← snoc_mid]; exact hl)
        rw [← snoc_mid, ← snoc_mid] at this
        refine Ev.to (Ev.step' this fun k => ?_) (by simp [hxy])
        simp only [slices_Equal_int_int.l0]
        rw [if_pos (by omega), if_pos (by omega), if_pos (by omega), if_pos (by omega), rd_mid hi, rd_mid (by omega), if_pos hxy, w64 (by omega)]
      · refine Ev.to (Ev.done fun k => ?_) (show false = _ by simp [hxy])
        simp only [slices_Equal_int_int.l0]
        rw [if_pos (by omega), if_pos (by omega), if_pos (by omega), if_pos (by omega), rd_mid hi, rd_mid (by omega), if_neg hxy]
theorem slices_Equal_int_int_ev (l t : List Int) (hl : l.length ≤ 1000) : Ev (fun k => slices_Equal_int_int.f k l t) (decide (l = t)) := by
  by_cases h : l.length = t.length
  · have := slices_Equal_int_int_loop l [] [] t _ 0 h.symm rfl rfl (by simp) (by simpa using hl)
    simp only [List.nil_append] at this
    refine Ev.congr (fun k => ?_) this
    unfold slices_Equal_int_int.f
    rw [if_pos (by omega)]
  · refine Ev.to (Ev.congr (fun k => ?_) (Ev.now false)) (by rw [decide_eq_false]; exact fun e => h (by rw [e]))
    unfold slices_Equal_int_int.f
    rw [if_neg (by omega)]

theorem impl_rootLength_loop (w : List Int) (h : 0 < w.length) (hl : w.length ≤ 100) (d : Nat) : ∀ p : Nat, 0 < p → p + d = w.length →
    Ev (fun k => impl_rootLength.l0 k w (p : Int)) ((rootF w d p : Nat) : Int) := by
  induction d with
  | zero =>
    intro p hp hd
    have hpe : p = w.length := by omega
    have c1 : ¬ (p : Int) = 0 := by omega
    have c2 : (w.length : Int) % (p : Int) = 0 := by rw [hpe]; exact Int.emod_self
    have hr := impl_rotated_ev w h (by omega) (p : Int)
    rw [turnN_nat h] at hr
    rw [hpe, Nat.mod_self, rotW_zero, ← hpe] at hr
    have hq := slices_Equal_int_int_ev w w (by omega)
    refine Ev.succ ?_
    simp only [impl_rootLength.l0]
    simp only [if_neg c1, if_pos c2]
    refine Ev.bind hr (Ev.bind hq ?_)
    simp only [decide_true, if_true]
    exact Ev.now _
  | succ d ih =>
    intro p hp hd
    have c1 : ¬ (p : Int) = 0 := by omega
    have b1 : p ≤ 1099511627776 := by omega
    have hr := impl_rotated_ev w h (by omega) (p : Int)
    rw [turnN_nat h] at hr
    have hq := slices_Equal_int_int_ev (rotW w (p % w.length)) w (by rw [rotW_len]; omega)
    have em : (w.length : Int) % (p : Int) = ((w.length % p : Nat) : Int) := rfl
    refine Ev.succ ?_
    simp only [impl_rootLength.l0]
    simp only [if_neg c1, em, i_up b1]
    unfold rootF
    by_cases c2 : w.length % p = 0
    · have c3 : ((w.length % p : Nat) : Int) = 0 := by omega
      simp only [if_pos c3]
      refine Ev.bind hr (Ev.bind hq ?_)
      by_cases c4 : rotW w (p % w.length) = w
      · simp only [decide_eq_true c4, if_true, if_pos (show w.length % p = 0 ∧ rotW w (p % w.length) = w from ⟨c2, c4⟩)]
        exact Ev.now _
      · simp only [decide_eq_false c4, Bool.false_eq_true, if_false, if_neg (show ¬ (w.length % p = 0 ∧ rotW w (p % w.length) = w) from fun e => c4 e.2)]
        exact ih (p + 1) (by omega) (by omega)
    · have c3 : ¬ ((w.length % p : Nat) : Int) = 0 := by omega
      simp only [if_neg c3, if_neg (show ¬ (w.length % p = 0 ∧ rotW w (p % w.length) = w) from fun e => c2 e.1)]
      exact ih (p + 1) (by omega) (by omega)
theorem impl_rootLength_ev (w : List Int) (h : 0 < w.length) (hl : w.length ≤ 100) : Ev (fun k => impl_rootLength.f k w) ((rootW w : Nat) : Int) :=
  impl_rootLength_loop w h hl (w.length - 1) 1 (by omega) (by omega)

theorem impl_isLyndon_ev (w : List Int) (h : 0 < w.length) (hl : w.length ≤ 100) : Ev (fun k => impl_isLyndon.f k w) (lynW w) := by
  unfold impl_isLyndon.f lynW
  refine Ev.bind (impl_isNecklace_ev w h hl) ?_
  cases neckW w with
  | false => simp only [Bool.false_eq_true, if_false, Bool.false_and]; exact Ev.now _
  | true =>
    simp only [if_true, Bool.true_and]
    refine Ev.bind (impl_rootLength_ev w h hl) ?_
    exact Ev.some_ (beq_nat_nat _ _)

theorem lynW_last {w : List Int} {n : Nat} (h : n + 1 = w.length) : lynW (w.drop n) = true := by
  obtain ⟨x, hx⟩ : ∃ x, w.drop n = [x] := List.length_eq_one_iff.1 (by simp; omega)
  rw [hx]; exact lynW_one x
theorem spec_lyHalf_loop (w : List Int) (hl : w.length ≤ 100) (hin : ∀ x ∈ w, 0 ≤ x ∧ x ≤ 5) (d : Nat) : ∀ n : Nat, n + d + 1 = w.length →
    Ev (fun k => spec_lyHalf.l0 k w (n : Int)) ((halfF w d n : Nat) : Int) := by
  induction d with
  | zero =>
    intro n hn
    have hy := spec_lyLyndon_ev (w.drop n) (by simp; omega) (by simp; omega) (fun x hx => hin x (List.mem_of_mem_drop hx))
    rw [lynW_last (by omega)] at hy
    refine Ev.succ ?_
    simp only [spec_lyHalf.l0]
    simp only [if_pos (show 0 ≤ (n : Int) by omega), if_pos (show (n : Int) ≤ (w.length : Int) by omega), Int.toNat_natCast]
    refine Ev.bind hy ?_
    exact Ev.now _
  | succ d ih =>
    intro n hn
    have hy := spec_lyLyndon_ev (w.drop n) (by simp; omega) (by simp; omega) (fun x hx => hin x (List.mem_of_mem_drop hx))
    refine Ev.succ ?_
    simp only [spec_lyHalf.l0]
    simp only [if_pos (show 0 ≤ (n : Int) by omega), if_pos (show (n : Int) ≤ (w.length : Int) by omega), Int.toNat_natCast]
    refine Ev.bind hy ?_
    unfold halfF
    cases lynW (w.drop n) with
    | true => simp only [if_true]; exact Ev.now _
    | false =>
      simp only [Bool.false_eq_true, if_false, i_up (show n ≤ 1099511627776 by omega)]
      exact ih (n + 1) (by omega)
theorem spec_lyHalf_ev (w : List Int) (h : 2 ≤ w.length) (hl : w.length ≤ 100) (hin : ∀ x ∈ w, 0 ≤ x ∧ x ≤ 5) : Ev (fun k => spec_lyHalf.f k w) ((halfW w : Nat) : Int) := by
  unfold spec_lyHalf.f halfW
  exact spec_lyHalf_loop w hl hin _ 1 (by omega)

theorem impl_standard_loop (w : List Int) (hl : w.length ≤ 100) (d : Nat) : ∀ n : Nat, n + d + 1 = w.length →
    Ev (fun k => impl_standard.l0 k w (n : Int)) ((halfF w d n : Nat) : Int) := by
  induction d with
  | zero =>
    intro n hn
    have hy := impl_isLyndon_ev (w.drop n) (by simp; omega) (by simp; omega)
    rw [lynW_last (by omega)] at hy
    refine Ev.succ ?_
    simp only [impl_standard.l0]
    simp only [if_pos (show 0 ≤ (n : Int) by omega), if_pos (show (n : Int) ≤ (w.length : Int) by omega), Int.toNat_natCast]
    refine Ev.bind hy ?_
    exact Ev.now _
  | succ d ih =>
    intro n hn
    have hy := impl_isLyndon_ev (w.drop n) (by simp; omega) (by simp; omega)
    refine Ev.succ ?_
    simp only [impl_standard.l0]
    simp only [if_pos (show 0 ≤ (n : Int) by omega), if_pos (show (n : Int) ≤ (w.length : Int) by omega), Int.toNat_natCast]
    refine Ev.bind hy ?_
    unfold halfF
    cases lynW (w.drop n) with
    | true => simp only [if_true]; exact Ev.now _
    | false =>
      simp only [Bool.false_eq_true, if_false, i_up (show n ≤ 1099511627776 by omega)]
      exact ih (n + 1) (by omega)
theorem impl_standard_ev (w : List Int) (h : 2 ≤ w.length) (hl : w.length ≤ 100) : Ev (fun k => impl_standard.f k w) ((halfW w : Nat) : Int) := by
  unfold impl_standard.f halfW
  exact impl_standard_loop w hl _ 1 (by omega)

def stdR (l : List Int) : List Int × List Int × Bool :=
  if ((isW l && decide (2 ≤ l.length)) && lynW l) = true then (l.take (halfW l), l.drop (halfW l), true) else ([], [], false)
theorem spec_StandardFactors_ev (l : List Int) (hl : l.length ≤ 1099511627776) : Ev (fun k => spec_StandardFactors.f k l) (stdR l) := by
  unfold spec_StandardFactors.f stdR
  refine Ev.bind (spec_lyWord_ev l hl) ?_
  cases hw : isW l with
  | false =>
    simp only [Bool.false_eq_true, if_false, Bool.false_and]
    exact Ev.done fun k => by simp only [spec_StandardFactors.j0, if_true]
  | true =>
    obtain ⟨⟨w1, w2⟩, w3⟩ := isW_true hw
    simp only [if_true, Bool.true_and]
    by_cases hc : (l.length : Int) < 2
    · simp only [if_pos hc, decide_eq_false (show ¬ 2 ≤ l.length by omega), Bool.false_and, Bool.false_eq_true, if_false]
      exact Ev.done fun k => by simp only [spec_StandardFactors.j0, if_true]
    · simp only [if_neg hc, decide_eq_true (show 2 ≤ l.length by omega), Bool.true_and]
      refine Ev.bind (spec_lyLyndon_ev l (by omega) (by omega) w3) ?_
      cases hy : lynW l with
      | false =>
        simp only [Bool.false_eq_true, if_false, Bool.not_false]
        exact Ev.done fun k => by simp only [spec_StandardFactors.j0, if_true]
      | true =>
        obtain ⟨h1, h2⟩ := halfW_in (w := l) (by omega)
        simp only [if_true, Bool.not_true]
        refine Ev.succ ?_
        simp only [spec_StandardFactors.j0, Bool.false_eq_true, if_false]
        refine Ev.bind (spec_lyHalf_ev l (by omega) (by omega) w3) ?_
        simp only [if_pos (show 0 ≤ ((halfW l : Nat) : Int) by omega), if_pos (show ((halfW l : Nat) : Int) ≤ (l.length : Int) by omega), Int.toNat_natCast, spec_l1Own_eq _ (show (l.take (halfW l)).length ≤ 1000000 by simp; omega), spec_l1Own_eq _ (show (l.drop (halfW l)).length ≤ 1000000 by simp; omega), obind]
        exact Ev.now _
theorem impl_StandardFactors_ev (l : List Int) (hl : l.length ≤ 1099511627776) : Ev (fun k => impl_StandardFactors.f k l) (stdR l) := by
  unfold impl_StandardFactors.f stdR
  refine Ev.bind (impl_IsWord_ev l hl) ?_
  cases hw : isW l with
  | false =>
    simp only [Bool.false_eq_true, if_false, Bool.false_and]
    exact Ev.done fun k => by simp only [impl_StandardFactors.j0, if_true]
  | true =>
    obtain ⟨⟨w1, w2⟩, w3⟩ := isW_true hw
    simp only [if_true, Bool.true_and]
    refine Ev.bind (impl_isLyndon_ev l (by omega) (by omega)) ?_
    cases hy : lynW l with
    | false =>
      simp only [Bool.false_eq_true, if_false, Bool.and_false]
      exact Ev.done fun k => by simp only [impl_StandardFactors.j0, if_true]
    | true =>
      simp only [if_true, Bool.and_true]
      by_cases hc : (l.length : Int) < 2
      · simp only [decide_eq_true hc, decide_eq_false (show ¬ 2 ≤ l.length by omega), Bool.false_eq_true, if_false]
        exact Ev.done fun k => by simp only [impl_StandardFactors.j0, if_true]
      · obtain ⟨h1, h2⟩ := halfW_in (w := l) (by omega)
        simp only [decide_eq_false hc, decide_eq_true (show 2 ≤ l.length by omega), if_true]
        refine Ev.succ ?_
        simp only [impl_StandardFactors.j0, Bool.false_eq_true, if_false]
        refine Ev.bind (impl_standard_ev l (by omega) (by omega)) ?_
        simp only [if_pos (show 0 ≤ ((halfW l : Nat) : Int) by omega), if_pos (show ((halfW l : Nat) : Int) ≤ (l.length : Int) by omega), Int.toNat_natCast, impl_copied_eq _ (show (l.take (halfW l)).length ≤ 1000000 by simp; omega), impl_copied_eq _ (show (l.drop (halfW l)).length ≤ 1000000 by simp; omega), obind]
        exact Ev.now _
theorem stdR_len (l : List Int) : (stdR l).1.length ≤ 24 ∧ (stdR l).2.1.length ≤ 24 := by
  unfold stdR
  split
  · rename_i h
    simp only [Bool.and_eq_true] at h
    obtain ⟨⟨w1, w2⟩, w3⟩ := isW_true h.1.1
    simp; omega
  · simp

theorem impl_wordText_loop (s : List Int) : ∀ (p out : List Int) (n i : Int), (∀ x ∈ s, 0 ≤ x ∧ x ≤ 5) → out.length = p.length → n = ((p ++ s).length : Int) → i = (p.length : Int) → (p ++ s).length ≤ 1073741824 →
    Ev (fun k => impl_wordText.l0 k out (p ++ s) n i) (strOfNums (out ++ s.map fun x => 48 + x)) := by
  induction s with
  | nil =>
    intro p out n i hs ho hn hi hl
    refine Ev.to (Ev.done fun k => ?_) (show strOfNums out = _ by simp)
    simp only [impl_wordText.l0]
    rw [if_neg (by rw [len_nil] at hn; omega)]
  | cons x s ih =>
    intro p out n i hs ho hn hi hl
    have h1 := len_mid p s x
    have hx := hs x (List.mem_cons_self ..)
    have := ih (p ++ [x]) (out ++ [48 + x]) n (i + 1) (fun y hy => hs y (List.mem_cons_of_mem _ hy)) (by simp [ho]) (by rw [← snoc_mid]; exact hn) (by rw [len_snoc]; omega) (by rw [← snoc_mid]; exact hl)
    rw [← snoc_mid] at this
    refine Ev.to (Ev.step' this fun k => ?_) (by simp)
    simp only [impl_wordText.l0]
    rw [if_pos (by omega), if_pos (by omega), if_pos (by omega), if_pos (by omega), rd_mid hi, w64 (n := i + 1) (by omega), show (48 + x) % 256 = 48 + x by omega]
theorem impl_wordText_ev (l : List Int) (hs : ∀ x ∈ l, 0 ≤ x ∧ x ≤ 5) (hl : l.length ≤ 1073741824) : Ev (fun k => impl_wordText.f k l) (strOfNums (l.map fun x => 48 + x)) :=
  Ev.to (impl_wordText_loop l [] [] _ 0 hs rfl rfl (by simp) (by simpa using hl)) (by simp)

theorem spec_l1Num_digit (x : Int) (h : 0 ≤ x ∧ x ≤ 5) (k : Nat) : spec_l1Num.f (k + 1) x = some (strOfNums [48 + x]) := by
  simp only [spec_l1Num.f]
  rw [if_pos (by omega), w64 (by omega), show (48 + x) % 256 = 48 + x by omega]
theorem spec_lyBrackets_ev (d : Nat) : ∀ w : List Int, 1 ≤ w.length → w.length ≤ d → w.length ≤ 100 → (∀ x ∈ w, 0 ≤ x ∧ x ≤ 5) → Ev (fun k => spec_lyBrackets.f k w) (brkF d w) := by
  induction d with
  | zero => intro w h1 h2; omega
  | succ d ih =>
    intro w h1 h2 hl hin
    refine Ev.succ ?_
    simp only [spec_lyBrackets.f]
    unfold brkF
    by_cases h : w.length = 1
    · obtain ⟨x, rfl⟩ := List.length_eq_one_iff.1 h
      have hx := hin x (List.mem_singleton.2 rfl)
      have c1 : ((([x] : List Int).length : Nat) : Int) = 1 := rfl
      have c2 : (0 : Int) < 1 := by decide
      have e : rd [x] 0 = x := rfl
      rw [if_pos h]
      simp only [c1, if_true, if_pos c2, e]
      refine Ev.done fun k => ?_
      rw [spec_l1Num_digit x hx, obind]
      rfl
    · have c1 : ¬ (w.length : Int) = 1 := by omega
      obtain ⟨a1, a2⟩ := halfW_in (w := w) (by omega)
      have hh := spec_lyHalf_ev w (by omega) hl hin
      have e1 := ih (w.take (halfW w)) (by simp; omega) (by simp; omega) (by simp; omega) (fun x hx => hin x (List.mem_of_mem_take hx))
      have e2 := ih (w.drop (halfW w)) (by simp; omega) (by simp; omega) (by simp; omega) (fun x hx => hin x (List.mem_of_mem_drop hx))
      have s1 := brkF_size d (w.take (halfW w)) (by simp; omega) (by simp; omega)
      have s2 := brkF_size d (w.drop (halfW w)) (by simp; omega) (by simp; omega)
      simp only [List.length_take, List.length_drop] at s1 s2
      rw [if_neg h]
      simp only [if_neg c1]
      refine Ev.bind hh ?_
      simp only [if_pos (show 0 ≤ ((halfW w : Nat) : Int) by omega), if_pos (show ((halfW w : Nat) : Int) ≤ (w.length : Int) by omega), Int.toNat_natCast]
      refine Ev.bind e1 ?_
      generalize brkF d (w.take (halfW w)) = t at s1
      simp only [if_pos (show 1 + t.size ≤ 9223372036854775807 by omega), if_pos (show 1 + t.size + 1 ≤ 9223372036854775807 by omega)]
      refine Ev.bind e2 ?_
      generalize brkF d (w.drop (halfW w)) = u at s2
      simp only [if_pos (show 1 + t.size + 1 + u.size ≤ 9223372036854775807 by omega), if_pos (show 1 + t.size + 1 + u.size + 1 ≤ 9223372036854775807 by omega)]
      exact Ev.now _
theorem impl_bracketText_ev (d : Nat) : ∀ w : List Int, 1 ≤ w.length → w.length ≤ d → w.length ≤ 100 → (∀ x ∈ w, 0 ≤ x ∧ x ≤ 5) → Ev (fun k => impl_bracketText.f k w) (brkF d w) := by
  induction d with
  | zero => intro w h1 h2; omega
  | succ d ih =>
    intro w h1 h2 hl hin
    refine Ev.succ ?_
    simp only [impl_bracketText.f]
    unfold brkF
    by_cases h : w.length = 1
    · have c1 : (w.length : Int) = 1 := by omega
      rw [if_pos h]
      simp only [if_pos c1]
      refine Ev.bind (impl_wordText_ev w hin (by omega)) ?_
      exact Ev.now _
    · have c1 : ¬ (w.length : Int) = 1 := by omega
      obtain ⟨a1, a2⟩ := halfW_in (w := w) (by omega)
      have hh := impl_standard_ev w (by omega) hl
      have e1 := ih (w.take (halfW w)) (by simp; omega) (by simp; omega) (by simp; omega) (fun x hx => hin x (List.mem_of_mem_take hx))
      have e2 := ih (w.drop (halfW w)) (by simp; omega) (by simp; omega) (by simp; omega) (fun x hx => hin x (List.mem_of_mem_drop hx))
      have s1 := brkF_size d (w.take (halfW w)) (by simp; omega) (by simp; omega)
      have s2 := brkF_size d (w.drop (halfW w)) (by simp; omega) (by simp; omega)
      simp only [List.length_take, List.length_drop] at s1 s2
      rw [if_neg h]
      simp only [if_neg c1]
      refine Ev.bind hh ?_
      simp only [if_pos (show 0 ≤ ((halfW w : Nat) : Int) by omega), if_pos (show ((halfW w : Nat) : Int) ≤ (w.length : Int) by omega), Int.toNat_natCast]
      refine Ev.bind e1 ?_
      generalize brkF d (w.take (halfW w)) = t at s1
      simp only [if_pos (show 1 + t.size ≤ 9223372036854775807 by omega), if_pos (show 1 + t.size + 1 ≤ 9223372036854775807 by omega)]
      refine Ev.bind e2 ?_
      generalize brkF d (w.drop (halfW w)) = u at s2
      simp only [if_pos (show 1 + t.size + 1 + u.size ≤ 9223372036854775807 by omega), if_pos (show 1 + t.size + 1 + u.size + 1 ≤ 9223372036854775807 by omega)]
      exact Ev.now _
def brkR (l : List Int) : ByteArray × Bool := if (isW l && lynW l) = true then (brkW l, true) else (⟨#[]⟩, false)
theorem spec_BracketText_ev (l : List Int) (hl : l.length ≤ 1099511627776) : Ev (fun k => spec_BracketText.f k l) (brkR l) := by
  unfold spec_BracketText.f brkR
  refine Ev.bind (spec_lyWord_ev l hl) ?_
  cases hw : isW l with
  | false => simp only [Bool.false_eq_true, if_false, Bool.false_and]; exact Ev.now _
  | true =>
    obtain ⟨⟨w1, w2⟩, w3⟩ := isW_true hw
    simp only [if_true, Bool.true_and]
    refine Ev.bind (spec_lyLyndon_ev l (by omega) (by omega) w3) ?_
    cases hy : lynW l with
    | false => simp only [Bool.false_eq_true, if_false]; exact Ev.now _
    | true =>
      simp only [if_true]
      refine Ev.bind (spec_lyBrackets_ev l.length l (by omega) (Nat.le_refl _) (by omega) w3) ?_
      exact Ev.now _
theorem impl_BracketText_ev (l : List Int) (hl : l.length ≤ 1099511627776) : Ev (fun k => impl_BracketText.f k l) (brkR l) := by
  unfold impl_BracketText.f brkR
  refine Ev.bind (impl_IsWord_ev l hl) ?_
  cases hw : isW l with
  | false => simp only [Bool.false_eq_true, if_false, Bool.false_and]; exact Ev.now _
  | true =>
    obtain ⟨⟨w1, w2⟩, w3⟩ := isW_true hw
    simp only [if_true, Bool.true_and]
    refine Ev.bind (impl_isLyndon_ev l (by omega) (by omega)) ?_
    cases hy : lynW l with
    | false => simp only [Bool.false_eq_true, if_false]; exact Ev.now _
    | true =>
      simp only [if_true]
      refine Ev.bind (impl_bracketText_ev l.length l (by omega) (Nat.le_refl _) (by omega) w3) ?_
      exact Ev.now _

theorem impl_IsLyndon_ev (l : List Int) (hl : l.length ≤ 1099511627776) : Ev (fun k => impl_IsLyndon.f k l) (if isW l = true then (lynW l, true) else (false, false)) := by
  unfold impl_IsLyndon.f
  refine Ev.bind (impl_IsWord_ev l hl) ?_
  split
  · rename_i h
    obtain ⟨⟨h1, h2⟩, h3⟩ := isW_true h
    refine Ev.bind (impl_isLyndon_ev l (by omega) (by omega)) ?_
    exact Ev.now _
  · exact Ev.now _

theorem draw_StandardFactors (l : List Int) (hb : Bytes l) : ∃ w, Ev (fun k => spec_DrawStandardFactors.f k l) w ∧ w.length ≤ 50 := by
  unfold spec_DrawStandardFactors.f spec_l1Cur_lyndon.f
  obtain ⟨w, a, s, h1, h2, h3⟩ := cur_letters hb 3 0 (show CurAt 0 0 from ⟨by omega, by omega⟩) (by omega)
  have hw := spec_lyWord_ev w (by omega)
  have plain : ∀ a' s', Ev (fun k => spec_l1Cur_lyndon.j0 k w true l a' s') (w, a', s') := fun a' s' => Ev.done fun k => by simp only [spec_l1Cur_lyndon.j0, if_true]
  cases hW : isW w with
  | false =>
    rw [hW] at hw
    refine ⟨w, Ev.bind (a := (w, a, s)) (Ev.bind h1 (Ev.bind hw ?_)) ?_, h2⟩
    · simp only [Bool.false_eq_true, if_false]; exact plain a s
    · exact Ev.now _
  | true =>
    rw [hW] at hw
    obtain ⟨⟨w1, w2⟩, w3⟩ := isW_true hW
    obtain ⟨b, a1, s1, h4, h5⟩ := cur_one hb s 8 h3 (by omega)
    cases b with
    | true =>
      refine ⟨w, Ev.bind (a := (w, a1, s1)) (Ev.bind h1 (Ev.bind hw ?_)) ?_, h2⟩
      · simp only [if_true, h4, obind]; exact plain a1 s1
      · exact Ev.now _
    | false =>
      have h0 : 0 < w.length := by omega
      have hlt := leastW_lt h0
      have hr := spec_lyRotate_ev w h0 (by omega) (leastW w) (by omega)
      rw [Nat.mod_eq_of_lt hlt] at hr
      have hrl := rotW_len w (leastW w)
      have hroot := spec_lyRoot_ev (rotW w (leastW w)) (by omega) (by omega)
      obtain ⟨⟨r1, r2⟩, _⟩ := root_spec (w := rotW w (leastW w)) (by omega)
      refine ⟨(rotW w (leastW w)).take (rootW (rotW w (leastW w))), Ev.bind (a := ((rotW w (leastW w)).take (rootW (rotW w (leastW w))), a1, s1)) (Ev.bind h1 (Ev.bind hw ?_)) ?_, by simp; omega⟩
      · simp only [if_true, h4, obind]
        refine Ev.succ ?_
        simp only [spec_l1Cur_lyndon.j0, Bool.false_eq_true, if_false]
        refine Ev.bind (spec_lyLeast_ev w h0 (by omega) w3) (Ev.bind hr (Ev.bind hroot ?_))
        simp only [if_pos (show 0 ≤ ((rootW (rotW w (leastW w)) : Nat) : Int) by omega), if_pos (show ((rootW (rotW w (leastW w)) : Nat) : Int) ≤ ((rotW w (leastW w)).length : Int) by omega), Int.toNat_natCast]
        exact Ev.now _
      · exact Ev.now _
theorem brk_walk (w u v : List Int) (ok : Bool) (plain : List Int) (T : List Int) (hT : T.length ≤ 1000) (hin : ∀ x ∈ T, 0 ≤ x ∧ x ≤ 255) (hdig : T.filter isDig = plain) (R : Bool)
    (hR : Ev (fun k => laws_FnStandardFactors.j3 k w u v ok (strOfNums T) (((strOfNums T).size : Int) != (wrap64 ((wrap64 (4 * (w.length : Int))) - 3)))) R) (s : List Int) : ∀ (p : List Int), p ++ s = T →
    Ev (fun k => laws_FnStandardFactors.l0 k w u v ok (strOfNums T) (strOfNums plain) true (strOfNums (p.filter isDig)) (p.length : Int)) R := by
  have hsz : (strOfNums T).size = T.length := strOfNums_size T
  induction s with
  | nil =>
    intro p hp
    rw [List.append_nil] at hp
    subst hp
    refine Ev.succ ?_
    simp only [laws_FnStandardFactors.l0]
    simp only [if_neg (show ¬ (p.length : Int) < ((strOfNums p).size : Int) by omega), if_true, hdig]
    exact hR
  | cons x s ih =>
    intro p hp
    have hx := hin x (by rw [← hp]; simp)
    have hl : T.length = p.length + s.length + 1 := by rw [← hp]; simp; omega
    have d1 : (p.length : Int) < ((strOfNums T).size : Int) := by rw [hsz]; omega
    have d2 : 0 ≤ (p.length : Int) := Int.natCast_nonneg _
    have d3 : (p.length : Int) ≤ ((p.length + 1 : Nat) : Int) := by clear hx; omega
    have d4 : ((p.length + 1 : Nat) : Int) ≤ ((strOfNums T).size : Int) := by rw [hsz]; omega
    have d5 : (p.filter isDig).length + 1 ≤ 9223372036854775807 := by have := List.length_filter_le isDig p; omega
    have d6 : p.length ≤ 1099511627776 := by omega
    have eb : bt (strOfNums T) (p.length : Int) = x := by rw [← hp]; exact strOf_bt p s x hx
    have ec : (strOfNums T).extract p.length (p.length + 1) = strOfNums [x] := by rw [← hp]; exact strOf_cut p s x
    have sa := strOfNums_size (p.filter isDig)
    have sx : (strOfNums [x]).size = 1 := strOfNums_size [x]
    have next := ih (p ++ [x]) (by rw [← hp]; simp)
    have el : (p ++ [x]).length = p.length + 1 := by simp
    rw [el, List.filter_append] at next
    have ew : wrap64 ((p.length : Int) + 1) = ((p.length + 1 : Nat) : Int) := i_up d6
    have d7 : (strOfNums (p.filter isDig)).size + 1 ≤ 9223372036854775807 := by rw [sa]; exact d5
    refine Ev.succ ?_
    simp only [laws_FnStandardFactors.l0]
    simp only [if_pos d1, if_pos d2, eb, ew]
    by_cases c : isDig x = true
    · have c2 := inB_true.1 c
      have ef : [x].filter isDig = [x] := by simp [c]
      rw [ef, ← strOf_app] at next
      simp only [if_pos (show x ≥ 48 from c2.1), if_pos (show x ≤ 57 from c2.2), if_pos d3, if_pos d4, Int.toNat_natCast, ec, sx, if_pos d7]
      exact next
    · have ef : [x].filter isDig = [] := by simp [c]
      rw [ef, List.append_nil] at next
      have c2 : ¬ (48 ≤ x ∧ x ≤ 57) := fun h => c (inB_yes h)
      by_cases c3 : x ≥ 48
      · simp only [if_pos c3, if_neg (show ¬ x ≤ 57 from fun h => c2 ⟨c3, h⟩)]
        exact next
      · simp only [if_neg c3]
        exact next
theorem sm_a {n : Nat} (h : n ≤ 24) : 0 + n < 17592186044416 := by omega
theorem sm_b {n m : Nat} (h : n ≤ 24) (h2 : m ≤ 24) : n + m < 17592186044416 := by omega
theorem sm_1 {n : Nat} (h : n ≤ 100) : 1 + n ≤ 9223372036854775807 := by omega
theorem sm_2 {n : Nat} (h : n ≤ 100) : 1 + n + 1 ≤ 9223372036854775807 := by omega
theorem sm_3 {n m : Nat} (h : n ≤ 100) (h2 : m ≤ 100) : 1 + n + 1 + m ≤ 9223372036854775807 := by omega
theorem sm_4 {n m : Nat} (h : n ≤ 100) (h2 : m ≤ 100) : 1 + n + 1 + m + 1 ≤ 9223372036854775807 := by omega
theorem FnStandardFactors : laws_FnStandardFactors.Pure := by
  intro l0 l1 _ _ hb0 _ _ _
  unfold laws_FnStandardFactors.f
  rcases laws_big_ok l0 l1 with hbig | ⟨hbig, hl0, hl1⟩
  · exact ⟨0, by rw [hbig, obind, if_pos rfl]⟩
  simp only [hbig, obind, Bool.false_eq_true, if_false]
  obtain ⟨w, hd, hw⟩ := draw_StandardFactors l0 (bytes_wf hb0)
  have hi := impl_StandardFactors_ev w (by omega)
  have hs := spec_StandardFactors_ev w (by omega)
  have hib := impl_BracketText_ev w (by omega)
  have hsb := spec_BracketText_ev w (by omega)
  have hil := impl_IsLyndon_ev w (by omega)
  obtain ⟨q1, q2⟩ := stdR_len w
  refine (Ev.bind hd (Ev.bind hi (Ev.bind hs ?_))).rounds
  simp only [bne_self_eq_false, Bool.false_eq_true, if_false]
  refine Ev.bind (laws_tSame_self _ (by omega)) ?_
  simp only [if_true]
  refine Ev.bind (laws_tSame_self _ (by omega)) ?_
  refine Ev.succ ?_
  simp only [laws_FnStandardFactors.j0, Bool.not_true, Bool.false_eq_true, if_false]
  refine Ev.bind hib (Ev.bind hsb (Ev.bind hil ?_))
  simp only [bne_self_eq_false, Bool.false_eq_true, if_false, if_true]
  have no : ∀ (u v : List Int) (t : ByteArray), Ev (fun k => laws_FnStandardFactors.j1 k w u v false t false (false != false)) true := fun u v t =>
    Ev.done fun k => by simp only [laws_FnStandardFactors.j1, bne_self_eq_false, Bool.false_eq_true, if_false]
  cases hW : isW w with
  | false =>
    have e1 : stdR w = ([], [], false) := by unfold stdR; rw [hW, Bool.false_and, Bool.false_and, if_neg (by decide)]
    have e2 : brkR w = (⟨#[]⟩, false) := by unfold brkR; rw [hW, Bool.false_and, if_neg (by decide)]
    simp only [e1, e2, Bool.false_eq_true, if_false, bne_self_eq_false]
    exact Ev.done fun k => by simp only [laws_FnStandardFactors.j1, Bool.false_eq_true, if_false]
  | true =>
    obtain ⟨⟨w1, w2⟩, w3⟩ := isW_true hW
    simp only [if_true]
    cases hL : lynW w with
    | false =>
      have e1 : stdR w = ([], [], false) := by unfold stdR; rw [hL, Bool.and_false, if_neg (by decide)]
      have e2 : brkR w = (⟨#[]⟩, false) := by unfold brkR; rw [hL, Bool.and_false, if_neg (by decide)]
      simp only [e1, e2, Bool.false_eq_true, if_false, bne_self_eq_false]
      exact Ev.done fun k => by simp only [laws_FnStandardFactors.j1, Bool.false_eq_true, if_false]
    | true =>
      have e2 : brkR w = (brkW w, true) := by unfold brkR; rw [hW, hL, if_pos (by rfl)]
      have e3 : (stdR w).2.2 = decide (2 ≤ w.length) := by
        unfold stdR
        rw [hW, hL, Bool.true_and, Bool.and_true]
        by_cases c : 2 ≤ w.length
        · rw [decide_eq_true c, if_pos rfl]
        · rw [decide_eq_false c, if_neg (by decide)]
      have e4 : ((stdR w).2.2 != decide ((w.length : Int) > 1)) = false := by
        rw [e3, bne_eq_false_iff_eq, Bool.eq_iff_iff, decide_eq_true_iff, decide_eq_true_iff]; omega
      simp only [e2, if_true, bne_self_eq_false, Bool.false_eq_true, if_false, e4]
      have hwt : Ev (fun k => impl_WordText.f k w) (strOfNums (w.map fun x => 48 + x), true) := by
        have hw1 := impl_IsWord_ev w (by omega)
        rw [hW] at hw1
        unfold impl_WordText.f
        refine Ev.bind hw1 ?_
        simp only [if_true]
        refine Ev.bind (impl_wordText_ev w w3 (by omega)) ?_
        exact Ev.now _
      have hsize := brkW_size (w := w) w1
      have eN : brkW w = strOfNums (brkN w.length w) := brkN_F w.length w
      refine Ev.succ ?_
      simp only [laws_FnStandardFactors.j1, Bool.false_eq_true, if_false, if_true]
      refine Ev.bind hwt ?_
      have hTl : (brkN w.length w).length + 3 = 4 * w.length := by
        rw [eN, strOfNums_size] at hsize; exact hsize
      rw [eN]
      refine brk_walk w _ _ _ _ (brkN w.length w) (by omega) (brkN_in _ w w3) (brkN_dig w.length w w1 (Nat.le_refl _) w3) true ?_ (brkN w.length w) [] rfl
      rw [← eN]
      have esz : (((brkW w).size : Int) != (wrap64 ((wrap64 (4 * (w.length : Int))) - 3))) = false := by
        rw [w64 (n := 4 * (w.length : Int)) (by omega), w64 (by omega), bne_eq_false_iff_eq]; omega
      rw [esz]
      refine Ev.succ ?_
      simp only [laws_FnStandardFactors.j3, Bool.false_eq_true, if_false]
      rw [e3]
      by_cases c : 2 ≤ w.length
      · have e1 : stdR w = (w.take (halfW w), w.drop (halfW w), true) := by
          unfold stdR; rw [hW, hL, decide_eq_true c, if_pos (by rfl)]
        obtain ⟨a1, a2⟩ := halfW_in c
        obtain ⟨t1, t2, t3⟩ := half_two c ((lyn_iff (by omega)).1 hL)
        have eW : brkW w = ((((⟨#[91]⟩ : ByteArray) ++ brkW (w.take (halfW w))) ++ (⟨#[44]⟩ : ByteArray)) ++ brkW (w.drop (halfW w))) ++ (⟨#[93]⟩ : ByteArray) := brkW_two c
        have hcat : w.take (halfW w) ++ w.drop (halfW w) = w := List.take_append_drop _ _
        have wu : isW (w.take (halfW w)) = true := by
          unfold isW
          rw [inB_yes (by simp; omega), Bool.true_and, List.all_eq_true]
          exact fun x hx => inB_yes (w3 x (List.mem_of_mem_take hx))
        have wv : isW (w.drop (halfW w)) = true := by
          unfold isW
          rw [inB_yes (by simp; omega), Bool.true_and, List.all_eq_true]
          exact fun x hx => inB_yes (w3 x (List.mem_of_mem_drop hx))
        have lu : lynW (w.take (halfW w)) = true := (lyn_iff t1.1).2 t1
        have lv : lynW (w.drop (halfW w)) = true := (lyn_iff t2.1).2 t2
        have ul : (w.take (halfW w)).length = halfW w := by simp; omega
        have vl : (w.drop (halfW w)).length = w.length - halfW w := by simp
        have zu := brkW_size (w := w.take (halfW w)) (by omega)
        have zv := brkW_size (w := w.drop (halfW w)) (by omega)
        have su : (w.take (halfW w)).length ≤ 24 := Nat.le_trans (List.length_take_le' _ _) w2
        have sv : (w.drop (halfW w)).length ≤ 24 := by rw [vl]; exact Nat.le_trans (Nat.sub_le _ _) w2
        have su2 : (brkW (w.take (halfW w))).size ≤ 100 := Nat.le_trans (Nat.le_add_right _ 3) (by rw [zu]; exact Nat.le_trans (Nat.mul_le_mul_left 4 su) (by decide))
        have sv2 : (brkW (w.drop (halfW w))).size ≤ 100 := Nat.le_trans (Nat.le_add_right _ 3) (by rw [zv]; exact Nat.le_trans (Nat.mul_le_mul_left 4 sv) (by decide))
        rw [e1]
        generalize w.take (halfW w) = u at *
        generalize w.drop (halfW w) = v at *
        have h1 := impl_IsLyndon_ev u (by omega)
        have h2 := impl_IsLyndon_ev v (by omega)
        have h3 := impl_BracketText_ev u (by omega)
        have h4 := impl_BracketText_ev v (by omega)
        rw [if_pos wu, lu] at h1
        rw [if_pos wv, lv] at h2
        rw [show brkR u = (brkW u, true) by unfold brkR; rw [wu, lu, if_pos (by rfl)]] at h3
        rw [show brkR v = (brkW v, true) by unfold brkR; rw [wv, lv, if_pos (by rfl)]] at h4
        have h5 := laws_tLess_ev u v (by omega) (by omega)
        rw [lex_cmp, decide_eq_true t3] at h5
        simp only [decide_eq_true c, if_true]
        refine Ev.bind h1 (Ev.bind h2 (Ev.bind h3 (Ev.bind h4 ?_)))
        simp only [if_true]
        refine Ev.bind h5 ?_
        simp only [if_true, obind, List.nil_append, List.length_nil, if_pos (sm_a su), if_pos (sm_b su sv), hcat]
        refine Ev.bind (laws_tSame_self w (by omega)) ?_
        generalize brkW u = bu at *
        generalize brkW v = bv at *
        simp only [if_true, if_pos (sm_1 su2), if_pos (sm_2 su2), if_pos (sm_3 su2 sv2), if_pos (sm_4 su2 sv2), eW, beq_self_eq_true]
        exact Ev.now _
      · simp only [decide_eq_false c, Bool.false_eq_true, if_false]
        exact Ev.now _

end Go.Proofs.Ytaaoeaojimjikaa.Pure
