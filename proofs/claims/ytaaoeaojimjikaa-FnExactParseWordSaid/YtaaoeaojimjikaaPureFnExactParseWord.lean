/- The program's ParseWord returns what the reference's returns, for every text that takes at most 2^47 - 4096 bytes. -/
import Derived.Test.YtaaoeaojimjikaaPFnExactParseWordx2
import Derived.Test.YtaaoeaojimjikaaCoreA
import Derived.Test.YtaaoeaojimjikaaCoreL
namespace Go.Proofs.Ytaaoeaojimjikaa.Pure
open Go.RowKit Go.Proofs.Ytaaoeaojimjikaa.PFnExactParseWord Go.Proofs.YtaaoeaojimjikaaW.PrintWords Go.Proofs.YtaaoeaojimjikaaW.PrintLast Go.Proofs.YtaaoeaojimjikaaW.PrintMore Go.Proofs.Ytaaoeaojimjikaa.Core
set_option linter.unusedVariables false
set_option linter.unusedSimpArgs false

theorem laws_eqIntS_loop (s : List Int) : ∀ (p q t : List Int) (i : Int), t.length = s.length → q.length = p.length → i = (p.length : Int) → (p ++ s).length ≤ 1099511627776 →
    Ev (fun k => laws_eqIntS.l0 k (p ++ s) (q ++ t) i) (decide (s = t)) := by
  induction s with
  | nil =>
    intro p q t i ht hq hi hl
    have ht0 : t = [] := List.eq_nil_of_length_eq_zero ht
    subst ht0
    refine Ev.done fun k => ?_
    simp only [laws_eqIntS.l0]
    rw [if_neg (by rw [len_nil]; omega)]
    simp
  | cons x s ih =>
    intro p q t i ht hq hi hl
    cases t with
    | nil => simp at ht
    | cons y t =>
      have ht' : t.length = s.length := by simpa using ht
      have h1 := len_mid p s x
      have h2 := len_mid q t y
      by_cases hxy : x = y
      · have := ih (p ++ [x]) (q ++ [y]) t (i + 1) ht' (by simp [hq]) (by rw [len_snoc]; omega) (by rw [← snoc_mid]; exact hl)
        rw [← snoc_mid, ← snoc_mid] at this
        refine Ev.to (Ev.step' this fun k => ?_) (by simp [hxy])
        simp only [laws_eqIntS.l0]
        rw [if_pos (by omega), if_pos (by omega), if_pos (by omega), rd_mid hi, rd_mid (by omega), if_pos hxy, w64 (by omega)]
      · refine Ev.to (Ev.done fun k => ?_) (show false = _ by simp [hxy])
        simp only [laws_eqIntS.l0]
        rw [if_pos (by omega), if_pos (by omega), if_pos (by omega), rd_mid hi, rd_mid (by omega), if_neg hxy]
theorem laws_eqIntS_ev (l t : List Int) (hl : l.length ≤ 1099511627776) : Ev (fun k => laws_eqIntS.f k l t) (decide (l = t)) := by
  by_cases h : l.length = t.length
  · have := laws_eqIntS_loop l [] [] t 0 h.symm rfl (by simp) (by simpa using hl)
    simp only [List.nil_append] at this
    refine Ev.congr (fun k => ?_) this
    unfold laws_eqIntS.f
    rw [if_pos (by omega)]
  · refine Ev.to (Ev.congr (fun k => ?_) (Ev.now false)) (by rw [decide_eq_false]; exact fun e => h (by rw [e]))
    unfold laws_eqIntS.f
    rw [if_neg (by omega)]

theorem laws_markIntS_loop (s : List Int) : ∀ (p : List Int) (m i : Int), 0 ≤ m → m + s.length ≤ 1099511627776 → i = (p.length : Int) → (p ++ s).length ≤ 1099511627776 →
    Ev (fun k => laws_markIntS.l0 k (p ++ s) m i) (m + s.length, p ++ upFrom m s.length) := by
  induction s with
  | nil =>
    intro p m i hm hm' hi hl
    refine Ev.to (Ev.done fun k => ?_) (show (m, p ++ []) = _ by simp [upFrom])
    simp only [laws_markIntS.l0]
    rw [if_neg (by rw [len_nil]; omega)]
  | cons x s ih =>
    intro p m i hm hm' hi hl
    have h1 := len_mid p s x
    have h2 : (((x :: s).length : Nat) : Int) = s.length + 1 := by simp
    have h3 : (p ++ m :: s).length = (p ++ x :: s).length := by simp
    have := ih (p ++ [m]) (m + 1) (i + 1) (by omega) (by omega) (by rw [len_snoc]; omega) (by rw [← snoc_mid, h3]; exact hl)
    rw [← snoc_mid] at this
    refine Ev.to (Ev.step' this fun k => ?_) (by rw [h2, ← snoc_mid]; simp only [List.length_cons, upFrom]; congr 1; omega)
    simp only [laws_markIntS.l0]
    rw [if_pos (by omega), if_pos (by omega), set_mid hi, w64 (by omega), w64 (by omega)]
theorem laws_markIntS_ev (l : List Int) (hl : l.length ≤ 109951162777) : Ev (fun k => laws_markIntS.f k l 1) (1 + l.length, upFrom 1 l.length) :=
  laws_markIntS_loop l [] 1 0 (by omega) (by omega) (by simp) (by simp; omega)

theorem laws_heldIntS_loop (n : Nat) : ∀ (p : List Int) (m i : Int), 0 ≤ m → m + n ≤ 1099511627776 → i = (p.length : Int) → p.length + n ≤ 1099511627776 →
    Ev (fun k => laws_heldIntS.l0 k (p ++ upFrom m n) m i) (m + n) := by
  induction n with
  | zero =>
    intro p m i hm hm' hi hl
    show Ev (fun k => laws_heldIntS.l0 k (p ++ []) m i) _
    refine Ev.to (Ev.done fun k => ?_) (show m = _ by simp)
    simp only [laws_heldIntS.l0]
    rw [if_neg (by rw [len_nil]; omega)]
  | succ n ih =>
    intro p m i hm hm' hi hl
    have h1 := len_mid p (upFrom (m + 1) n) m
    have := ih (p ++ [m]) (m + 1) (i + 1) (by omega) (by omega) (by rw [len_snoc]; omega) (by rw [List.length_append]; simp; omega)
    rw [← snoc_mid] at this
    show Ev (fun k => laws_heldIntS.l0 k (p ++ m :: upFrom (m + 1) n) m i) _
    refine Ev.to (Ev.step' this fun k => ?_) (by omega)
    simp only [laws_heldIntS.l0]
    rw [if_pos (by omega), if_pos (by omega), rd_mid hi, if_pos rfl, w64 (by omega), w64 (by omega)]
theorem laws_heldIntS_ev (n : Nat) (hn : n ≤ 109951162777) : Ev (fun k => laws_heldIntS.f k (upFrom 1 n) 1) (1 + n) :=
  laws_heldIntS_loop n [] 1 0 (by omega) (by omega) (by simp) (by simp; omega)

theorem spec_l1In_eq (a b c : Int) : spec_l1In.f a b c = some (inB a b c) := inB_ite a b c

theorem spec_l1All_loop (lo hi : Int) (s : List Int) : ∀ (p : List Int) (n i : Int), n = ((p ++ s).length : Int) → i = (p.length : Int) → (p ++ s).length ≤ 1099511627776 →
    Ev (fun k => spec_l1All.l0 k lo hi (p ++ s) n i) (s.all fun x => inB x lo hi) := by
  induction s with
  | nil =>
    intro p n i hn hx hl
    refine Ev.done fun k => ?_
    simp only [spec_l1All.l0]
    rw [if_neg (by rw [len_nil] at hn; omega)]
    rfl
  | cons x s ih =>
    intro p n i hn hx hl
    have h1 := len_mid p s x
    cases hb : inB x lo hi with
    | true =>
      have := ih (p ++ [x]) n (i + 1) (by rw [← snoc_mid]; exact hn) (by rw [len_snoc]; omega) (by rw [← snoc_mid]; exact hl)
      rw [← snoc_mid] at this
      refine Ev.to (Ev.step' this fun k => ?_) (by simp [hb])
      simp only [spec_l1All.l0]
      rw [if_pos (by omega), if_pos (by omega), if_pos (by omega), rd_mid hx, spec_l1In_eq, hb, w64 (by omega)]
      rfl
    | false =>
      refine Ev.to (Ev.done fun k => ?_) (show false = _ by simp [hb])
      simp only [spec_l1All.l0]
      rw [if_pos (by omega), if_pos (by omega), if_pos (by omega), rd_mid hx, spec_l1In_eq, hb]
      rfl
theorem spec_l1All_ev (l : List Int) (lo hi : Int) (hl : l.length ≤ 1099511627776) : Ev (fun k => spec_l1All.f k l lo hi) (l.all fun x => inB x lo hi) :=
  spec_l1All_loop lo hi l [] _ 0 rfl (by simp) (by simpa using hl)

theorem spec_lyWord_ev (l : List Int) (hl : l.length ≤ 1099511627776) : Ev (fun k => spec_lyWord.f k l) (isW l) := by
  unfold spec_lyWord.f isW
  simp only [spec_l1In_eq, obind]
  cases h : inB (l.length : Int) 1 24 with
  | true => simpa using spec_l1All_ev l 0 5 hl
  | false => exact Ev.now _

theorem spec_ParseWord_loop (s : ByteArray) (hs : s.size ≤ 1099511627776) (d : Nat) : ∀ i : Nat, i + d = s.size →
    Ev (fun k => spec_ParseWord.l0 k s (byteL s i) (i : Int)) (if isW (byteL s s.size) = true then (byteL s s.size, true) else ([], false)) := by
  induction d with
  | zero =>
    intro i hi
    have : i = s.size := by omega
    subst this
    refine Ev.succ ?_
    simp only [spec_ParseWord.l0]
    simp only [if_neg (show ¬ (s.size : Int) < (s.size : Int) by omega)]
    refine Ev.bind (spec_lyWord_ev _ (by rw [byteL_len]; exact hs)) ?_
    split <;> exact Ev.now _
  | succ d ih =>
    intro i hi
    have hb := bt_range s (i : Int)
    have e1 : wrap64 (wrap64 (bt s (i : Int)) - 48) = bt s (i : Int) - 48 := by rw [w64 (n := bt s (i : Int)) (by omega), w64 (by omega)]
    have e2 : wrap64 ((i : Int) + 1) = ((i + 1 : Nat) : Int) := by rw [w64 (by omega)]; omega
    refine Ev.succ ?_
    simp only [spec_ParseWord.l0]
    simp only [if_pos (show (i : Int) < (s.size : Int) by omega), if_pos (show 0 ≤ (i : Int) by omega), if_pos (show (byteL s i).length < 17592186044416 by rw [byteL_len]; omega), e1, e2, ← byteL_succ]
    exact ih (i + 1) (by omega)
theorem spec_ParseWord_ev (s : ByteArray) (hs : s.size ≤ 1099511627776) : Ev (fun k => spec_ParseWord.f k s) (if isW (byteL s s.size) = true then (byteL s s.size, true) else ([], false)) :=
  spec_ParseWord_loop s hs s.size 0 (by omega)

theorem impl_within_eq (a b c : Int) : impl_within.f a b c = some (inB a b c) := inB_ite a b c

theorem impl_allWithin_loop (lo hi : Int) (s : List Int) : ∀ (p : List Int) (n i : Int), n = ((p ++ s).length : Int) → i = (p.length : Int) → (p ++ s).length ≤ 1099511627776 →
    Ev (fun k => impl_allWithin.l0 k lo hi (p ++ s) n i) (s.all fun x => inB x lo hi) := by
  induction s with
  | nil =>
    intro p n i hn hx hl
    refine Ev.done fun k => ?_
    simp only [impl_allWithin.l0]
    rw [if_neg (by rw [len_nil] at hn; omega)]
    rfl
  | cons x s ih =>
    intro p n i hn hx hl
    have h1 := len_mid p s x
    cases hb : inB x lo hi with
    | true =>
      have := ih (p ++ [x]) n (i + 1) (by rw [← snoc_mid]; exact hn) (by rw [len_snoc]; omega) (by rw [← snoc_mid]; exact hl)
      rw [← snoc_mid] at this
      refine Ev.to (Ev.step' this fun k => ?_) (by simp [hb])
      simp only [impl_allWithin.l0]
      rw [if_pos (by omega), if_pos (by omega), if_pos (by omega), rd_mid hx, impl_within_eq, hb, w64 (by omega)]
      rfl
    | false =>
      refine Ev.to (Ev.done fun k => ?_) (show false = _ by simp [hb])
      simp only [impl_allWithin.l0]
      rw [if_pos (by omega), if_pos (by omega), if_pos (by omega), rd_mid hx, impl_within_eq, hb]
      rfl
theorem impl_allWithin_ev (l : List Int) (lo hi : Int) (hl : l.length ≤ 1099511627776) : Ev (fun k => impl_allWithin.f k l lo hi) (l.all fun x => inB x lo hi) :=
  impl_allWithin_loop lo hi l [] _ 0 rfl (by simp) (by simpa using hl)

theorem impl_IsWord_ev (l : List Int) (hl : l.length ≤ 1099511627776) : Ev (fun k => impl_IsWord.f k l) (isW l) := by
  unfold impl_IsWord.f isW
  simp only [impl_within_eq, obind]
  cases h : inB (l.length : Int) 1 24 with
  | true => simpa using impl_allWithin_ev l 0 5 hl
  | false => exact Ev.now _

theorem impl_ParseWord_loop (s : ByteArray) (n : Nat) (hn : n ≤ s.size) (hs : n ≤ 25) (d : Nat) : ∀ i : Nat, i + d = n →
    Ev (fun k => impl_ParseWord.l0 k s (byteL s i) (n : Int) (i : Int)) (if isW (byteL s n) = true then (byteL s n, true) else ([], false)) := by
  induction d with
  | zero =>
    intro i hi
    have : i = n := by omega
    subst this
    refine Ev.succ ?_
    simp only [impl_ParseWord.l0]
    simp only [if_neg (show ¬ (i : Int) < (i : Int) by omega)]
    refine Ev.bind (impl_IsWord_ev _ (by rw [byteL_len]; omega)) ?_
    split <;> exact Ev.now _
  | succ d ih =>
    intro i hi
    have hb := bt_range s (i : Int)
    have e1 : wrap64 (wrap64 (bt s (i : Int)) - 48) = bt s (i : Int) - 48 := by rw [w64 (n := bt s (i : Int)) (by omega), w64 (by omega)]
    have e2 : wrap64 ((i : Int) + 1) = ((i + 1 : Nat) : Int) := by rw [w64 (by omega)]; omega
    refine Ev.succ ?_
    simp only [impl_ParseWord.l0]
    simp only [if_pos (show (i : Int) < (n : Int) by omega), if_pos (show (i : Int) < (s.size : Int) by omega), if_pos (show 0 ≤ (i : Int) by omega), if_pos (show (byteL s i).length < 17592186044416 by rw [byteL_len]; omega), e1, e2, ← byteL_succ]
    exact ih (i + 1) (by omega)
theorem impl_ParseWord_ev (s : ByteArray) : Ev (fun k => impl_ParseWord.f k s) (if isW (byteL s s.size) = true then (byteL s s.size, true) else ([], false)) := by
  have h := impl_ParseWord_loop s (min s.size 25) (by omega) (by omega) (min s.size 25) 0 (by omega)
  unfold impl_ParseWord.f
  have e : mn (s.size : Int) 25 = ((min s.size 25 : Nat) : Int) := by rw [mn_min]; omega
  simp only [e]
  refine Ev.to (Ev.congr (fun k => ?_) h) ?_
  · rfl
  · by_cases h25 : s.size ≤ 25
    · rw [Nat.min_eq_left h25]
    · rw [Nat.min_eq_right (by omega), isW_long (l := byteL s 25) (by rw [byteL_len]; omega), isW_long (l := byteL s s.size) (by rw [byteL_len]; omega)]
      rfl

theorem FnExactParseWord : laws_FnExactParseWord.Pure := by
  intro s _
  unfold laws_FnExactParseWord.f
  by_cases hbig : (s.size : Int) > 1048576
  · exact ⟨0, by rw [if_pos hbig]⟩
  simp only [if_neg hbig]
  have hs := spec_ParseWord_ev s (by omega)
  have hi := impl_ParseWord_ev s
  have hl : (if isW (byteL s s.size) = true then (byteL s s.size, true) else ([], false) : List Int × Bool).1.length ≤ 1048576 := by
    split
    · show (byteL s s.size).length ≤ 1048576
      rw [byteL_len]; omega
    · simp
  generalize (if isW (byteL s s.size) = true then (byteL s s.size, true) else ([], false) : List Int × Bool) = R at hs hi hl
  obtain ⟨o, b⟩ := R
  simp only at hl
  have he := laws_eqIntS_ev o o (by omega)
  have hm := laws_markIntS_ev o (by omega)
  have hh := laws_heldIntS_ev o.length (by omega)
  refine (Ev.bind hs (Ev.bind hi (Ev.bind he ?_))).rounds
  simp only [decide_true, if_true, bne_self_eq_false]
  refine Ev.succ ?_
  simp only [laws_FnExactParseWord.j0, Bool.false_eq_true, if_false]
  refine Ev.bind hm (Ev.bind hh ?_)
  simp only [if_neg (show ¬ (1 + (o.length : Int)) < 0 by omega), if_true]
  refine Ev.bind hi (Ev.bind he ?_)
  simp only [decide_true, if_true, bne_self_eq_false]
  refine Ev.succ ?_
  simp only [laws_FnExactParseWord.j1, Bool.false_eq_true, if_false]
  refine Ev.bind hh ?_
  simp only [if_neg (show ¬ (1 + (o.length : Int)) < 0 by omega), if_true]
  exact Ev.now _

end Go.Proofs.Ytaaoeaojimjikaa.Pure
