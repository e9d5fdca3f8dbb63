/- Conjugates, dominance and ranks of parted numbers; no program is in sight here. -/
import Derived.Test.YthaplgbhhppniaaCoreP
import Derived.Test.YthaplgbhhppniaaCorePR
namespace Go.Proofs.Ythaplgbhhppniaa.Core
open Go.RowKit Go.Proofs.YthaplgbhhppniaaW.PrintWords Go.Proofs.YthaplgbhhppniaaW.PrintLast Go.Proofs.YthaplgbhhppniaaW.PrintMore
set_option linter.unusedVariables false
set_option linter.unusedSimpArgs false

theorem parL_cons {m x : Int} {s : List Int} (h : parL m (x :: s) = true) : (1 ≤ x ∧ x ≤ 20) ∧ x ≤ m ∧ parL x s = true := by
  unfold parL at h
  rw [Bool.and_eq_true, Bool.and_eq_true, inB_true, decide_eq_true_iff] at h
  exact ⟨h.1, h.2.1, h.2.2⟩
theorem parL_mk {m x : Int} {s : List Int} (h1 : 1 ≤ x ∧ x ≤ 20) (h2 : x ≤ m) (h3 : parL x s = true) : parL m (x :: s) = true := by
  unfold parL
  rw [inB_yes h1, decide_eq_true h2, h3]; rfl
theorem parL_le (l : List Int) : ∀ m : Int, parL m l = true → ∀ x ∈ l, x ≤ m := by
  induction l with
  | nil => intro m _ x hx; cases hx
  | cons y s ih =>
    intro m h x hx
    obtain ⟨_, h2, h3⟩ := parL_cons h
    rcases List.mem_cons.1 hx with rfl | hx
    · exact h2
    · have := ih y h3 x hx; omega
theorem parL_mono {m m' : Int} {l : List Int} (h : parL m l = true) (hm : m ≤ m') : parL m' l = true := by
  cases l with
  | nil => rfl
  | cons x s =>
    obtain ⟨h1, h2, h3⟩ := parL_cons h
    exact parL_mk h1 (by omega) h3

/-! ### sums of conjugates -/
def sumC (d j : Int) : List Int → Int
  | [] => 0
  | x :: s => max 0 (min (x - j) d) + sumC d j s
theorem sumC_step (d j : Int) (hd : 0 ≤ d) (l : List Int) : cntGt j l + sumC d (j + 1) l = sumC (d + 1) j l := by
  induction l with
  | nil => rfl
  | cons x s ih =>
    simp only [cntGt, sumC]
    rw [← ih]
    by_cases c : x > j
    · rw [if_pos c]; omega
    · rw [if_neg c]; omega
theorem sumC_zero (j : Int) (l : List Int) : sumC 0 j l = 0 := by
  induction l with
  | nil => rfl
  | cons x s ih => simp only [sumC, ih]; omega
theorem conjF_sum (l : List Int) (d : Nat) : ∀ j, sumL (conjF l d j) = sumC d j l := by
  induction d with
  | zero => intro j; exact (sumC_zero j l).symm
  | succ d ih =>
    intro j
    simp only [conjF, sumL, ih]
    have := sumC_step (d : Int) j (by omega) l
    rw [this]; rfl
theorem conjF_take (l : List Int) (d : Nat) : ∀ (j : Int) (k : Nat), (conjF l d j).take k = conjF l (min k d) j := by
  induction d with
  | zero => intro j k; simp [conjF]
  | succ d ih =>
    intro j k
    cases k with
    | zero => simp [conjF]
    | succ k =>
      have e : min (k + 1) (d + 1) = min k d + 1 := by omega
      rw [e]
      simp only [conjF, List.take_succ_cons, ih]
theorem sumC_min (h k : Int) (l : List Int) (hl : ∀ x ∈ l, x ≤ h) : sumC (min k h) 0 l = sumC k 0 l := by
  induction l with
  | nil => rfl
  | cons x s ih =>
    have := hl x (List.mem_cons_self ..)
    simp only [sumC, ih (fun y hy => hl y (List.mem_cons_of_mem _ hy))]
    omega
theorem sumC_small (k : Int) (l : List Int) (hl : ∀ x ∈ l, 0 ≤ x ∧ x ≤ k) : sumC k 0 l = sumL l := by
  induction l with
  | nil => rfl
  | cons x s ih =>
    have := hl x (List.mem_cons_self ..)
    simp only [sumC, sumL, ih (fun y hy => hl y (List.mem_cons_of_mem _ hy))]
    omega
theorem head_max {l : List Int} {m : Int} (h : parL m l = true) : ∀ x ∈ l, x ≤ ((l.headD 0).toNat : Int) := by
  cases l with
  | nil => intro x hx; cases hx
  | cons y s =>
    obtain ⟨h1, h2, h3⟩ := parL_cons h
    intro x hx
    simp only [List.headD_cons]
    rcases List.mem_cons.1 hx with rfl | hx
    · omega
    · have := parL_le s y h3 x hx; omega
theorem conj_take {l : List Int} {m : Int} (h : parL m l = true) (k : Nat) : sumL ((conjL l).take k) = sumC k 0 l := by
  unfold conjL
  rw [conjF_take, conjF_sum]
  have e : ((min k (l.headD 0).toNat : Nat) : Int) = min (k : Int) ((l.headD 0).toNat : Int) := by omega
  rw [e, sumC_min _ _ _ (head_max h)]
theorem conj_sum {l : List Int} {m : Int} (h : parL m l = true) : sumL (conjL l) = sumL l := by
  unfold conjL
  rw [conjF_sum]
  exact sumC_small _ _ fun x hx => ⟨by have := parL_in h x hx; omega, head_max h x hx⟩
theorem cntGt_nonneg (j : Int) (l : List Int) : 0 ≤ cntGt j l ∧ cntGt j l ≤ l.length := by
  induction l with
  | nil => simp [cntGt]
  | cons x s ih => simp only [cntGt, List.length_cons]; split <;> omega
theorem cntGt_down (j : Int) (l : List Int) : cntGt (j + 1) l ≤ cntGt j l := by
  induction l with
  | nil => simp [cntGt]
  | cons x s ih => simp only [cntGt]; split <;> split <;> omega
theorem cntGt_one {j : Int} {l : List Int} (hj : 0 ≤ j) (h : j < l.headD 0) : 1 ≤ cntGt j l := by
  cases l with
  | nil => simp at h; omega
  | cons x s =>
    have := (cntGt_nonneg j s).1
    simp only [List.headD_cons] at h
    simp only [cntGt]
    rw [if_pos (by omega)]; omega
theorem conjF_par (l : List Int) (hl : l.length ≤ 20) (d : Nat) : ∀ (j M : Int), 0 ≤ j → j + d ≤ l.headD 0 → cntGt j l ≤ M → parL M (conjF l d j) = true := by
  induction d with
  | zero => intro j M _ _ _; rfl
  | succ d ih =>
    intro j M hj hd hM
    have h1 := cntGt_one (l := l) hj (by omega)
    have h2 := (cntGt_nonneg j l).2
    exact parL_mk ⟨h1, by omega⟩ hM (ih (j + 1) _ (by omega) (by omega) (cntGt_down j l))
theorem conj_isP {l : List Int} (h : isP l = true) : isP (conjL l) = true := by
  obtain ⟨h1, h2, h3, h4⟩ := isP_true h
  have hh := head_small h
  have e : parL 20 (conjL l) = true := by
    unfold conjL
    have := (cntGt_nonneg 0 l).2
    exact conjF_par l h2 _ 0 20 (by omega) (by omega) (by omega)
  unfold isP
  rw [e, conj_sum h1, decide_eq_true (p := sumL l ≤ 20) h3]
  have el : ((conjL l).length : Int) ≤ 20 := by unfold conjL; rw [conjF_len]; omega
  rw [decide_eq_true el]; rfl

/-! ### dominance turned round -/
theorem sumC_le (k : Int) (hk : 0 ≤ k) (l : List Int) : ∀ m : Nat, (∀ x ∈ l, 0 ≤ x) → sumC k 0 l ≤ sumL l - sumL (l.take m) + (m : Int) * k := by
  induction l with
  | nil =>
    intro m _
    have : 0 ≤ (m : Int) * k := Int.mul_nonneg (by omega) hk
    simp [sumC, sumL]; omega
  | cons x s ih =>
    intro m hl
    have hx := hl x (List.mem_cons_self ..)
    have hs := fun y hy => hl y (List.mem_cons_of_mem _ hy)
    cases m with
    | zero =>
      have := ih 0 hs
      simp only [List.take_zero, sumL, sumC] at this ⊢
      omega
    | succ m =>
      have := ih m hs
      have e : ((m + 1 : Nat) : Int) * k = (m : Int) * k + k := by rw [Int.natCast_add, Int.add_mul]; simp
      rw [e]
      simp only [List.take_succ_cons, sumL, sumC] at this ⊢
      omega
theorem sumC_at (k : Int) (hk : 0 ≤ k) (l : List Int) : ∀ M : Int, parL M l = true → ∃ m : Nat, sumC k 0 l = sumL l - sumL (l.take m) + (m : Int) * k := by
  induction l with
  | nil => intro M _; exact ⟨0, by simp [sumC, sumL]⟩
  | cons x s ih =>
    intro M h
    obtain ⟨h1, h2, h3⟩ := parL_cons h
    by_cases c : x ≤ k
    · refine ⟨0, ?_⟩
      have := sumC_small k (x :: s) fun y hy => by
        rcases List.mem_cons.1 hy with rfl | hy
        · omega
        · have := parL_le s x h3 y hy; have := parL_in h3 y hy; omega
      rw [this]; simp [sumL]
    · obtain ⟨m, hm⟩ := ih x h3
      refine ⟨m + 1, ?_⟩
      have e : ((m + 1 : Nat) : Int) * k = (m : Int) * k + k := by rw [Int.natCast_add, Int.add_mul]; simp
      rw [e]
      simp only [List.take_succ_cons, sumL, sumC, hm]
      omega
theorem sumC_for (m : Nat) : ∀ (l : List Int) (M : Int), 0 ≤ M → parL M l = true → ∃ k : Int, (0 ≤ k ∧ k ≤ M) ∧ sumC k 0 l = sumL l - sumL (l.take m) + (m : Int) * k := by
  induction m with
  | zero =>
    intro l M hM h
    refine ⟨M, ⟨hM, by omega⟩, ?_⟩
    rw [sumC_small M l fun x hx => ⟨by have := parL_in h x hx; omega, parL_le l M h x hx⟩]
    simp [sumL]
  | succ m ih =>
    intro l M hM h
    cases l with
    | nil => exact ⟨0, ⟨by omega, hM⟩, by simp [sumC, sumL]⟩
    | cons x s =>
      obtain ⟨h1, h2, h3⟩ := parL_cons h
      obtain ⟨k, ⟨hk, hk2⟩, he⟩ := ih s x (by omega) h3
      refine ⟨k, ⟨hk, by omega⟩, ?_⟩
      have e : ((m + 1 : Nat) : Int) * k = (m : Int) * k + k := by rw [Int.natCast_add, Int.add_mul]; simp
      rw [e]
      simp only [List.take_succ_cons, sumL, sumC, he]
      omega
theorem domP_iff {a b : List Int} (ha : ∀ x ∈ a, 0 ≤ x) (hb : ∀ x ∈ b, 0 ≤ x) : domP a b = true ↔ sumL a = sumL b ∧ ∀ k : Nat, sumL (b.take k) ≤ sumL (a.take k) := by
  have e := dom_same ha hb
  unfold domP
  rw [← e, Bool.and_eq_true, decide_eq_true_iff, domR_iff]
  constructor
  · rintro ⟨h1, h2⟩
    refine ⟨h2, fun k => ?_⟩
    by_cases hk : k < 0 + (max a.length b.length + 1)
    · exact h1 k (by omega) hk
    · rw [List.take_of_length_le (l := a) (by omega), List.take_of_length_le (l := b) (by omega)]; omega
  · rintro ⟨h1, h2⟩
    exact ⟨fun k _ _ => h2 k, h1⟩
theorem nonneg_of_isP {l : List Int} (h : isP l = true) : ∀ x ∈ l, 0 ≤ x := fun x hx => by have := (isP_true h).2.2.2 x hx; omega
theorem dom_conj {a b : List Int} (ha : isP a = true) (hb : isP b = true) : domP (conjL b) (conjL a) = domP a b := by
  have pa := (isP_true ha).1
  have pb := (isP_true hb).1
  have na := nonneg_of_isP ha
  have nb := nonneg_of_isP hb
  rw [Bool.eq_iff_iff, domP_iff (nonneg_of_isP (conj_isP hb)) (nonneg_of_isP (conj_isP ha)), domP_iff na nb, conj_sum pa, conj_sum pb]
  constructor
  · rintro ⟨h1, h2⟩
    refine ⟨h1.symm, fun m => ?_⟩
    obtain ⟨k, ⟨hk, _⟩, he⟩ := sumC_for m a 20 (by omega) pa
    obtain ⟨q, rfl⟩ : ∃ q : Nat, k = (q : Int) := ⟨k.toNat, by omega⟩
    have h3 := h2 q
    rw [conj_take pa, conj_take pb] at h3
    have h4 := sumC_le (q : Int) hk b m nb
    omega
  · rintro ⟨h1, h2⟩
    refine ⟨h1.symm, fun q => ?_⟩
    rw [conj_take pa, conj_take pb]
    obtain ⟨m, he⟩ := sumC_at (q : Int) (by omega) b 20 pb
    have h3 := h2 m
    have h4 := sumC_le (q : Int) (by omega) a m na
    omega
theorem dom_trans {a b c : List Int} (ha : isP a = true) (hb : isP b = true) (hc : isP c = true) (h1 : domP a b = true) (h2 : domP b c = true) : domP a c = true := by
  rw [domP_iff (nonneg_of_isP ha) (nonneg_of_isP hb)] at h1
  rw [domP_iff (nonneg_of_isP hb) (nonneg_of_isP hc)] at h2
  rw [domP_iff (nonneg_of_isP ha) (nonneg_of_isP hc)]
  exact ⟨by omega, fun k => by have := h1.2 k; have := h2.2 k; omega⟩

/-! ### ranks -/
theorem above_sum {n : Nat} (hn : n ≤ 20) (x y : Nat) : x ≤ y → y ≤ n → above n x y + pc n x = pc n y := by
  induction y with
  | zero => intro h _; have : x = 0 := by omega
            subst this; simp [above]
  | succ y ih =>
    intro h hy
    unfold above
    by_cases c : x < y + 1
    · rw [if_pos c, pc_step hn hy]
      have := ih (by omega) (by omega)
      omega
    · rw [if_neg c]
      have : x = y + 1 := by omega
      subst this; omega
theorem pc_part {n x : Nat} (hn : n ≤ 20) (h1 : 1 ≤ x) (hx : x ≤ n) : pc n x = pc n (x - 1) + pc (n - x) x := by
  obtain ⟨y, rfl⟩ : ∃ y, x = y + 1 := ⟨x - 1, by omega⟩
  rw [pc_step hn hx]; rfl
theorem pc_00 : pc 0 0 = 1 := rfl
theorem rkP_lt (s : List Int) : ∀ n most : Nat, n ≤ 20 → most ≤ 20 → parL most s = true → sumL s = n → rkP n most s < pc n (min most n) := by
  induction s with
  | nil =>
    intro n most _ _ _ h
    simp only [sumL] at h
    have : n = 0 := by omega
    subst this
    simp [rkP, pc_00]
  | cons x s ih =>
    intro n most hn hm hp h
    obtain ⟨h1, h2, h3⟩ := parL_cons hp
    have hs := sumL_nonneg fun y hy => (by have := parL_in h3 y hy; omega : 0 ≤ y)
    obtain ⟨X, rfl⟩ : ∃ X : Nat, x = (X : Int) := ⟨x.toNat, by omega⟩
    simp only [sumL] at h
    have := ih (n - X) X (by omega) (by omega) h3 (by omega)
    rw [← pc_min (by omega) (by omega)] at this
    have e1 := above_sum hn X (min most n) (by omega) (by omega)
    have e2 := pc_part hn (x := X) (by omega) (by omega)
    simp only [rkP, Int.toNat_natCast]
    omega
theorem rk_dom (s : List Int) : ∀ (t : List Int) (n most : Nat), n ≤ 20 → most ≤ 20 → parL most s = true → parL most t = true → sumL s = n → sumL t = n → (∀ k : Nat, sumL (t.take k) ≤ sumL (s.take k)) → rkP n most s ≤ rkP n most t := by
  induction s with
  | nil => intro t n most _ _ _ _ _ _ _; exact Nat.zero_le _
  | cons x a ih =>
    intro t n most hn hm hp hq hs ht hd
    obtain ⟨h1, h2, h3⟩ := parL_cons hp
    have ha := sumL_nonneg fun y hy => (by have := parL_in h3 y hy; omega : 0 ≤ y)
    cases t with
    | nil => simp only [sumL] at hs ht; omega
    | cons y b =>
      obtain ⟨g1, g2, g3⟩ := parL_cons hq
      have hb := sumL_nonneg fun y hy => (by have := parL_in g3 y hy; omega : 0 ≤ y)
      obtain ⟨X, rfl⟩ : ∃ X : Nat, x = (X : Int) := ⟨x.toNat, by omega⟩
      obtain ⟨Y, rfl⟩ : ∃ Y : Nat, y = (Y : Int) := ⟨y.toNat, by omega⟩
      have hd1 := hd 1
      simp only [List.take_succ_cons, List.take_zero, sumL] at hd1
      simp only [sumL] at hs ht
      simp only [rkP, Int.toNat_natCast]
      by_cases c : X = Y
      · subst c
        have := ih b (n - X) X (by omega) (by omega) h3 g3 (by omega) (by omega) fun k => by
          have := hd (k + 1)
          simp only [List.take_succ_cons, sumL] at this
          omega
        omega
      · have r := rkP_lt a (n - X) X (by omega) (by omega) h3 (by omega)
        rw [← pc_min (by omega) (by omega)] at r
        have e1 := above_sum hn X (min most n) (by omega) (by omega)
        have e2 := above_sum hn Y (min most n) (by omega) (by omega)
        have e3 := pc_part hn (x := X) (by omega) (by omega)
        have e4 := above_sum hn Y (X - 1) (by omega) (by omega)
        omega
theorem unPF_ok (f : Nat) : ∀ n most rank, n ≤ f → n ≤ 20 → most ≤ 20 → rank < pc n most → sumL (unPF f n most rank) = n ∧ parL most (unPF f n most rank) = true := by
  induction f with
  | zero => intro n most rank h _ _ _; have : n = 0 := by omega
            subst this; exact ⟨rfl, rfl⟩
  | succ f ih =>
    intro n most rank hf hn hm hr
    unfold unPF
    by_cases h0 : n = 0
    · subst h0; exact ⟨rfl, rfl⟩
    · rw [if_neg h0]
      rw [pc_min hn hm] at hr
      obtain ⟨g1, g2, g3⟩ := findX_fits hn (by omega) (min most n) rank (by omega) hr
      obtain ⟨i1, i2⟩ := ih (n - (findX n (min most n) rank).1) (findX n (min most n) rank).1 (findX n (min most n) rank).2 (by omega) (by omega) (by omega) g3
      generalize findX n (min most n) rank = q at g1 g2 g3 i1 i2
      refine ⟨?_, parL_mk (by omega) (by omega) i2⟩
      simp only [sumL, i1]; omega
theorem unP_ok {n rank : Nat} (hn : n ≤ 20) (hr : rank < pc n n) : sumL (unP n n rank) = n ∧ isP (unP n n rank) = true := by
  obtain ⟨h1, h2⟩ := unPF_ok n n n rank (Nat.le_refl _) hn hn hr
  refine ⟨h1, ?_⟩
  have h3 := unP_len n n rank
  have h4 : parL 20 (unP n n rank) = true := parL_mono h2 (by omega)
  have h5 : sumL (unP n n rank) = n := h1
  unfold isP
  rw [h4, h5, decide_eq_true (p := ((unP n n rank).length : Int) ≤ 20) (by omega), decide_eq_true (p := (n : Int) ≤ 20) (by omega)]; rfl

end Go.Proofs.Ythaplgbhhppniaa.Core
