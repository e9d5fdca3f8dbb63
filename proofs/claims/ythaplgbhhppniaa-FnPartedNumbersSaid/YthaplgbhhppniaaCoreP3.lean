/- Parted numbers: conjugates undo each other, ranks go down, and those with few numbers are counted; no program is in sight here. -/
import Derived.Test.YthaplgbhhppniaaCoreP2
namespace Go.Proofs.Ythaplgbhhppniaa.Core
open Go.RowKit Go.Proofs.YthaplgbhhppniaaW.PrintWords Go.Proofs.YthaplgbhhppniaaW.PrintLast Go.Proofs.YthaplgbhhppniaaW.PrintMore
set_option linter.unusedVariables false
set_option linter.unusedSimpArgs false

theorem cntGt_none {j : Int} {l : List Int} (h : ∀ x ∈ l, x ≤ j) : cntGt j l = 0 := by
  induction l with
  | nil => rfl
  | cons x s ih =>
    have := h x (List.mem_cons_self ..)
    simp only [cntGt, ih (fun y hy => h y (List.mem_cons_of_mem _ hy))]
    rw [if_neg (by omega)]; rfl
theorem cntGt_take (j : Int) (l : List Int) : ∀ (M : Int) (k : Nat), parL M l = true → cntGt j (l.take k) = max 0 (min (cntGt j l) k) := by
  induction l with
  | nil => intro M k _; simp [cntGt]; omega
  | cons x s ih =>
    intro M k h
    obtain ⟨h1, h2, h3⟩ := parL_cons h
    have hn := (cntGt_nonneg j s).1
    cases k with
    | zero => simp only [List.take_zero, cntGt]; split <;> omega
    | succ k =>
      simp only [List.take_succ_cons, cntGt, ih x k h3]
      by_cases c : x > j
      · rw [if_pos c]; omega
      · rw [if_neg c, cntGt_none (l := s) fun y hy => by have := parL_le s x h3 y hy; omega]; omega
theorem conj_twice_sum (l : List Int) {M : Int} (h : parL M l = true) (k d : Nat) : ∀ j, sumC k 0 (conjF l d j) = sumL (conjF (l.take k) d j) := by
  induction d with
  | zero => intro j; rfl
  | succ d ih =>
    intro j
    simp only [conjF, sumC, sumL, ih, cntGt_take j l M k h]
    omega
theorem eq_of_sums (s : List Int) : ∀ t : List Int, (∀ x ∈ s, 1 ≤ x) → (∀ x ∈ t, 1 ≤ x) → (∀ k : Nat, sumL (s.take k) = sumL (t.take k)) → s = t := by
  induction s with
  | nil =>
    intro t _ ht h
    cases t with
    | nil => rfl
    | cons y t => have := h 1; have := ht y (List.mem_cons_self ..); simp [sumL] at *; omega
  | cons x s ih =>
    intro t hs ht h
    cases t with
    | nil => have := h 1; have := hs x (List.mem_cons_self ..); simp [sumL] at *; omega
    | cons y t =>
      have h1 := h 1
      simp only [List.take_succ_cons, List.take_zero, sumL] at h1
      have e : x = y := by omega
      subst e
      rw [ih t (fun z hz => hs z (List.mem_cons_of_mem _ hz)) (fun z hz => ht z (List.mem_cons_of_mem _ hz)) fun k => by
        have := h (k + 1)
        simp only [List.take_succ_cons, sumL] at this
        omega]
theorem conj_conj {l : List Int} (h : isP l = true) : conjL (conjL l) = l := by
  have p := (isP_true h).1
  have hc := conj_isP h
  refine eq_of_sums _ _ (fun x hx => ((isP_true (conj_isP hc)).2.2.2 x hx).1) (fun x hx => ((isP_true h).2.2.2 x hx).1) fun k => ?_
  rw [conj_take (isP_true hc).1]
  have e : sumC (k : Int) 0 (conjL l) = sumL (conjF (l.take k) (l.headD 0).toNat 0) := conj_twice_sum l p k _ 0
  rw [e, conjF_sum]
  exact sumC_small _ _ fun x hx => ⟨nonneg_of_isP h x (List.mem_of_mem_take hx), head_max p x (List.mem_of_mem_take hx)⟩

/-! ### ranks undone, and their order -/
theorem findX_rank {n : Nat} (hn : n ≤ 20) (h1 : 1 ≤ n) (x : Nat) : ∀ r, x ≤ n → r < pc n x → above n (findX n x r).1 x + (findX n x r).2 = r := by
  induction x with
  | zero => intro r _ h; rw [pc_none n (by omega) h1] at h; omega
  | succ x ih =>
    intro r hx h
    rw [pc_step hn hx] at h
    unfold findX
    by_cases c : r < pc (n - (x + 1)) (x + 1)
    · rw [if_pos c]
      simp only [above]
      rw [if_neg (by omega)]; omega
    · rw [if_neg c]
      have h2 := ih (r - pc (n - (x + 1)) (x + 1)) (by omega) (by omega)
      obtain ⟨g1, g2, g3⟩ := findX_fits hn h1 x (r - pc (n - (x + 1)) (x + 1)) (by omega) (by omega)
      simp only [above]
      rw [if_pos (by omega)]; omega
theorem rk_unPF (f : Nat) : ∀ n most rank, n ≤ f → n ≤ 20 → most ≤ 20 → rank < pc n most → rkP n most (unPF f n most rank) = rank := by
  induction f with
  | zero => intro n most rank h _ hm hr; have : n = 0 := by omega
            subst this
            rw [pc_min (by omega) hm, Nat.min_zero, pc_00] at hr
            simp [unPF, rkP]; omega
  | succ f ih =>
    intro n most rank hf hn hm hr
    unfold unPF
    by_cases h0 : n = 0
    · subst h0
      rw [pc_min (by omega) hm, Nat.min_zero, pc_00] at hr
      simp [rkP]; omega
    · rw [if_neg h0]
      rw [pc_min hn hm] at hr
      have h2 := findX_rank hn (by omega) (min most n) rank (by omega) hr
      obtain ⟨g1, g2, g3⟩ := findX_fits hn (by omega) (min most n) rank (by omega) hr
      have h3 := ih (n - (findX n (min most n) rank).1) (findX n (min most n) rank).1 (findX n (min most n) rank).2 (by omega) (by omega) (by omega) g3
      simp only [rkP, Int.toNat_natCast, h3]
      exact h2
theorem findX_lt {n : Nat} (hn : n ≤ 20) (h1 : 1 ≤ n) (x : Nat) : ∀ a b, x ≤ n → a < b → b < pc n x →
    (findX n x b).1 < (findX n x a).1 ∨ ((findX n x b).1 = (findX n x a).1 ∧ (findX n x a).2 < (findX n x b).2) := by
  induction x with
  | zero => intro a b _ _ h; rw [pc_none n (by omega) h1] at h; omega
  | succ x ih =>
    intro a b hx hab h
    rw [pc_step hn hx] at h
    unfold findX
    by_cases ca : a < pc (n - (x + 1)) (x + 1)
    · rw [if_pos ca]
      by_cases cb : b < pc (n - (x + 1)) (x + 1)
      · rw [if_pos cb]; exact .inr ⟨rfl, hab⟩
      · rw [if_neg cb]
        obtain ⟨g1, g2, g3⟩ := findX_fits hn h1 x (b - pc (n - (x + 1)) (x + 1)) (by omega) (by omega)
        exact .inl (by simp only; omega)
    · rw [if_neg ca, if_neg (by omega)]
      exact ih _ _ (by omega) (by omega) (by omega)
theorem unPF_lt (f : Nat) : ∀ n most a b, n ≤ f → n ≤ 20 → most ≤ 20 → a < b → b < pc n most → lexLt (unPF f n most b) (unPF f n most a) = true := by
  induction f with
  | zero => intro n most a b h _ hm hab hb; have : n = 0 := by omega
            subst this
            rw [pc_min (by omega) hm, Nat.min_zero, pc_00] at hb
            omega
  | succ f ih =>
    intro n most a b hf hn hm hab hb
    unfold unPF
    by_cases h0 : n = 0
    · subst h0
      rw [pc_min (by omega) hm, Nat.min_zero, pc_00] at hb
      omega
    · rw [if_neg h0, if_neg h0]
      rw [pc_min hn hm] at hb
      have h2 := findX_lt hn (by omega) (min most n) a b (by omega) hab hb
      obtain ⟨g1, g2, g3⟩ := findX_fits hn (by omega) (min most n) b (by omega) hb
      unfold lexLt
      rcases h2 with h2 | ⟨h2, h3⟩
      · rw [if_neg (by omega), decide_eq_true (by omega)]
      · rw [if_pos (by rw [h2]), h2]
        rw [h2] at g1 g2 g3
        exact ih _ _ _ _ (by omega) (by omega) (by omega) h3 g3

/-! ### how many have few numbers -/
def fewF : Nat → Nat → Nat → Nat → Nat
  | 0, n, _, _ => if n = 0 then 1 else 0
  | f + 1, n, most, m => if n = 0 then 1 else if m = 0 then 0 else fewR (fewF f) n (m - 1) (min most n)
  where
  fewR (g : Nat → Nat → Nat → Nat) (n m : Nat) : Nat → Nat
    | 0 => 0
    | x + 1 => g (n - (x + 1)) (x + 1) m + fewR g n m x
set_option maxRecDepth 100000 in
theorem few_all : ∀ n : Nat, n < 21 → ∀ m : Nat, m < 21 → fewF n n n m = pc n m := by decide +kernel
def lenLe (m : Nat) (l : List Int) : Bool := decide (l.length ≤ m)
theorem few_row (f n : Nat) (hn : n ≤ 20) (h1 : 1 ≤ n) (hf : n ≤ f + 1) (m : Nat)
    (ih : ∀ n' most, n' ≤ f → n' ≤ 20 → most ≤ 20 → ((List.range (pc n' most)).map (unPF f n' most)).countP (lenLe m) = fewF f n' most m) (x : Nat) : x ≤ n →
    ((List.range (pc n x)).map fun r => ((findX n x r).1 : Int) :: unPF f (n - (findX n x r).1) (findX n x r).1 (findX n x r).2).countP (lenLe (m + 1)) = fewF.fewR (fewF f) n m x := by
  induction x with
  | zero => intro _; rw [pc_none n (by omega) h1]; rfl
  | succ x ihx =>
    intro hx
    have e : pc n (x + 1) = pc (n - (x + 1)) (x + 1) + pc n x := by rw [pc_step hn hx]; omega
    rw [e, List.range_add, List.map_append, List.countP_append, List.map_map, fewF.fewR]
    congr 1
    · rw [← ih (n - (x + 1)) (x + 1) (by omega) (by omega) (by omega), List.countP_map, List.countP_map]
      refine List.countP_congr fun r hr => ?_
      have hlt : r < pc (n - (x + 1)) (x + 1) := List.mem_range.1 hr
      simp only [Function.comp, findX, if_pos hlt, lenLe, List.length_cons]
      simp
    · rw [← ihx (by omega), List.countP_map, List.countP_map]
      refine List.countP_congr fun r hr => ?_
      have hg : ¬ pc (n - (x + 1)) (x + 1) + r < pc (n - (x + 1)) (x + 1) := by omega
      simp only [Function.comp, findX, if_neg hg, Nat.add_sub_cancel_left]
theorem few_count (f : Nat) : ∀ n most m, n ≤ f → n ≤ 20 → most ≤ 20 → ((List.range (pc n most)).map (unPF f n most)).countP (lenLe m) = fewF f n most m := by
  induction f with
  | zero =>
    intro n most m h _ hm
    have : n = 0 := by omega
    subst this
    rw [pc_min (by omega) hm, Nat.min_zero, pc_00]; rfl
  | succ f ih =>
    intro n most m hf hn hm
    by_cases h0 : n = 0
    · subst h0
      rw [pc_min (by omega) hm, Nat.min_zero, pc_00]; rfl
    · have e : (List.range (pc n most)).map (unPF (f + 1) n most) = (List.range (pc n (min most n))).map fun r => ((findX n (min most n) r).1 : Int) :: unPF f (n - (findX n (min most n) r).1) (findX n (min most n) r).1 (findX n (min most n) r).2 := by
        rw [← pc_min hn hm]
        refine List.map_congr_left fun r _ => ?_
        rw [unPF, if_neg h0]
      rw [e, fewF, if_neg h0]
      cases m with
      | zero =>
        rw [if_pos rfl, List.countP_map]
        refine List.countP_eq_zero.2 fun r _ => ?_
        simp [lenLe]
      | succ m =>
        rw [if_neg (by omega), Nat.add_sub_cancel]
        exact few_row f n hn (by omega) hf m (fun n' most h1 h2 h3 => ih n' most m h1 h2 h3) (min most n) (by omega)
/-- All parted numbers with a total. -/
def allP (n : Nat) : List (List Int) := (List.range (pc n n)).map fun r => unP n n r
theorem allP_len (n : Nat) : (allP n).length = pc n n := by simp [allP]
theorem allP_few {n m : Nat} (hn : n ≤ 20) (hm : m ≤ 20) : (allP n).countP (lenLe m) = pc n m := by
  rw [← few_all n (by omega) m (by omega)]
  exact few_count n n n m (Nat.le_refl _) hn hn

end Go.Proofs.Ythaplgbhhppniaa.Core
