/- The program's WordOfGrowth returns what the reference's returns, for every list of whole numbers that takes at most 2^47 - 4096 bytes. -/
import Derived.Test.YthaplgbhhppniaaHFnExactWordOfGrowthx6
import Derived.Test.YthaplgbhhppniaaCoreA
import Derived.Test.YthaplgbhhppniaaCoreG
import Derived.Test.YthaplgbhhppniaaCoreBk
namespace Go.Proofs.Ythaplgbhhppniaa.Pure
open Go.RowKit Go.Proofs.Ythaplgbhhppniaa.HFnExactWordOfGrowth Go.Proofs.YthaplgbhhppniaaW.PrintWords Go.Proofs.YthaplgbhhppniaaW.PrintLast Go.Proofs.YthaplgbhhppniaaW.PrintMore Go.Proofs.Ythaplgbhhppniaa.Core
set_option linter.unusedVariables false
set_option linter.unusedSimpArgs false

theorem laws_toIntS_loop (s : List Int) : ∀ (p q : List Int) (i : Int), q.length = s.length → i = (p.length : Int) → (p ++ s).length ≤ 1099511627776 →
    Ev (fun k => laws_toIntS.l0 k (p ++ s) (p ++ q) i) (p ++ s) := by
  induction s with
  | nil =>
    intro p q i hq hi hl
    have hq0 : q = [] := List.eq_nil_of_length_eq_zero hq
    subst hq0
    refine Ev.done fun k => ?_
    simp only [laws_toIntS.l0]
    rw [if_neg (by rw [len_nil]; omega)]
  | cons x s ih =>
    intro p q i hq hi hl
    cases q with
    | nil => simp at hq
    | cons y q =>
      have hq' : q.length = s.length := by simpa using hq
      have h1 := len_mid p s x
      have h2 := len_mid p q y
      have := ih (p ++ [x]) q (i + 1) hq' (by rw [len_snoc]; omega) (by rw [← snoc_mid]; exact hl)
      rw [← snoc_mid, ← snoc_mid] at this
      refine Ev.step' this fun k => ?_
      simp only [laws_toIntS.l0]
      rw [if_pos (by omega), if_pos (by omega), if_pos (by omega), rd_mid hi, set_mid hi, w64 (by omega)]
theorem laws_toIntS_ev (l : List Int) (hl : l.length ≤ 1099511627776) : Ev (fun k => laws_toIntS.f k l) l := by
  have := laws_toIntS_loop l [] (List.replicate l.length 0) 0 (by simp) (by simp) (by simpa using hl)
  simp only [List.nil_append] at this
  refine Ev.congr (fun k => ?_) this
  unfold laws_toIntS.f
  rw [if_pos (by omega), if_pos (by omega)]
  simp only [Int.toNat_natCast]

theorem laws_eqIntS_loop (s : List Int) : ∀ (p q t : List Int) (i : Int), t.length = s.length → q.length = p.length → i = (p.length : Int) → (p ++ s).length ≤ 1099511627776 →
    Ev (fun k => laws_eqIntS.l0 k (p ++ s) (q ++ t) i) (decide (s = t)) := by
  induction s with
  | nil =>
    intro p q t i ht hq hi hl
    have ht0 : t = [] := List.eq_nil_of_length_eq_zero ht
    subst ht0
    refine Ev.done fun k => ?_
    simp only [laws_eqIntS.l0]
    rw [if_neg (by rw [len_nil]; omega)]
    simp
  | cons x s ih =>
    intro p q t i ht hq hi hl
    cases t with
    | nil => simp at ht
    | cons y t =>
      have ht' : t.length = s.length := by simpa using ht
      have h1 := len_mid p s x
      have h2 := len_mid q t y
      by_cases hxy : x = y
      · have := ih (p ++ [x]) (q ++ [y]) t (i + 1) ht' (by simp [hq]) (by rw [len_snoc]; omega) (by rw [← snoc_mid]; exact hl)
        rw [← snoc_mid, ← snoc_mid] at this
        refine Ev.to (Ev.step' this fun k => ?_) (by simp [hxy])
        simp only [laws_eqIntS.l0]
        rw [if_pos (by omega), if_pos (by omega), if_pos (by omega), rd_mid hi, rd_mid (by omega), if_pos hxy, w64 (by omega)]
      · refine Ev.to (Ev.done fun k => ?_) (show false = _ by simp [hxy])
        simp only [laws_eqIntS.l0]
        rw [if_pos (by omega), if_pos (by omega), if_pos (by omega), rd_mid hi, rd_mid (by omega), if_neg hxy]
theorem laws_eqIntS_ev (l t : List Int) (hl : l.length ≤ 1099511627776) : Ev (fun k => laws_eqIntS.f k l t) (decide (l = t)) := by
  by_cases h : l.length = t.length
  · have := laws_eqIntS_loop l [] [] t 0 h.symm rfl (by simp) (by simpa using hl)
    simp only [List.nil_append] at this
    refine Ev.congr (fun k => ?_) this
    unfold laws_eqIntS.f
    rw [if_pos (by omega)]
  · refine Ev.to (Ev.congr (fun k => ?_) (Ev.now false)) (by rw [decide_eq_false]; exact fun e => h (by rw [e]))
    unfold laws_eqIntS.f
    rw [if_neg (by omega)]

theorem laws_markIntS_loop (s : List Int) : ∀ (p : List Int) (m i : Int), 0 ≤ m → m + s.length ≤ 1099511627776 → i = (p.length : Int) → (p ++ s).length ≤ 1099511627776 →
    Ev (fun k => laws_markIntS.l0 k (p ++ s) m i) (m + s.length, p ++ upFrom m s.length) := by
  induction s with
  | nil =>
    intro p m i hm hm' hi hl
    refine Ev.to (Ev.done fun k => ?_) (show (m, p ++ []) = _ by simp [upFrom])
    simp only [laws_markIntS.l0]
    rw [if_neg (by rw [len_nil]; omega)]
  | cons x s ih =>
    intro p m i hm hm' hi hl
    have h1 := len_mid p s x
    have h2 : (((x :: s).length : Nat) : Int) = s.length + 1 := by simp
    have h3 : (p ++ m :: s).length = (p ++ x :: s).length := by simp
    have := ih (p ++ [m]) (m + 1) (i + 1) (by omega) (by omega) (by rw [len_snoc]; omega) (by rw [← snoc_mid, h3]; exact hl)
    rw [← snoc_mid] at this
    refine Ev.to (Ev.step' this fun k => ?_) (by rw [h2, ← snoc_mid]; simp only [List.length_cons, upFrom]; congr 1; omega)
    simp only [laws_markIntS.l0]
    rw [if_pos (by omega), if_pos (by omega), set_mid hi, w64 (by omega), w64 (by omega)]
theorem laws_markIntS_ev (l : List Int) (hl : l.length ≤ 109951162777) : Ev (fun k => laws_markIntS.f k l 1) (1 + l.length, upFrom 1 l.length) :=
  laws_markIntS_loop l [] 1 0 (by omega) (by omega) (by simp) (by simp; omega)

theorem laws_heldIntS_loop (n : Nat) : ∀ (p : List Int) (m i : Int), 0 ≤ m → m + n ≤ 1099511627776 → i = (p.length : Int) → p.length + n ≤ 1099511627776 →
    Ev (fun k => laws_heldIntS.l0 k (p ++ upFrom m n) m i) (m + n) := by
  induction n with
  | zero =>
    intro p m i hm hm' hi hl
    show Ev (fun k => laws_heldIntS.l0 k (p ++ []) m i) _
    refine Ev.to (Ev.done fun k => ?_) (show m = _ by simp)
    simp only [laws_heldIntS.l0]
    rw [if_neg (by rw [len_nil]; omega)]
  | succ n ih =>
    intro p m i hm hm' hi hl
    have h1 := len_mid p (upFrom (m + 1) n) m
    have := ih (p ++ [m]) (m + 1) (i + 1) (by omega) (by omega) (by rw [len_snoc]; omega) (by rw [List.length_append]; simp; omega)
    rw [← snoc_mid] at this
    show Ev (fun k => laws_heldIntS.l0 k (p ++ m :: upFrom (m + 1) n) m i) _
    refine Ev.to (Ev.step' this fun k => ?_) (by omega)
    simp only [laws_heldIntS.l0]
    rw [if_pos (by omega), if_pos (by omega), rd_mid hi, if_pos rfl, w64 (by omega), w64 (by omega)]
theorem laws_heldIntS_ev (n : Nat) (hn : n ≤ 109951162777) : Ev (fun k => laws_heldIntS.f k (upFrom 1 n) 1) (1 + n) :=
  laws_heldIntS_loop n [] 1 0 (by omega) (by omega) (by simp) (by simp; omega)

theorem spec_l1Most_eq (a b : Int) : spec_l1Most.f a b = some (max a b) := most_max a b

theorem spec_spTop_loop (s : List Int) : ∀ (p : List Int) (m n i : Int), n = ((p ++ s).length : Int) → i = (p.length : Int) → (p ++ s).length ≤ 1099511627776 →
    Ev (fun k => spec_spTop.l0 k m (p ++ s) n i) (s.foldl max m) := by
  induction s with
  | nil =>
    intro p m n i hn hi hl
    refine Ev.to (Ev.done fun k => ?_) (show m = _ by simp)
    simp only [spec_spTop.l0]
    rw [if_neg (by rw [len_nil] at hn; omega)]
  | cons x s ih =>
    intro p m n i hn hi hl
    have h1 := len_mid p s x
    have := ih (p ++ [x]) (max m x) n (i + 1) (by rw [← snoc_mid]; exact hn) (by rw [len_snoc]; omega) (by rw [← snoc_mid]; exact hl)
    rw [← snoc_mid] at this
    refine Ev.to (Ev.step' this fun k => ?_) (by simp)
    simp only [spec_spTop.l0]
    rw [if_pos (by omega), if_pos (by omega), if_pos (by omega), rd_mid hi, spec_l1Most_eq, w64 (by omega)]
    rfl
theorem spec_spTop_ev (l : List Int) (hl : l.length ≤ 1099511627776) : Ev (fun k => spec_spTop.f k l) (l.foldl max (-1)) :=
  spec_spTop_loop l [] (-1) _ 0 rfl (by simp) (by simpa using hl)

theorem spec_l1Own_eq (l : List Int) (hl : l.length ≤ 1000000) : spec_l1Own.f l = some l := by
  unfold spec_l1Own.f
  rw [obind, if_pos (by simp; omega), List.nil_append]

theorem impl_blocks_loop (s : List Int) : ∀ (p : List Int) (B : List (List Int)) (n i : Int), growW ((B.length : Int) - 1) s = true → n = ((p ++ s).length : Int) → i = (p.length : Int) → (p ++ s).length ≤ 1000 → B.length + s.length ≤ 1000 → (∀ y ∈ B, y.length + s.length ≤ 1000) →
    Ev (fun k => impl_blocks.l0 k B (p ++ s) n i) (blkF p.length B s) := by
  induction s with
  | nil =>
    intro p B n i hg hn hi hl hb hr
    refine Ev.done fun k => ?_
    simp only [impl_blocks.l0]
    rw [if_neg (by rw [List.append_nil] at hn; omega)]; rfl
  | cons x s ih =>
    intro p B n i hg hn hi hl hb hr
    obtain ⟨h1, h2⟩ := growW_next hg
    have hp : (((p ++ x :: s).length : Nat) : Int) = p.length + s.length + 1 := by simp; omega
    have hl' : p.length + s.length + 1 ≤ 1000 := by omega
    rw [List.length_cons] at hb
    have hr' : ∀ y ∈ B, y.length + (s.length + 1) ≤ 1000 := fun y hy => by have := hr y hy; rwa [List.length_cons] at this
    have e2 : p ++ x :: s = (p ++ [x]) ++ s := by simp
    have hlen := blkOne_len (i := p.length) h1
    have := ih (p ++ [x]) (blkOne B x p.length) n (i + 1) (by rw [hlen]; exact h2) (by rw [← e2]; exact hn) (by simp; omega) (by rw [← e2]; exact hl) (by rw [hlen]; omega)
      (fun y hy => by
        have := blkOne_row (n := 1000 - s.length) (by omega) (fun u hu => by have := hr' u hu; omega) y hy
        omega)
    rw [← e2] at this
    have ep : (p ++ [x]).length = p.length + 1 := by simp
    rw [ep] at this
    refine Ev.succ ?_
    simp only [impl_blocks.l0]
    simp only [if_pos (show i < n by omega), if_pos (show 0 ≤ i by omega), if_pos (show i < (((p ++ x :: s).length : Nat) : Int) by omega), rd_mid hi, show wrap64 (i + 1) = i + 1 from w64 (by omega), if_pos h1.1]
    by_cases c : x = (B.length : Int)
    · have cN : x.toNat = B.length := by omega
      have er : rd_L1 (B ++ [[]]) x = [] := by unfold rd_L1; rw [cN]; simp
      have es : (B ++ [[]]).set x.toNat ([] ++ [i]) = blkOne B x p.length := by unfold blkOne; rw [if_pos cN, cN, hi]; simp
      simp only [if_pos c, if_pos (show B.length < 5864062014805 by omega), obind, er, if_pos (show x < (((B ++ [[]] : List (List Int)).length : Nat) : Int) by simp; omega), List.length_nil, if_pos (show 0 < 17592186044416 by omega), es]
      exact this
    · have cN : ¬ x.toNat = B.length := by omega
      have hlt : x.toNat < B.length := by omega
      have er : rd_L1 B x = B.getD x.toNat [] := rfl
      have hrow := hr' (B.getD x.toNat []) (by rw [getD_at hlt]; exact List.getElem_mem _)
      have es : B.set x.toNat (B.getD x.toNat [] ++ [i]) = blkOne B x p.length := by unfold blkOne; rw [if_neg cN, hi]
      simp only [if_neg c, if_pos (show x < (B.length : Int) by omega), er, if_pos (show (B.getD x.toNat []).length < 17592186044416 by omega), es]
      exact this
theorem impl_blocks_ev (l : List Int) (h : isG l = true) : Ev (fun k => impl_blocks.f k l) (blk l) := by
  obtain ⟨h1, h2, h3⟩ := isG_true h
  exact impl_blocks_loop l [] [] _ 0 h1 (by simp) (by simp) (by simp; omega) (by simp; omega) (fun y hy => by cases hy)
theorem spec_spBlocks_loop (s : List Int) : ∀ (p : List Int) (B : List (List Int)) (r : Nat) (n i : Int), growW ((B.length : Int) - 1) s = true → B.length + r = topK B.length s → n = ((p ++ s).length : Int) → i = (p.length : Int) → (p ++ s).length ≤ 1000 → B.length + s.length ≤ 1000 → (∀ y ∈ B, y.length + s.length ≤ 1000) →
    Ev (fun k => spec_spBlocks.l0 k (B ++ List.replicate r []) (p ++ s) n i) (blkF p.length B s) := by
  induction s with
  | nil =>
    intro p B r n i hg ht hn hi hl hb hr
    have hr0 : r = 0 := by simp only [topK] at ht; omega
    subst hr0
    refine Ev.to (Ev.done fun k => ?_) (show B ++ List.replicate 0 [] = _ by simp [blkF])
    simp only [spec_spBlocks.l0]
    rw [if_neg (by rw [List.append_nil] at hn; omega)]
  | cons x s ih =>
    intro p B r n i hg ht hn hi hl hb hr
    obtain ⟨h1, h2⟩ := growW_next hg
    have hp : (((p ++ x :: s).length : Nat) : Int) = p.length + s.length + 1 := by simp; omega
    have hl' : p.length + s.length + 1 ≤ 1000 := by omega
    rw [List.length_cons] at hb
    have hr' : ∀ y ∈ B, y.length + (s.length + 1) ≤ 1000 := fun y hy => by have := hr y hy; rwa [List.length_cons] at this
    have e2 : p ++ x :: s = (p ++ [x]) ++ s := by simp
    have hlen := blkOne_len (i := p.length) h1
    simp only [topK] at ht
    have htop := topK_ge s (max B.length (x.toNat + 1))
    have := ih (p ++ [x]) (blkOne B x p.length) (B.length + r - max B.length (x.toNat + 1)) n (i + 1) (by rw [hlen]; exact h2) (by rw [hlen]; omega) (by rw [← e2]; exact hn) (by simp; omega) (by rw [← e2]; exact hl) (by rw [hlen]; omega)
      (fun y hy => by
        have := blkOne_row (n := 1000 - s.length) (by omega) (fun u hu => by have := hr' u hu; omega) y hy
        omega)
    rw [← e2] at this
    have ep : (p ++ [x]).length = p.length + 1 := by simp
    rw [ep, ← blkOne_room h1 (by omega)] at this
    have hrow : ((B ++ List.replicate r []).getD x.toNat ([] : List Int)).length ≤ 1000 := by
      by_cases c : x.toNat < (B ++ List.replicate r ([] : List Int)).length
      · rw [getD_at c]
        rcases List.mem_append.1 (List.getElem_mem c) with hm | hm
        · have := hr' _ hm; omega
        · rw [(List.mem_replicate.1 hm).2]; simp
      · rw [getD_out (by omega)]; simp
    have er : rd_L1 (B ++ List.replicate r []) x = (B ++ List.replicate r []).getD x.toNat [] := rfl
    refine Ev.succ ?_
    simp only [spec_spBlocks.l0]
    simp only [if_pos (show i < n by omega), if_pos (show 0 ≤ i by omega), if_pos (show i < (((p ++ x :: s).length : Nat) : Int) by omega), rd_mid hi, show wrap64 (i + 1) = i + 1 from w64 (by omega), if_pos h1.1,
      if_pos (show x < (((B ++ List.replicate r ([] : List Int)).length : Nat) : Int) by simp; omega), er, spec_l1Own_eq _ (Nat.le_trans hrow (by omega)), obind, if_pos (show ((B ++ List.replicate r []).getD x.toNat ([] : List Int)).length < 17592186044416 by omega)]
    rw [hi] at this ⊢
    exact this
theorem spec_spBlocks_ev (l : List Int) (h : isG l = true) : Ev (fun k => spec_spBlocks.f k l) (blk l) := by
  obtain ⟨h1, h2, h3⟩ := isG_true h
  have ht := topK_fold l 0 h1
  have hle := topK_le l 0 h1
  unfold spec_spBlocks.f
  refine Ev.bind (spec_spTop_ev l (by omega)) ?_
  have e : wrap64 (l.foldl max (-1) + 1) = (topK 0 l : Int) := by
    have : l.foldl max (-1) = (topK 0 l : Int) - 1 := ht
    rw [this, w64 (by omega)]; omega
  simp only [e, Int.toNat_natCast, if_pos (show (0 : Int) ≤ (topK 0 l : Int) by omega), if_pos (show topK 0 l ≤ 11728124029610 by omega)]
  have := spec_spBlocks_loop l [] [] (topK 0 l) (l.length : Int) 0 h1 (by simp) (by simp) (by simp) (by simp; omega) (by simp; omega) (fun y hy => by cases hy)
  rw [List.nil_append, List.nil_append] at this
  exact this
theorem blk_len {l : List Int} (h : isG l = true) : (blk l).length ≤ 12 ∧ ∀ x ∈ blk l, x.length ≤ 12 := by
  obtain ⟨h1, h2, h3⟩ := isG_true h
  refine ⟨?_, fun x hx => blkF_row l 0 [] 12 (fun y hy => by cases hy) (by omega) x hx⟩
  have := blkF_len l 0 [] h1
  have hle := topK_le l 0 h1
  have e : (blk l).length = topK 0 l := this
  omega

theorem spec_l1In_eq (a b c : Int) : spec_l1In.f a b c = some (inB a b c) := inB_ite a b c

theorem spec_spGrowth_loop (l : List Int) (s : List Int) : ∀ (p : List Int) (m n i : Int), -1 ≤ m → m + 1 ≤ p.length → n = ((p ++ s).length : Int) → i = (p.length : Int) → (p ++ s).length ≤ 1099511627776 →
    Ev (fun k => spec_spGrowth.l0 k l m (p ++ s) n i) (growW m s && inB l.length 1 12) := by
  induction s with
  | nil =>
    intro p m n i hm hm' hn hi hl
    refine Ev.to (Ev.done fun k => ?_) (show inB l.length 1 12 = _ by unfold growW; simp)
    simp only [spec_spGrowth.l0]
    rw [if_neg (by rw [len_nil] at hn; omega), spec_l1In_eq]
    rfl
  | cons x s ih =>
    intro p m n i hm hm' hn hi hl
    have h1 := len_mid p s x
    unfold growW
    cases hb : inB x 0 (m + 1) with
    | false =>
      refine Ev.to (Ev.done fun k => ?_) (show false = _ by simp)
      simp only [spec_spGrowth.l0]
      rw [if_pos (by omega), if_pos (by omega), if_pos (by omega), rd_mid hi, w64 (n := m + 1) (by omega), spec_l1In_eq, hb]
      rfl
    | true =>
      have hx := inB_true.1 hb
      have := ih (p ++ [x]) (max m x) n (i + 1) (by omega) (by rw [len_snoc]; omega) (by rw [← snoc_mid]; exact hn) (by rw [len_snoc]; omega) (by rw [← snoc_mid]; exact hl)
      rw [← snoc_mid] at this
      refine Ev.to (Ev.step' this fun k => ?_) (by simp)
      simp only [spec_spGrowth.l0]
      rw [if_pos (by omega), if_pos (by omega), if_pos (by omega), rd_mid hi, w64 (n := m + 1) (by omega), spec_l1In_eq, hb]
      simp only [obind, if_true, spec_l1Most_eq, obind]
      rw [w64 (n := i + 1) (by omega)]
theorem spec_spGrowth_ev (l : List Int) (hl : l.length ≤ 1099511627776) : Ev (fun k => spec_spGrowth.f k l) (isG l) :=
  spec_spGrowth_loop l l [] (-1) _ 0 (by omega) (by simp) rfl (by simp) (by simpa using hl)

theorem impl_within_eq (a b c : Int) : impl_within.f a b c = some (inB a b c) := inB_ite a b c

theorem impl_IsGrowth_loop (l : List Int) (s : List Int) : ∀ (p : List Int) (m n i : Int), -1 ≤ m → m + 1 ≤ p.length → n = ((p ++ s).length : Int) → i = (p.length : Int) → (p ++ s).length ≤ 1099511627776 →
    Ev (fun k => impl_IsGrowth.l0 k l m (p ++ s) n i) (growW m s && inB l.length 1 12) := by
  induction s with
  | nil =>
    intro p m n i hm hm' hn hi hl
    refine Ev.to (Ev.done fun k => ?_) (show inB l.length 1 12 = _ by unfold growW; simp)
    simp only [impl_IsGrowth.l0]
    rw [if_neg (by rw [len_nil] at hn; omega), impl_within_eq]
    rfl
  | cons x s ih =>
    intro p m n i hm hm' hn hi hl
    have h1 := len_mid p s x
    unfold growW
    cases hb : inB x 0 (m + 1) with
    | false =>
      refine Ev.to (Ev.done fun k => ?_) (show false = _ by simp)
      simp only [impl_IsGrowth.l0]
      rw [if_pos (by omega), if_pos (by omega), if_pos (by omega), rd_mid hi, w64 (n := m + 1) (by omega), impl_within_eq, hb]
      rfl
    | true =>
      have hx := inB_true.1 hb
      have := ih (p ++ [x]) (max m x) n (i + 1) (by omega) (by rw [len_snoc]; omega) (by rw [← snoc_mid]; exact hn) (by rw [len_snoc]; omega) (by rw [← snoc_mid]; exact hl)
      rw [← snoc_mid] at this
      refine Ev.to (Ev.step' this fun k => ?_) (by simp)
      simp only [impl_IsGrowth.l0]
      rw [if_pos (by omega), if_pos (by omega), if_pos (by omega), rd_mid hi, w64 (n := m + 1) (by omega), impl_within_eq, hb]
      simp only [obind, if_true, mx_max]
      rw [w64 (n := i + 1) (by omega)]
theorem impl_IsGrowth_ev (l : List Int) (hl : l.length ≤ 1099511627776) : Ev (fun k => impl_IsGrowth.f k l) (isG l) :=
  impl_IsGrowth_loop l l [] (-1) _ 0 (by omega) (by simp) rfl (by simp) (by simpa using hl)

theorem spec_l1Has_loop (y : Int) (s : List Int) : ∀ (p : List Int) (n i : Int), n = ((p ++ s).length : Int) → i = (p.length : Int) → (p ++ s).length ≤ 1099511627776 →
    Ev (fun k => spec_l1Has.l0 k y (p ++ s) n i) (hasV y s) := by
  induction s with
  | nil =>
    intro p n i hn hi hl
    refine Ev.to (Ev.done fun k => ?_) (show false = _ by simp [hasV])
    simp only [spec_l1Has.l0]
    rw [if_neg (by rw [len_nil] at hn; omega)]
  | cons x s ih =>
    intro p n i hn hi hl
    have h1 := len_mid p s x
    have := ih (p ++ [x]) n (i + 1) (by rw [← snoc_mid]; exact hn) (by rw [len_snoc]; omega) (by rw [← snoc_mid]; exact hl)
    rw [← snoc_mid] at this
    by_cases c : x = y
    · refine Ev.to (Ev.done fun k => ?_) (show true = _ by simp [hasV, c])
      simp only [spec_l1Has.l0]
      rw [if_pos (by omega), if_pos (by omega), if_pos (by omega), rd_mid hi, if_pos c]
    · refine Ev.to (Ev.step' this fun k => ?_) (by simp [hasV, c])
      simp only [spec_l1Has.l0]
      rw [if_pos (by omega), if_pos (by omega), if_pos (by omega), rd_mid hi, if_neg c, w64 (by omega)]
theorem spec_l1Has_ev (l : List Int) (y : Int) (hl : l.length ≤ 1099511627776) : Ev (fun k => spec_l1Has.f k l y) (hasV y l) :=
  spec_l1Has_loop y l [] _ 0 rfl (by simp) (by simpa using hl)

theorem spec_spCrosses_l2 (a : List Int) (ha : a.length ≤ 1099511627776) (j i : Nat) (hi : i < a.length) (hj : j < a.length) (R : Bool)
    (hR : Ev (fun f => spec_spCrosses.l1 f a (i : Int) (wrap64 ((j : Int) + 1)) (a.length : Int) (i : Int)) R) (s : List Int) : ∀ p : List Int, p ++ s = a →
    Ev (fun f => spec_spCrosses.l2 f a (i : Int) (j : Int) (p.length : Int) (a.length : Int) (i : Int)) (crK (rd a (i : Int)) (rd a (j : Int)) s || R) := by
  induction s with
  | nil =>
    intro p hp
    have hl : a.length = p.length := by rw [← hp]; simp
    refine Ev.succ ?_
    simp only [spec_spCrosses.l2]
    simp only [if_neg (show ¬ (p.length : Int) < (a.length : Int) by omega)]
    refine Ev.to hR ?_
    simp [crK]
  | cons z s ih =>
    intro p hp
    have hl : a.length = p.length + s.length + 1 := by rw [← hp]; simp; omega
    have e0 : rd a (p.length : Int) = z := by rw [← hp]; exact rd_mid rfl
    have e1 : wrap64 ((p.length : Int) + 1) = ((p ++ [z]).length : Int) := by rw [w64 (by omega), len_snoc]
    have hp' : (p ++ [z]) ++ s = a := by rw [← snoc_mid]; exact hp
    have h2 := ih (p ++ [z]) hp'
    have e2 : a.drop (((p ++ [z]).length : Nat) : Int).toNat = s := by rw [← hp']; simp
    refine Ev.succ ?_
    simp only [spec_spCrosses.l2]
    simp only [if_pos (show (p.length : Int) < (a.length : Int) by omega), if_pos (show 0 ≤ (i : Int) by omega), if_pos (show (i : Int) < (a.length : Int) by omega), if_pos (show 0 ≤ (j : Int) by omega), if_pos (show (j : Int) < (a.length : Int) by omega), if_pos (show 0 ≤ (p.length : Int) by omega), e0, e1]
    by_cases c1 : rd a (i : Int) = z
    · simp only [if_pos c1]
      by_cases c2 : rd a (j : Int) = rd a (i : Int)
      · simp only [if_pos c2]
        refine Ev.to h2 ?_
        simp [crK, c2]
      · have hle := len_snoc p z
        simp only [if_neg c2, if_pos (show 0 ≤ ((p ++ [z]).length : Int) by omega), if_pos (show ((p ++ [z]).length : Int) ≤ (a.length : Int) by omega), e2]
        refine Ev.bind (spec_l1Has_ev s _ (by omega)) ?_
        cases hh : hasV (rd a (j : Int)) s with
        | true =>
          simp only [if_true]
          refine Ev.some_ ?_
          rw [crK, decide_eq_true c1, decide_eq_false (fun e => c2 e.symm), hh]
          rfl
        | false =>
          simp only [Bool.false_eq_true, if_false]
          refine Ev.to h2 ?_
          simp [crK, hh]
    · simp only [if_neg c1]
      refine Ev.to h2 ?_
      simp [crK, c1]
theorem spec_spCrosses_l1 (a : List Int) (ha : a.length ≤ 1099511627776) (i : Nat) (hi : i < a.length) (R : Bool)
    (hR : Ev (fun f => spec_spCrosses.l0 f a (a.length : Int) (wrap64 ((i : Int) + 1))) R) (s : List Int) : ∀ p : List Int, p ++ s = a →
    Ev (fun f => spec_spCrosses.l1 f a (i : Int) (p.length : Int) (a.length : Int) (i : Int)) (crJ (rd a (i : Int)) s || R) := by
  induction s with
  | nil =>
    intro p hp
    have hl : a.length = p.length := by rw [← hp]; simp
    refine Ev.succ ?_
    simp only [spec_spCrosses.l1]
    simp only [if_neg (show ¬ (p.length : Int) < (a.length : Int) by omega)]
    refine Ev.to hR ?_
    simp [crJ]
  | cons y s ih =>
    intro p hp
    have hl : a.length = p.length + s.length + 1 := by rw [← hp]; simp; omega
    have e0 : rd a (p.length : Int) = y := by rw [← hp]; exact rd_mid rfl
    have e1 : wrap64 ((p.length : Int) + 1) = ((p ++ [y]).length : Int) := by rw [w64 (by omega), len_snoc]
    have hp' : (p ++ [y]) ++ s = a := by rw [← snoc_mid]; exact hp
    have h2 := ih (p ++ [y]) hp'
    rw [← e1] at h2
    have h3 := spec_spCrosses_l2 a ha p.length i hi (by omega) _ h2 s (p ++ [y]) hp'
    refine Ev.succ ?_
    simp only [spec_spCrosses.l1]
    simp only [if_pos (show (p.length : Int) < (a.length : Int) by omega), e1]
    refine Ev.to h3 ?_
    rw [e0]
    simp only [crJ]
    rw [Bool.or_assoc]
theorem spec_spCrosses_l0 (a : List Int) (ha : a.length ≤ 1099511627776) (s : List Int) : ∀ p : List Int, p ++ s = a →
    Ev (fun f => spec_spCrosses.l0 f a (a.length : Int) (p.length : Int)) (crI s) := by
  induction s with
  | nil =>
    intro p hp
    have hl : a.length = p.length := by rw [← hp]; simp
    refine Ev.succ ?_
    simp only [spec_spCrosses.l0]
    simp only [if_neg (show ¬ (p.length : Int) < (a.length : Int) by omega)]
    exact Ev.now _
  | cons x s ih =>
    intro p hp
    have hl : a.length = p.length + s.length + 1 := by rw [← hp]; simp; omega
    have e0 : rd a (p.length : Int) = x := by rw [← hp]; exact rd_mid rfl
    have e1 : wrap64 ((p.length : Int) + 1) = ((p ++ [x]).length : Int) := by rw [w64 (by omega), len_snoc]
    have hp' : (p ++ [x]) ++ s = a := by rw [← snoc_mid]; exact hp
    have h2 := ih (p ++ [x]) hp'
    rw [← e1] at h2
    have h3 := spec_spCrosses_l1 a ha p.length (by omega) _ h2 s (p ++ [x]) hp'
    rw [e0] at h3
    refine Ev.succ ?_
    simp only [spec_spCrosses.l0]
    simp only [if_pos (show (p.length : Int) < (a.length : Int) by omega), e1]
    exact Ev.to h3 (by simp only [crI])
theorem spec_spCrosses_ev (a : List Int) (ha : a.length ≤ 1099511627776) : Ev (fun f => spec_spCrosses.f f a) (crI a) :=
  spec_spCrosses_l0 a ha a [] rfl

theorem impl_crosses_l3 (a : List Int) (ha : a.length ≤ 1099511627776) (x : Int) (j k i : Nat) (hj : j < a.length) (hk : k < a.length) (R : Bool)
    (hR : Ev (fun f => impl_crosses.l2 f a x (j : Int) (wrap64 ((k : Int) + 1)) a (a.length : Int) (i : Int)) R) (t : List Int) : ∀ q : List Int, q ++ t = a →
    Ev (fun f => impl_crosses.l3 f a x (j : Int) (k : Int) (q.length : Int) a (a.length : Int) (i : Int)) (((decide (x = rd a (k : Int)) && !decide (x = rd a (j : Int))) && hasV (rd a (j : Int)) t) || R) := by
  induction t with
  | nil =>
    intro q hq
    have hl : a.length = q.length := by rw [← hq]; simp
    refine Ev.succ ?_
    simp only [impl_crosses.l3]
    simp only [if_neg (show ¬ (q.length : Int) < (a.length : Int) by omega)]
    refine Ev.to hR ?_
    simp [hasV]
  | cons u t ih =>
    intro q hq
    have hl : a.length = q.length + t.length + 1 := by rw [← hq]; simp; omega
    have e0 : rd a (q.length : Int) = u := by rw [← hq]; exact rd_mid rfl
    have e1 : wrap64 ((q.length : Int) + 1) = ((q ++ [u]).length : Int) := by rw [w64 (by omega), len_snoc]
    have := ih (q ++ [u]) (by rw [← snoc_mid]; exact hq)
    refine Ev.succ ?_
    simp only [impl_crosses.l3]
    simp only [if_pos (show (q.length : Int) < (a.length : Int) by omega), if_pos (show 0 ≤ (k : Int) by omega), if_pos (show (k : Int) < (a.length : Int) by omega), if_pos (show 0 ≤ (j : Int) by omega), if_pos (show (j : Int) < (a.length : Int) by omega), if_pos (show 0 ≤ (q.length : Int) by omega), e0, e1]
    by_cases c1 : x = rd a (k : Int)
    · simp only [if_pos c1]
      by_cases c2 : rd a (j : Int) = u
      · simp only [if_pos c2]
        by_cases c3 : x = rd a (j : Int)
        · simp only [if_pos c3]
          refine Ev.to this ?_
          simp [c3]
        · simp only [if_neg c3]
          refine Ev.some_ ?_
          rw [decide_eq_true c1, decide_eq_false c3]
          simp [hasV, c2]
      · simp only [if_neg c2]
        refine Ev.to this ?_
        simp [hasV, Ne.symm c2]
    · simp only [if_neg c1]
      refine Ev.to this ?_
      simp [c1]
theorem impl_crosses_l2 (a : List Int) (ha : a.length ≤ 1099511627776) (x : Int) (j i : Nat) (hj : j < a.length) (R : Bool)
    (hR : Ev (fun f => impl_crosses.l1 f a x (wrap64 ((j : Int) + 1)) a (a.length : Int) (i : Int)) R) (s : List Int) : ∀ p : List Int, p ++ s = a →
    Ev (fun f => impl_crosses.l2 f a x (j : Int) (p.length : Int) a (a.length : Int) (i : Int)) (crK x (rd a (j : Int)) s || R) := by
  induction s with
  | nil =>
    intro p hp
    have hl : a.length = p.length := by rw [← hp]; simp
    refine Ev.succ ?_
    simp only [impl_crosses.l2]
    simp only [if_neg (show ¬ (p.length : Int) < (a.length : Int) by omega)]
    refine Ev.to hR ?_
    simp [crK]
  | cons z s ih =>
    intro p hp
    have hl : a.length = p.length + s.length + 1 := by rw [← hp]; simp; omega
    have e0 : rd a (p.length : Int) = z := by rw [← hp]; exact rd_mid rfl
    have e1 : wrap64 ((p.length : Int) + 1) = ((p ++ [z]).length : Int) := by rw [w64 (by omega), len_snoc]
    have hp' : (p ++ [z]) ++ s = a := by rw [← snoc_mid]; exact hp
    have h2 := ih (p ++ [z]) hp'
    rw [← e1] at h2
    have h3 := impl_crosses_l3 a ha x j p.length i hj (by omega) _ h2 s (p ++ [z]) hp'
    refine Ev.succ ?_
    simp only [impl_crosses.l2]
    simp only [if_pos (show (p.length : Int) < (a.length : Int) by omega), e1]
    refine Ev.to h3 ?_
    rw [e0]
    simp only [crK]
    rw [Bool.or_assoc]
theorem impl_crosses_l1 (a : List Int) (ha : a.length ≤ 1099511627776) (x : Int) (i : Nat) (R : Bool)
    (hR : Ev (fun f => impl_crosses.l0 f a a (a.length : Int) (wrap64 ((i : Int) + 1))) R) (s : List Int) : ∀ p : List Int, p ++ s = a →
    Ev (fun f => impl_crosses.l1 f a x (p.length : Int) a (a.length : Int) (i : Int)) (crJ x s || R) := by
  induction s with
  | nil =>
    intro p hp
    have hl : a.length = p.length := by rw [← hp]; simp
    refine Ev.succ ?_
    simp only [impl_crosses.l1]
    simp only [if_neg (show ¬ (p.length : Int) < (a.length : Int) by omega)]
    refine Ev.to hR ?_
    simp [crJ]
  | cons y s ih =>
    intro p hp
    have hl : a.length = p.length + s.length + 1 := by rw [← hp]; simp; omega
    have e0 : rd a (p.length : Int) = y := by rw [← hp]; exact rd_mid rfl
    have e1 : wrap64 ((p.length : Int) + 1) = ((p ++ [y]).length : Int) := by rw [w64 (by omega), len_snoc]
    have hp' : (p ++ [y]) ++ s = a := by rw [← snoc_mid]; exact hp
    have h2 := ih (p ++ [y]) hp'
    rw [← e1] at h2
    have h3 := impl_crosses_l2 a ha x p.length i (by omega) _ h2 s (p ++ [y]) hp'
    refine Ev.succ ?_
    simp only [impl_crosses.l1]
    simp only [if_pos (show (p.length : Int) < (a.length : Int) by omega), e1]
    refine Ev.to h3 ?_
    rw [e0]
    simp only [crJ]
    rw [Bool.or_assoc]
theorem impl_crosses_l0 (a : List Int) (ha : a.length ≤ 1099511627776) (s : List Int) : ∀ p : List Int, p ++ s = a →
    Ev (fun f => impl_crosses.l0 f a a (a.length : Int) (p.length : Int)) (crI s) := by
  induction s with
  | nil =>
    intro p hp
    have hl : a.length = p.length := by rw [← hp]; simp
    refine Ev.succ ?_
    simp only [impl_crosses.l0]
    simp only [if_neg (show ¬ (p.length : Int) < (a.length : Int) by omega)]
    exact Ev.now _
  | cons x s ih =>
    intro p hp
    have hl : a.length = p.length + s.length + 1 := by rw [← hp]; simp; omega
    have e0 : rd a (p.length : Int) = x := by rw [← hp]; exact rd_mid rfl
    have e1 : wrap64 ((p.length : Int) + 1) = ((p ++ [x]).length : Int) := by rw [w64 (by omega), len_snoc]
    have hp' : (p ++ [x]) ++ s = a := by rw [← snoc_mid]; exact hp
    have h2 := ih (p ++ [x]) hp'
    rw [← e1] at h2
    have h3 := impl_crosses_l1 a ha x p.length _ h2 s (p ++ [x]) hp'
    refine Ev.succ ?_
    simp only [impl_crosses.l0]
    simp only [if_pos (show (p.length : Int) < (a.length : Int) by omega), if_pos (show 0 ≤ (p.length : Int) by omega), e0, e1]
    exact Ev.to h3 (by simp only [crI])
theorem impl_crosses_ev (a : List Int) (ha : a.length ≤ 1099511627776) : Ev (fun f => impl_crosses.f f a) (crI a) :=
  impl_crosses_l0 a ha a [] rfl

theorem spec_spWord_l1 (a : List Int) (B : List (List Int)) (n i : Int) (hi : wrap64 (i + 1) = i + 1) (R : List Int) (len : Nat) (hlen : len ≤ 1000) (d : Nat) : ∀ (z : Nat) (out : List Int), z + d = len → out.length + d ≤ 100000 →
    Ev (fun k => spec_spWord.l0 k (out ++ List.replicate d 1 ++ [0]) B a n (i + 1)) R → Ev (fun k => spec_spWord.l1 k out B a n i (len : Int) (z : Int)) R := by
  induction d with
  | zero =>
    intro z out hz ho h
    refine Ev.succ ?_
    simp only [spec_spWord.l1]
    simp only [if_neg (show ¬ (z : Int) < (len : Int) by omega), if_pos (show out.length < 17592186044416 by omega), hi]
    simpa using h
  | succ d ih =>
    intro z out hz ho h
    refine Ev.succ ?_
    simp only [spec_spWord.l1]
    simp only [if_pos (show (z : Int) < (len : Int) by omega), if_pos (show out.length < 17592186044416 by omega), i_up (show z ≤ 1099511627776 by omega)]
    refine ih (z + 1) (out ++ [1]) (by omega) (by simp; omega) ?_
    have e : out ++ [1] ++ List.replicate d 1 = out ++ List.replicate (d + 1) 1 := by rw [List.replicate_succ]; simp
    rw [e]; exact h
theorem spec_spWord_loop (B : List (List Int)) (s : List Int) : ∀ (p out : List Int) (n i : Int), blkFor B s → n = ((p ++ s).length : Int) → i = (p.length : Int) → (p ++ s).length ≤ 1000 → out.length + 13 * s.length ≤ 50000 →
    Ev (fun k => spec_spWord.l0 k out B (p ++ s) n i) (out ++ wogF B p.length s) := by
  induction s with
  | nil =>
    intro p out n i hb hn hi hl ho
    refine Ev.to (Ev.done fun k => ?_) (show out = _ by simp [wogF])
    simp only [spec_spWord.l0]
    rw [if_neg (by rw [List.append_nil] at hn; omega)]
  | cons x s ih =>
    intro p out n i hb hn hi hl ho
    obtain ⟨b1, b2, b3, b4⟩ := hb x (List.mem_cons_self ..)
    have hp : (((p ++ x :: s).length : Nat) : Int) = p.length + s.length + 1 := by simp; omega
    have e2 : p ++ x :: s = (p ++ [x]) ++ s := by simp
    have ho' : out.length + 13 * s.length + 13 ≤ 50000 := by rw [List.length_cons] at ho; omega
    have hrec : ∀ out' : List Int, out'.length ≤ out.length + 12 → Ev (fun k => spec_spWord.l0 k (out' ++ [0]) B (p ++ x :: s) n (i + 1)) (out' ++ 0 :: wogF B (p.length + 1) s) := by
      intro out' h'
      have := ih (p ++ [x]) (out' ++ [0]) n (i + 1) (fun y hy => hb y (List.mem_cons_of_mem _ hy)) (by rw [← e2]; exact hn) (by simp; omega) (by rw [← e2]; exact hl) (by simp; omega)
      rw [← e2] at this
      refine Ev.to this ?_
      have ep : (p ++ [x]).length = p.length + 1 := by simp
      rw [ep]; simp
    have hw : wrap64 (i + 1) = i + 1 := w64 (by omega)
    have er : rd_L1 B x = B.getD x.toNat [] := rfl
    refine Ev.succ ?_
    simp only [spec_spWord.l0]
    simp only [if_pos (show i < n by omega), if_pos (show 0 ≤ i by omega), if_pos (show i < (((p ++ x :: s).length : Nat) : Int) by omega), rd_mid hi, if_pos b1, if_pos b2, er, if_pos (show 0 < (((B.getD x.toNat []).length : Nat) : Int) by omega)]
    by_cases c : rd (B.getD x.toNat []) 0 = i
    · simp only [if_pos c]
      refine spec_spWord_l1 (p ++ x :: s) B n i hw _ (B.getD x.toNat []).length (by omega) (B.getD x.toNat []).length 0 out (by omega) (by omega) ?_
      refine Ev.to (hrec (out ++ List.replicate (B.getD x.toNat []).length 1) (by rw [List.length_append, List.length_replicate]; omega)) ?_
      rw [wogF, if_pos (by rw [c, hi])]; simp
    · simp only [if_neg c, if_pos (show out.length < 17592186044416 by omega), hw]
      refine Ev.to (hrec out (by omega)) ?_
      rw [wogF, if_neg (by rw [← hi]; exact c)]; simp
theorem impl_WordOfGrowth_l1 (a : List Int) (B : List (List Int)) (n i : Int) (hi : wrap64 (i + 1) = i + 1) (R : List Int × Bool) (len : Nat) (hlen : len ≤ 1000) (d : Nat) : ∀ (z : Nat) (out : List Int), z + d = len → out.length + d ≤ 100000 →
    Ev (fun k => impl_WordOfGrowth.l0 k (out ++ List.replicate d 1 ++ [0]) B a n (i + 1)) R → Ev (fun k => impl_WordOfGrowth.l1 k out B a n i (len : Int) (z : Int)) R := by
  induction d with
  | zero =>
    intro z out hz ho h
    refine Ev.succ ?_
    simp only [impl_WordOfGrowth.l1]
    simp only [if_neg (show ¬ (z : Int) < (len : Int) by omega), if_pos (show out.length < 17592186044416 by omega), hi]
    simpa using h
  | succ d ih =>
    intro z out hz ho h
    refine Ev.succ ?_
    simp only [impl_WordOfGrowth.l1]
    simp only [if_pos (show (z : Int) < (len : Int) by omega), if_pos (show out.length < 17592186044416 by omega), i_up (show z ≤ 1099511627776 by omega)]
    refine ih (z + 1) (out ++ [1]) (by omega) (by simp; omega) ?_
    have e : out ++ [1] ++ List.replicate d 1 = out ++ List.replicate (d + 1) 1 := by rw [List.replicate_succ]; simp
    rw [e]; exact h
theorem impl_WordOfGrowth_loop (B : List (List Int)) (s : List Int) : ∀ (p out : List Int) (n i : Int), blkFor B s → n = ((p ++ s).length : Int) → i = (p.length : Int) → (p ++ s).length ≤ 1000 → out.length + 13 * s.length ≤ 50000 →
    Ev (fun k => impl_WordOfGrowth.l0 k out B (p ++ s) n i) ((out ++ wogF B p.length s, true)) := by
  induction s with
  | nil =>
    intro p out n i hb hn hi hl ho
    refine Ev.to (Ev.done fun k => ?_) (show (out, true) = _ by simp [wogF])
    simp only [impl_WordOfGrowth.l0]
    rw [if_neg (by rw [List.append_nil] at hn; omega)]
  | cons x s ih =>
    intro p out n i hb hn hi hl ho
    obtain ⟨b1, b2, b3, b4⟩ := hb x (List.mem_cons_self ..)
    have hp : (((p ++ x :: s).length : Nat) : Int) = p.length + s.length + 1 := by simp; omega
    have e2 : p ++ x :: s = (p ++ [x]) ++ s := by simp
    have ho' : out.length + 13 * s.length + 13 ≤ 50000 := by rw [List.length_cons] at ho; omega
    have hrec : ∀ out' : List Int, out'.length ≤ out.length + 12 → Ev (fun k => impl_WordOfGrowth.l0 k (out' ++ [0]) B (p ++ x :: s) n (i + 1)) ((out' ++ 0 :: wogF B (p.length + 1) s, true)) := by
      intro out' h'
      have := ih (p ++ [x]) (out' ++ [0]) n (i + 1) (fun y hy => hb y (List.mem_cons_of_mem _ hy)) (by rw [← e2]; exact hn) (by simp; omega) (by rw [← e2]; exact hl) (by simp; omega)
      rw [← e2] at this
      refine Ev.to this ?_
      have ep : (p ++ [x]).length = p.length + 1 := by simp
      rw [ep]; simp
    have hw : wrap64 (i + 1) = i + 1 := w64 (by omega)
    have er : rd_L1 B x = B.getD x.toNat [] := rfl
    refine Ev.succ ?_
    simp only [impl_WordOfGrowth.l0]
    simp only [if_pos (show i < n by omega), if_pos (show 0 ≤ i by omega), if_pos (show i < (((p ++ x :: s).length : Nat) : Int) by omega), rd_mid hi, if_pos b1, if_pos b2, er, if_pos (show 0 < (((B.getD x.toNat []).length : Nat) : Int) by omega)]
    by_cases c : rd (B.getD x.toNat []) 0 = i
    · simp only [if_pos c]
      refine impl_WordOfGrowth_l1 (p ++ x :: s) B n i hw _ (B.getD x.toNat []).length (by omega) (B.getD x.toNat []).length 0 out (by omega) (by omega) ?_
      refine Ev.to (hrec (out ++ List.replicate (B.getD x.toNat []).length 1) (by rw [List.length_append, List.length_replicate]; omega)) ?_
      rw [wogF, if_pos (by rw [c, hi])]; simp
    · simp only [if_neg c, if_pos (show out.length < 17592186044416 by omega), hw]
      refine Ev.to (hrec out (by omega)) ?_
      rw [wogF, if_neg (by rw [← hi]; exact c)]; simp
/-- What WordOfGrowth answers. -/
def wogR (l : List Int) : List Int × Bool := if isG l = true then (if crI l = true then ([], false) else (wogW l, true)) else ([], false)
theorem wogR_len (l : List Int) : (wogR l).1.length ≤ 200 := by
  unfold wogR
  split
  · rename_i h
    obtain ⟨h1, h2, h3⟩ := isG_true h
    split
    · simp
    · exact Nat.le_trans (wogF_len (blk l) l 0 (blk_for h)) (by omega)
  · simp
theorem spec_WordOfGrowth_ev (l : List Int) (hl : l.length ≤ 1099511627776) : Ev (fun k => spec_WordOfGrowth.f k l) (wogR l) := by
  unfold spec_WordOfGrowth.f wogR
  refine Ev.bind (spec_spGrowth_ev l hl) ?_
  by_cases h : isG l = true
  · obtain ⟨h1, h2, h3⟩ := isG_true h
    simp only [if_pos h]
    refine Ev.bind (spec_spCrosses_ev l (by omega)) ?_
    by_cases c : crI l = true
    · simp only [if_pos c]; exact Ev.now _
    · simp only [if_neg c]
      refine Ev.bind ?_ (Ev.now _)
      unfold spec_spWord.f
      refine Ev.bind (spec_spBlocks_ev l h) ?_
      exact spec_spWord_loop (blk l) l [] [] _ 0 (blk_for h) (by simp) (by simp) (by simp; omega) (by simp; omega)
  · simp only [if_neg h]; exact Ev.now _
theorem impl_WordOfGrowth_ev (l : List Int) (hl : l.length ≤ 1099511627776) : Ev (fun k => impl_WordOfGrowth.f k l) (wogR l) := by
  unfold impl_WordOfGrowth.f wogR
  refine Ev.bind (impl_IsGrowth_ev l hl) ?_
  by_cases h : isG l = true
  · obtain ⟨h1, h2, h3⟩ := isG_true h
    simp only [if_pos h]
    refine Ev.bind (impl_crosses_ev l (by omega)) ?_
    refine Ev.succ ?_
    simp only [impl_WordOfGrowth.j0]
    by_cases c : crI l = true
    · simp only [if_pos c]; exact Ev.now _
    · simp only [if_neg c]
      refine Ev.bind (impl_blocks_ev l h) ?_
      exact impl_WordOfGrowth_loop (blk l) l [] [] _ 0 (blk_for h) (by simp) (by simp) (by simp; omega) (by simp; omega)
  · simp only [if_neg h]
    refine Ev.succ ?_
    simp only [impl_WordOfGrowth.j0, if_true]
    exact Ev.now _

theorem FnExactWordOfGrowth : laws_FnExactWordOfGrowth.Pure := by
  intro l _ hl _
  unfold laws_FnExactWordOfGrowth.f
  by_cases hbig : (l.length : Int) > 1048576
  · exact ⟨0, by rw [if_pos hbig]⟩
  simp only [if_neg hbig]
  have hl' : l.length ≤ 1048576 := by omega
  have ht := laws_toIntS_ev l (by omega)
  have het := laws_eqIntS_ev l l (by omega)
  have hmt := laws_markIntS_ev l (by omega)
  have hs := spec_WordOfGrowth_ev l (by omega)
  have hi := impl_WordOfGrowth_ev l (by omega)
  have hlen := wogR_len l
  generalize wogR l = R at hs hi hlen
  obtain ⟨o, b⟩ := R
  simp only at hlen
  have he := laws_eqIntS_ev o o (by omega)
  have hm := laws_markIntS_ev o (by omega)
  have hh := laws_heldIntS_ev o.length (by omega)
  refine (Ev.bind ht (Ev.bind hs (Ev.bind ht (Ev.bind hi (Ev.bind he ?_))))).rounds
  simp only [decide_true, if_true, bne_self_eq_false]
  refine Ev.succ ?_
  simp only [laws_FnExactWordOfGrowth.j0, Bool.false_eq_true, if_false]
  refine Ev.bind ht (Ev.bind het ?_)
  simp only [decide_true, if_true]
  refine Ev.bind hmt ?_
  simp only [if_neg (show ¬ (1 + (l.length : Int)) < 0 by omega)]
  refine Ev.bind he ?_
  simp only [decide_true, if_true, bne_self_eq_false]
  refine Ev.succ ?_
  simp only [laws_FnExactWordOfGrowth.j1, Bool.false_eq_true, if_false]
  refine Ev.bind hm (Ev.bind hh ?_)
  simp only [if_neg (show ¬ (1 + (o.length : Int)) < 0 by omega), if_true]
  refine Ev.bind ht (Ev.bind hi (Ev.bind he ?_))
  simp only [decide_true, if_true, bne_self_eq_false]
  refine Ev.succ ?_
  simp only [laws_FnExactWordOfGrowth.j2, Bool.false_eq_true, if_false]
  refine Ev.bind hh ?_
  simp only [if_neg (show ¬ (1 + (o.length : Int)) < 0 by omega), if_true]
  exact Ev.now _

end Go.Proofs.Ythaplgbhhppniaa.Pure
