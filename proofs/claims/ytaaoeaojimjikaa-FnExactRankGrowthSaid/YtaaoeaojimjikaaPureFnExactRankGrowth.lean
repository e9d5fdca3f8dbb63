/- The program's RankGrowth returns what the reference's returns, for every list of whole numbers that takes at most 2^47 - 4096 bytes. -/
import Derived.Test.YtaaoeaojimjikaaHFnExactRankGrowthx3
import Derived.Test.YtaaoeaojimjikaaCoreA
import Derived.Test.YtaaoeaojimjikaaCoreG
namespace Go.Proofs.Ytaaoeaojimjikaa.Pure
open Go.RowKit Go.Proofs.Ytaaoeaojimjikaa.HFnExactRankGrowth Go.Proofs.YtaaoeaojimjikaaW.PrintWords Go.Proofs.YtaaoeaojimjikaaW.PrintLast Go.Proofs.YtaaoeaojimjikaaW.PrintMore Go.Proofs.Ytaaoeaojimjikaa.Core
set_option linter.unusedVariables false
set_option linter.unusedSimpArgs false

theorem laws_toIntS_loop (s : List Int) : ∀ (p q : List Int) (i : Int), q.length = s.length → i = (p.length : Int) → (p ++ s).length ≤ 1099511627776 →
    Ev (fun k => laws_toIntS.l0 k (p ++ s) (p ++ q) i) (p ++ s) := by
  induction s with
  | nil =>
    intro p q i hq hi hl
    have hq0 : q = [] := List.eq_nil_of_length_eq_zero hq
    subst hq0
    refine Ev.done fun k => ?_
    simp only [laws_toIntS.l0]
    rw [if_neg (by rw [len_nil]; omega)]
  | cons x s ih =>
    intro p q i hq hi hl
    cases q with
    | nil => simp at hq
    | cons y q =>
      have hq' : q.length = s.length := by simpa using hq
      have h1 := len_mid p s x
      have h2 := len_mid p q y
      have := ih (p ++ [x]) q (i + 1) hq' (by rw [len_snoc]; omega) (by rw [← snoc_mid]; exact hl)
      rw [← snoc_mid, ← snoc_mid] at this
      refine Ev.step' this fun k => ?_
      simp only [laws_toIntS.l0]
      rw [if_pos (by omega), if_pos (by omega), if_pos (by omega), rd_mid hi, set_mid hi, w64 (by omega)]
theorem laws_toIntS_ev (l : List Int) (hl : l.length ≤ 1099511627776) : Ev (fun k => laws_toIntS.f k l) l := by
  have := laws_toIntS_loop l [] (List.replicate l.length 0) 0 (by simp) (by simp) (by simpa using hl)
  simp only [List.nil_append] at this
  refine Ev.congr (fun k => ?_) this
  unfold laws_toIntS.f
  rw [if_pos (by omega), if_pos (by omega)]
  simp only [Int.toNat_natCast]

theorem laws_eqIntS_loop (s : List Int) : ∀ (p q t : List Int) (i : Int), t.length = s.length → q.length = p.length → i = (p.length : Int) → (p ++ s).length ≤ 1099511627776 →
    Ev (fun k => laws_eqIntS.l0 k (p ++ s) (q ++ t) i) (decide (s = t)) := by
  induction s with
  | nil =>
    intro p q t i ht hq hi hl
    have ht0 : t = [] := List.eq_nil_of_length_eq_zero ht
    subst ht0
    refine Ev.done fun k => ?_
    simp only [laws_eqIntS.l0]
    rw [if_neg (by rw [len_nil]; omega)]
    simp
  | cons x s ih =>
    intro p q t i ht hq hi hl
    cases t with
    | nil => simp at ht
    | cons y t =>
      have ht' : t.length = s.length := by simpa using ht
      have h1 := len_mid p s x
      have h2 := len_mid q t y
      by_cases hxy : x = y
      · have := ih (p ++ [x]) (q ++ [y]) t (i + 1) ht' (by simp [hq]) (by rw [len_snoc]; omega) (by rw [← snoc_mid]; exact hl)
        rw [← snoc_mid, ← snoc_mid] at this
        refine Ev.to (Ev.step' this fun k => ?_) (by simp [hxy])
        simp only [laws_eqIntS.l0]
        rw [if_pos (by omega), if_pos (by omega), if_pos (by omega), rd_mid hi, rd_mid (by omega), if_pos hxy, w64 (by omega)]
      · refine Ev.to (Ev.done fun k => ?_) (show false = _ by simp [hxy])
        simp only [laws_eqIntS.l0]
        rw [if_pos (by omega), if_pos (by omega), if_pos (by omega), rd_mid hi, rd_mid (by omega), if_neg hxy]
theorem laws_eqIntS_ev (l t : List Int) (hl : l.length ≤ 1099511627776) : Ev (fun k => laws_eqIntS.f k l t) (decide (l = t)) := by
  by_cases h : l.length = t.length
  · have := laws_eqIntS_loop l [] [] t 0 h.symm rfl (by simp) (by simpa using hl)
    simp only [List.nil_append] at this
    refine Ev.congr (fun k => ?_) this
    unfold laws_eqIntS.f
    rw [if_pos (by omega)]
  · refine Ev.to (Ev.congr (fun k => ?_) (Ev.now false)) (by rw [decide_eq_false]; exact fun e => h (by rw [e]))
    unfold laws_eqIntS.f
    rw [if_neg (by omega)]

theorem spec_l1In_eq (a b c : Int) : spec_l1In.f a b c = some (inB a b c) := inB_ite a b c

theorem spec_l1Most_eq (a b : Int) : spec_l1Most.f a b = some (max a b) := most_max a b

theorem spec_spGrowth_loop (l : List Int) (s : List Int) : ∀ (p : List Int) (m n i : Int), -1 ≤ m → m + 1 ≤ p.length → n = ((p ++ s).length : Int) → i = (p.length : Int) → (p ++ s).length ≤ 1099511627776 →
    Ev (fun k => spec_spGrowth.l0 k l m (p ++ s) n i) (growW m s && inB l.length 1 12) := by
  induction s with
  | nil =>
    intro p m n i hm hm' hn hi hl
    refine Ev.to (Ev.done fun k => ?_) (show inB l.length 1 12 = _ by unfold growW; simp)
    simp only [spec_spGrowth.l0]
    rw [if_neg (by rw [len_nil] at hn; omega), spec_l1In_eq]
    rfl
  | cons x s ih =>
    intro p m n i hm hm' hn hi hl
    have h1 := len_mid p s x
    unfold growW
    cases hb : inB x 0 (m + 1) with
    | false =>
      refine Ev.to (Ev.done fun k => ?_) (show false = _ by simp)
      simp only [spec_spGrowth.l0]
      rw [if_pos (by omega), if_pos (by omega), if_pos (by omega), rd_mid hi, w64 (n := m + 1) (by omega), spec_l1In_eq, hb]
      rfl
    | true =>
      have hx := inB_true.1 hb
      have := ih (p ++ [x]) (max m x) n (i + 1) (by omega) (by rw [len_snoc]; omega) (by rw [← snoc_mid]; exact hn) (by rw [len_snoc]; omega) (by rw [← snoc_mid]; exact hl)
      rw [← snoc_mid] at this
      refine Ev.to (Ev.step' this fun k => ?_) (by simp)
      simp only [spec_spGrowth.l0]
      rw [if_pos (by omega), if_pos (by omega), if_pos (by omega), rd_mid hi, w64 (n := m + 1) (by omega), spec_l1In_eq, hb]
      simp only [obind, if_true, spec_l1Most_eq, obind]
      rw [w64 (n := i + 1) (by omega)]
theorem spec_spGrowth_ev (l : List Int) (hl : l.length ≤ 1099511627776) : Ev (fun k => spec_spGrowth.f k l) (isG l) :=
  spec_spGrowth_loop l l [] (-1) _ 0 (by omega) (by simp) rfl (by simp) (by simpa using hl)

theorem spec_spTop_loop (s : List Int) : ∀ (p : List Int) (m n i : Int), n = ((p ++ s).length : Int) → i = (p.length : Int) → (p ++ s).length ≤ 1099511627776 →
    Ev (fun k => spec_spTop.l0 k m (p ++ s) n i) (s.foldl max m) := by
  induction s with
  | nil =>
    intro p m n i hn hi hl
    refine Ev.to (Ev.done fun k => ?_) (show m = _ by simp)
    simp only [spec_spTop.l0]
    rw [if_neg (by rw [len_nil] at hn; omega)]
  | cons x s ih =>
    intro p m n i hn hi hl
    have h1 := len_mid p s x
    have := ih (p ++ [x]) (max m x) n (i + 1) (by rw [← snoc_mid]; exact hn) (by rw [len_snoc]; omega) (by rw [← snoc_mid]; exact hl)
    rw [← snoc_mid] at this
    refine Ev.to (Ev.step' this fun k => ?_) (by simp)
    simp only [spec_spTop.l0]
    rw [if_pos (by omega), if_pos (by omega), if_pos (by omega), rd_mid hi, spec_l1Most_eq, w64 (by omega)]
    rfl
theorem spec_spTop_ev (l : List Int) (hl : l.length ≤ 1099511627776) : Ev (fun k => spec_spTop.f k l) (l.foldl max (-1)) :=
  spec_spTop_loop l [] (-1) _ 0 rfl (by simp) (by simpa using hl)

set_option maxRecDepth 100000 in
theorem spec_spEnds_small : ∀ k : Nat, k < 14 → ∀ r : Nat, k + r < 14 → spec_spEnds.f 16 (k : Int) (r : Int) = some ((gc r k : Nat) : Int) := by
  intro k hk r hr
  have key : ∀ k : Nat, k < 14 → ∀ r : Nat, r < 14 → k + r < 14 → spec_spEnds.f 16 (k : Int) (r : Int) = some ((gc r k : Nat) : Int) := by decide +kernel
  exact key k hk r (by omega) hr
theorem spec_spEnds_ev (k r : Nat) (h : k + r < 14) : Ev (fun n => spec_spEnds.f n (k : Int) (r : Int)) ((gc r k : Nat) : Int) :=
  Ev.of (g := fun n => spec_spEnds.f n (k : Int) (r : Int)) (spec_spEnds.mono _ _) (spec_spEnds_small k (by omega) r h)

set_option maxRecDepth 100000 in
theorem gc_small : ∀ k : Nat, k < 14 → ∀ r : Nat, k + r < 14 → gc r k ≤ 27644437 := by
  intro k hk r hr
  have key : ∀ k : Nat, k < 14 → ∀ r : Nat, r < 14 → k + r < 14 → gc r k ≤ 27644437 := by decide +kernel
  exact key k hk r (by omega) hr

theorem spec_RankGrowth_loop (a : List Int) (ha : a.length ≤ 12) (s : List Int) : ∀ (p : List Int) (k rank : Nat), p ++ s = a → p.foldl max (-1) = (k : Int) - 1 → growW ((k : Int) - 1) s = true → k ≤ p.length → rank + gc s.length k ≤ 1099511627776 →
    Ev (fun f => spec_RankGrowth.l0 f a (rank : Int) (p.length : Int)) (((rank + rkG k s : Nat) : Int), true) := by
  induction s with
  | nil =>
    intro p k rank h1 ht h2 h3 h4
    refine Ev.to (Ev.done fun f => ?_) (show (((rank : Nat) : Int), true) = _ by simp [rkG])
    have : a.length = p.length := by rw [← h1]; simp
    simp only [spec_RankGrowth.l0]
    rw [if_neg (by omega)]
  | cons x s ih =>
    intro p k rank h1 ht h2 h3 h4
    obtain ⟨hx, h2'⟩ := growW_next h2
    have hlen : a.length = p.length + s.length + 1 := by rw [← h1]; simp; omega
    have hgb := gc_small k (by omega) s.length (by omega)
    have hst := @rk_step s.length k x.toNat (by omega)
    have hlc : (x :: s).length = s.length + 1 := rfl
    rw [hlc] at h4
    have e0 : rd a (p.length : Int) = x := by rw [← h1]; exact rd_mid rfl
    have e1 := i_last (n := a.length) (i := p.length) (r := s.length) (by omega) (by omega)
    have e2 : x * ((gc s.length k : Nat) : Int) = ((x.toNat * gc s.length k : Nat) : Int) := by
      rw [← i_mul, Int.toNat_of_nonneg hx.1]
    have e3 := i_add (rank := rank) (P := x.toNat * gc s.length k) (Nat.le_trans (Nat.le_trans (Nat.le_add_right _ _) hst) (Nat.le_trans (Nat.le_add_left _ _) h4)) (Nat.le_trans (Nat.le_add_right _ _) h4)
    have e4 : wrap64 ((k : Int) - 1 + 1) = (k : Int) := by rw [w64 (by omega)]; omega
    have e5 := i_succ (out := p) (x := x) (by omega)
    have e6 : a.take ((p.length : Nat) : Int).toNat = p := by rw [← h1]; simp
    have := ih (p ++ [x]) (max k (x.toNat + 1)) (rank + x.toNat * gc s.length k) (by rw [← snoc_mid]; exact h1) (by rw [List.foldl_append, ht]; simp only [List.foldl_cons, List.foldl_nil]; omega) h2' (by rw [List.length_append, List.length_singleton]; exact Nat.max_le.2 ⟨by omega, by omega⟩) (Nat.le_trans (by rw [Nat.add_assoc]; exact Nat.add_le_add_left hst _) h4)
    refine Ev.succ ?_
    simp only [spec_RankGrowth.l0]
    simp only [if_pos (show (p.length : Int) < (a.length : Int) by omega), if_pos (show 0 ≤ (p.length : Int) by omega), if_pos (show (p.length : Int) ≤ (a.length : Int) by omega), e0, e1, e6]
    refine Ev.bind (spec_spTop_ev p (by omega)) ?_
    simp only [ht, e4]
    refine Ev.bind (spec_spEnds_ev k s.length (by omega)) ?_
    simp only [e2, e3, e5]
    refine Ev.to this ?_
    simp only [rkG]
    rw [Nat.add_assoc]
theorem spec_RankGrowth_ev (l : List Int) (hl : l.length ≤ 1099511627776) : Ev (fun f => spec_RankGrowth.f f l) (if isG l = true then ((rkG 0 l : Int), true) else (0, false)) := by
  unfold spec_RankGrowth.f
  refine Ev.bind (spec_spGrowth_ev l hl) ?_
  by_cases h : isG l = true
  · obtain ⟨h1, h2, h3⟩ := isG_true h
    simp only [h, if_true]
    cases l with
    | nil => simp at h2
    | cons x s =>
      obtain ⟨hx, h1'⟩ := growW_next h1
      obtain rfl : x = 0 := by omega
      have hlc : (0 :: s : List Int).length = s.length + 1 := rfl
      have hgb := gc_small 1 (by omega) s.length (by omega)
      refine Ev.to (spec_RankGrowth_loop (0 :: s) h3 s [0] 1 0 rfl (by decide) h1' (by simp) (by omega)) ?_
      simp [rkG]
  · simp only [if_neg h]
    exact Ev.now _

set_option maxRecDepth 100000 in
theorem impl_goings_small : ∀ k : Nat, k < 14 → ∀ r : Nat, k + r < 14 → impl_goings.f 400 (k : Int) (r : Int) = some ((gc r k : Nat) : Int) := by
  intro k hk r hr
  have key : ∀ k : Nat, k < 14 → ∀ r : Nat, r < 14 → k + r < 14 → impl_goings.f 400 (k : Int) (r : Int) = some ((gc r k : Nat) : Int) := by decide +kernel
  exact key k hk r (by omega) hr
theorem impl_goings_ev (k r : Nat) (h : k + r < 14) : Ev (fun n => impl_goings.f n (k : Int) (r : Int)) ((gc r k : Nat) : Int) :=
  Ev.of (g := fun n => impl_goings.f n (k : Int) (r : Int)) (impl_goings.mono _ _) (impl_goings_small k (by omega) r h)

theorem impl_within_eq (a b c : Int) : impl_within.f a b c = some (inB a b c) := inB_ite a b c

theorem impl_IsGrowth_loop (l : List Int) (s : List Int) : ∀ (p : List Int) (m n i : Int), -1 ≤ m → m + 1 ≤ p.length → n = ((p ++ s).length : Int) → i = (p.length : Int) → (p ++ s).length ≤ 1099511627776 →
    Ev (fun k => impl_IsGrowth.l0 k l m (p ++ s) n i) (growW m s && inB l.length 1 12) := by
  induction s with
  | nil =>
    intro p m n i hm hm' hn hi hl
    refine Ev.to (Ev.done fun k => ?_) (show inB l.length 1 12 = _ by unfold growW; simp)
    simp only [impl_IsGrowth.l0]
    rw [if_neg (by rw [len_nil] at hn; omega), impl_within_eq]
    rfl
  | cons x s ih =>
    intro p m n i hm hm' hn hi hl
    have h1 := len_mid p s x
    unfold growW
    cases hb : inB x 0 (m + 1) with
    | false =>
      refine Ev.to (Ev.done fun k => ?_) (show false = _ by simp)
      simp only [impl_IsGrowth.l0]
      rw [if_pos (by omega), if_pos (by omega), if_pos (by omega), rd_mid hi, w64 (n := m + 1) (by omega), impl_within_eq, hb]
      rfl
    | true =>
      have hx := inB_true.1 hb
      have := ih (p ++ [x]) (max m x) n (i + 1) (by omega) (by rw [len_snoc]; omega) (by rw [← snoc_mid]; exact hn) (by rw [len_snoc]; omega) (by rw [← snoc_mid]; exact hl)
      rw [← snoc_mid] at this
      refine Ev.to (Ev.step' this fun k => ?_) (by simp)
      simp only [impl_IsGrowth.l0]
      rw [if_pos (by omega), if_pos (by omega), if_pos (by omega), rd_mid hi, w64 (n := m + 1) (by omega), impl_within_eq, hb]
      simp only [obind, if_true, mx_max]
      rw [w64 (n := i + 1) (by omega)]
theorem impl_IsGrowth_ev (l : List Int) (hl : l.length ≤ 1099511627776) : Ev (fun k => impl_IsGrowth.f k l) (isG l) :=
  impl_IsGrowth_loop l l [] (-1) _ 0 (by omega) (by simp) rfl (by simp) (by simpa using hl)

theorem impl_RankGrowth_loop (a : List Int) (ha : a.length ≤ 12) (s : List Int) : ∀ (p : List Int) (k rank : Nat), p ++ s = a → growW ((k : Int) - 1) s = true → k ≤ p.length → rank + gc s.length k ≤ 1099511627776 →
    Ev (fun f => impl_RankGrowth.l0 f a (rank : Int) (k : Int) a (a.length : Int) (p.length : Int)) (((rank + rkG k s : Nat) : Int), true) := by
  induction s with
  | nil =>
    intro p k rank h1 h2 h3 h4
    refine Ev.to (Ev.done fun f => ?_) (show (((rank : Nat) : Int), true) = _ by simp [rkG])
    have : a.length = p.length := by rw [← h1]; simp
    simp only [impl_RankGrowth.l0]
    rw [if_neg (by omega)]
  | cons x s ih =>
    intro p k rank h1 h2 h3 h4
    obtain ⟨hx, h2'⟩ := growW_next h2
    have hlen : a.length = p.length + s.length + 1 := by rw [← h1]; simp; omega
    have hgb := gc_small k (by omega) s.length (by omega)
    have hst := @rk_step s.length k x.toNat (by omega)
    have hlc : (x :: s).length = s.length + 1 := rfl
    rw [hlc] at h4
    have e0 : rd a (p.length : Int) = x := by rw [← h1]; exact rd_mid rfl
    have e1 := i_last (n := a.length) (i := p.length) (r := s.length) (by omega) (by omega)
    have e2 : x * ((gc s.length k : Nat) : Int) = ((x.toNat * gc s.length k : Nat) : Int) := by
      rw [← i_mul, Int.toNat_of_nonneg hx.1]
    have e3 := i_add (rank := rank) (P := x.toNat * gc s.length k) (Nat.le_trans (Nat.le_trans (Nat.le_add_right _ _) hst) (Nat.le_trans (Nat.le_add_left _ _) h4)) (Nat.le_trans (Nat.le_add_right _ _) h4)
    have e4 : mx (k : Int) (wrap64 (x + 1)) = ((max k (x.toNat + 1) : Nat) : Int) := by
      rw [← i_max (by omega), Int.toNat_of_nonneg hx.1]
    have e5 := i_succ (out := p) (x := x) (by omega)
    have := ih (p ++ [x]) (max k (x.toNat + 1)) (rank + x.toNat * gc s.length k) (by rw [← snoc_mid]; exact h1) h2' (by rw [List.length_append, List.length_singleton]; exact Nat.max_le.2 ⟨by omega, by omega⟩) (Nat.le_trans (by rw [Nat.add_assoc]; exact Nat.add_le_add_left hst _) h4)
    refine Ev.succ ?_
    simp only [impl_RankGrowth.l0]
    simp only [if_pos (show (p.length : Int) < (a.length : Int) by omega), if_pos (show 0 ≤ (p.length : Int) by omega), e0, e1]
    refine Ev.bind (impl_goings_ev k s.length (by omega)) ?_
    simp only [e2, e3, e4, e5]
    refine Ev.to this ?_
    simp only [rkG]
    rw [Nat.add_assoc]
theorem impl_RankGrowth_ev (l : List Int) (hl : l.length ≤ 1099511627776) : Ev (fun f => impl_RankGrowth.f f l) (if isG l = true then ((rkG 0 l : Int), true) else (0, false)) := by
  unfold impl_RankGrowth.f
  refine Ev.bind (impl_IsGrowth_ev l hl) ?_
  by_cases h : isG l = true
  · obtain ⟨h1, h2, h3⟩ := isG_true h
    have hgb := gc_small 0 (by omega) l.length (by omega)
    simp only [h, if_true]
    refine Ev.to (impl_RankGrowth_loop l h3 l [] 0 0 rfl h1 (by simp) (by omega)) ?_
    simp
  · simp only [if_neg h]
    exact Ev.now _

theorem FnExactRankGrowth : laws_FnExactRankGrowth.Pure := by
  intro l _ hl _
  unfold laws_FnExactRankGrowth.f
  by_cases hbig : (l.length : Int) > 1048576
  · exact ⟨0, by rw [if_pos hbig]⟩
  simp only [if_neg hbig]
  have hl' : l.length ≤ 1099511627776 := by omega
  have ht := laws_toIntS_ev l hl'
  have he := laws_eqIntS_ev l l hl'
  refine (Ev.bind ht (Ev.bind (spec_RankGrowth_ev l hl') (Ev.bind ht (Ev.bind (impl_RankGrowth_ev l hl') ?_)))).rounds
  simp only [bne_self_eq_false, if_true]
  refine Ev.succ ?_
  simp only [laws_FnExactRankGrowth.j0, Bool.false_eq_true, if_false]
  refine Ev.bind ht (Ev.bind he ?_)
  simp only [decide_true, if_true]
  exact Ev.now _

end Go.Proofs.Ytaaoeaojimjikaa.Pure
