/- The program's IsGrowth returns what the reference's returns, for every list of whole numbers that takes at most 2^47 - 4096 bytes. -/
import Derived.Test.YteilcjohobmdhaaPFnExactIsGrowthx1
import Derived.Test.YteilcjohobmdhaaCoreA
import Derived.Test.YteilcjohobmdhaaCoreG
namespace Go.Proofs.Yteilcjohobmdhaa.Pure
open Go.RowKit Go.Proofs.Yteilcjohobmdhaa.PFnExactIsGrowth Go.Proofs.YteilcjohobmdhaaW.PrintWords Go.Proofs.YteilcjohobmdhaaW.PrintLast Go.Proofs.YteilcjohobmdhaaW.PrintMore Go.Proofs.Yteilcjohobmdhaa.Core
set_option linter.unusedVariables false
set_option linter.unusedSimpArgs false

theorem laws_toIntS_loop (s : List Int) : ∀ (p q : List Int) (i : Int), q.length = s.length → i = (p.length : Int) → (p ++ s).length ≤ 1099511627776 →
    Ev (fun k => laws_toIntS.l0 k (p ++ s) (p ++ q) i) (p ++ s) := by
  induction s with
  | nil =>
    intro p q i hq hi hl
    have hq0 : q = [] := List.eq_nil_of_length_eq_zero hq
    subst hq0
    refine Ev.done fun k => ?_
    simp only [laws_toIntS.l0]
    rw [if_neg (by rw [len_nil]; omega)]
  | cons x s ih =>
    intro p q i hq hi hl
    cases q with
    | nil => simp at hq
    | cons y q =>
      have hq' : q.length = s.length := by simpa using hq
      have h1 := len_mid p s x
      have h2 := len_mid p q y
      have := ih (p ++ [x]) q (i + 1) hq' (by rw [len_snoc]; omega) (by rw [← snoc_mid]; exact hl)
      rw [← snoc_mid, ← snoc_mid] at this
      refine Ev.step' this fun k => ?_
      simp only [laws_toIntS.l0]
      rw [if_pos (by omega), if_pos (by omega), if_pos (by omega), rd_mid hi, set_mid hi, w64 (by omega)]
theorem laws_toIntS_ev (l : List Int) (hl : l.length ≤ 1099511627776) : Ev (fun k => laws_toIntS.f k l) l := by
  have := laws_toIntS_loop l [] (List.replicate l.length 0) 0 (by simp) (by simp) (by simpa using hl)
  simp only [List.nil_append] at this
  refine Ev.congr (fun k => ?_) this
  unfold laws_toIntS.f
  rw [if_pos (by omega), if_pos (by omega)]
  simp only [Int.toNat_natCast]

theorem laws_eqIntS_loop (s : List Int) : ∀ (p q t : List Int) (i : Int), t.length = s.length → q.length = p.length → i = (p.length : Int) → (p ++ s).length ≤ 1099511627776 →
    Ev (fun k => laws_eqIntS.l0 k (p ++ s) (q ++ t) i) (decide (s = t)) := by
  induction s with
  | nil =>
    intro p q t i ht hq hi hl
    have ht0 : t = [] := List.eq_nil_of_length_eq_zero ht
    subst ht0
    refine Ev.done fun k => ?_
    simp only [laws_eqIntS.l0]
    rw [if_neg (by rw [len_nil]; omega)]
    simp
  | cons x s ih =>
    intro p q t i ht hq hi hl
    cases t with
    | nil => simp at ht
    | cons y t =>
      have ht' : t.length = s.length := by simpa using ht
      have h1 := len_mid p s x
      have h2 := len_mid q t y
      by_cases hxy : x = y
      · have := ih (p ++ [x]) (q ++ [y]) t (i + 1) ht' (by simp [hq]) (by rw [len_snoc]; omega) (by rw [← snoc_mid]; exact hl)
        rw [← snoc_mid, ← snoc_mid] at this
        refine Ev.to (Ev.step' this fun k => ?_) (by simp [hxy])
        simp only [laws_eqIntS.l0]
        rw [if_pos (by omega), if_pos (by omega), if_pos (by omega), rd_mid hi, rd_mid (by omega), if_pos hxy, w64 (by omega)]
      · refine Ev.to (Ev.done fun k => ?_) (show false = _ by simp [hxy])
        simp only [laws_eqIntS.l0]
        rw [if_pos (by omega), if_pos (by omega), if_pos (by omega), rd_mid hi, rd_mid (by omega), if_neg hxy]
theorem laws_eqIntS_ev (l t : List Int) (hl : l.length ≤ 1099511627776) : Ev (fun k => laws_eqIntS.f k l t) (decide (l = t)) := by
  by_cases h : l.length = t.length
  · have := laws_eqIntS_loop l [] [] t 0 h.symm rfl (by simp) (by simpa using hl)
    simp only [List.nil_append] at this
    refine Ev.congr (fun k => ?_) this
    unfold laws_eqIntS.f
    rw [if_pos (by omega)]
  · refine Ev.to (Ev.congr (fun k => ?_) (Ev.now false)) (by rw [decide_eq_false]; exact fun e => h (by rw [e]))
    unfold laws_eqIntS.f
    rw [if_neg (by omega)]

theorem spec_l1In_eq (a b c : Int) : spec_l1In.f a b c = some (inB a b c) := inB_ite a b c

theorem spec_l1Most_eq (a b : Int) : spec_l1Most.f a b = some (max a b) := most_max a b

theorem spec_spGrowth_loop (l : List Int) (s : List Int) : ∀ (p : List Int) (m n i : Int), -1 ≤ m → m + 1 ≤ p.length → n = ((p ++ s).length : Int) → i = (p.length : Int) → (p ++ s).length ≤ 1099511627776 →
    Ev (fun k => spec_spGrowth.l0 k l m (p ++ s) n i) (growW m s && inB l.length 1 12) := by
  induction s with
  | nil =>
    intro p m n i hm hm' hn hi hl
    refine Ev.to (Ev.done fun k => ?_) (show inB l.length 1 12 = _ by unfold growW; simp)
    simp only [spec_spGrowth.l0]
    rw [if_neg (by rw [len_nil] at hn; omega), spec_l1In_eq]
    rfl
  | cons x s ih =>
    intro p m n i hm hm' hn hi hl
    have h1 := len_mid p s x
    unfold growW
    cases hb : inB x 0 (m + 1) with
    | false =>
      refine Ev.to (Ev.done fun k => ?_) (show false = _ by simp)
      simp only [spec_spGrowth.l0]
      rw [if_pos (by omega), if_pos (by omega), if_pos (by omega), rd_mid hi, w64 (n := m + 1) (by omega), spec_l1In_eq, hb]
      rfl
    | true =>
      have hx := inB_true.1 hb
      have := ih (p ++ [x]) (max m x) n (i + 1) (by omega) (by rw [len_snoc]; omega) (by rw [← snoc_mid]; exact hn) (by rw [len_snoc]; omega) (by rw [← snoc_mid]; exact hl)
      rw [← snoc_mid] at this
      refine Ev.to (Ev.step' this fun k => ?_) (by simp)
      simp only [spec_spGrowth.l0]
      rw [if_pos (by omega), if_pos (by omega), if_pos (by omega), rd_mid hi, w64 (n := m + 1) (by omega), spec_l1In_eq, hb]
      simp only [Option.bind_some, if_true, spec_l1Most_eq, Option.bind_some]
      rw [w64 (n := i + 1) (by omega)]
theorem spec_spGrowth_ev (l : List Int) (hl : l.length ≤ 1099511627776) : Ev (fun k => spec_spGrowth.f k l) (isG l) :=
  spec_spGrowth_loop l l [] (-1) _ 0 (by omega) (by simp) rfl (by simp) (by simpa using hl)

theorem impl_within_eq (a b c : Int) : impl_within.f a b c = some (inB a b c) := inB_ite a b c

theorem impl_IsGrowth_loop (l : List Int) (s : List Int) : ∀ (p : List Int) (m n i : Int), -1 ≤ m → m + 1 ≤ p.length → n = ((p ++ s).length : Int) → i = (p.length : Int) → (p ++ s).length ≤ 1099511627776 →
    Ev (fun k => impl_IsGrowth.l0 k l m (p ++ s) n i) (growW m s && inB l.length 1 12) := by
  induction s with
  | nil =>
    intro p m n i hm hm' hn hi hl
    refine Ev.to (Ev.done fun k => ?_) (show inB l.length 1 12 = _ by unfold growW; simp)
    simp only [impl_IsGrowth.l0]
    rw [if_neg (by rw [len_nil] at hn; omega), impl_within_eq]
    rfl
  | cons x s ih =>
    intro p m n i hm hm' hn hi hl
    have h1 := len_mid p s x
    unfold growW
    cases hb : inB x 0 (m + 1) with
    | false =>
      refine Ev.to (Ev.done fun k => ?_) (show false = _ by simp)
      simp only [impl_IsGrowth.l0]
      rw [if_pos (by omega), if_pos (by omega), if_pos (by omega), rd_mid hi, w64 (n := m + 1) (by omega), impl_within_eq, hb]
      rfl
    | true =>
      have hx := inB_true.1 hb
      have := ih (p ++ [x]) (max m x) n (i + 1) (by omega) (by rw [len_snoc]; omega) (by rw [← snoc_mid]; exact hn) (by rw [len_snoc]; omega) (by rw [← snoc_mid]; exact hl)
      rw [← snoc_mid] at this
      refine Ev.to (Ev.step' this fun k => ?_) (by simp)
      simp only [impl_IsGrowth.l0]
      rw [if_pos (by omega), if_pos (by omega), if_pos (by omega), rd_mid hi, w64 (n := m + 1) (by omega), impl_within_eq, hb]
      simp only [Option.bind_some, if_true, mx_max]
      rw [w64 (n := i + 1) (by omega)]
theorem impl_IsGrowth_ev (l : List Int) (hl : l.length ≤ 1099511627776) : Ev (fun k => impl_IsGrowth.f k l) (isG l) :=
  impl_IsGrowth_loop l l [] (-1) _ 0 (by omega) (by simp) rfl (by simp) (by simpa using hl)

theorem FnExactIsGrowth : laws_FnExactIsGrowth.Pure := by
  intro l _ hl _
  unfold laws_FnExactIsGrowth.f
  by_cases hbig : (l.length : Int) > 1048576
  · exact ⟨0, by rw [if_pos hbig]⟩
  simp only [if_neg hbig]
  have hl' : l.length ≤ 1099511627776 := by omega
  have ht := laws_toIntS_ev l hl'
  have he := laws_eqIntS_ev l l hl'
  have hs : Ev (fun k => spec_IsGrowth.f k l) (isG l) := by
    unfold spec_IsGrowth.f
    simp only [Option.bind_fun_some]
    exact spec_spGrowth_ev l hl'
  have hi := impl_IsGrowth_ev l hl'
  refine (Ev.bind ht (Ev.bind hs (Ev.bind ht (Ev.bind hi ?_)))).rounds
  simp only [bne_self_eq_false, Bool.false_eq_true, if_false]
  refine Ev.bind ht (Ev.bind he ?_)
  simp only [decide_true, if_true]
  exact Ev.now _

end Go.Proofs.Yteilcjohobmdhaa.Pure
