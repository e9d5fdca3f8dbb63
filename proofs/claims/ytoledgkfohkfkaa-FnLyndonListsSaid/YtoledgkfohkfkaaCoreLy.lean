/- Lyndon words by their ends; no program is in sight here. -/
import Derived.Test.YtoledgkfohkfkaaCoreR
import Derived.Test.YtoledgkfohkfkaaCoreM
namespace Go.Proofs.Ytoledgkfohkfkaa.Core
open Go.RowKit Go.Proofs.YtoledgkfohkfkaaW.PrintWords Go.Proofs.YtoledgkfohkfkaaW.PrintLast Go.Proofs.YtoledgkfohkfkaaW.PrintMore
set_option linter.unusedVariables false
set_option linter.unusedSimpArgs false

/-- Less, and told so by a letter. -/
def slt : List Int → List Int → Bool
  | x :: s, y :: t => decide (x < y) || (decide (x = y) && slt s t)
  | _, _ => false
theorem slt_app (s : List Int) : ∀ t a b, slt s t = true → cmpW (s ++ a) (t ++ b) < 0 := by
  induction s with
  | nil => intro t a b h; simp [slt] at h
  | cons x s ih =>
    intro t a b h
    cases t with
    | nil => simp [slt] at h
    | cons y t =>
      simp only [slt, Bool.or_eq_true, Bool.and_eq_true, decide_eq_true_iff] at h
      simp only [List.cons_append, cmpW]
      rcases h with h | ⟨h1, h2⟩
      · rw [if_neg (by omega), if_pos h]; omega
      · rw [if_pos h1]; exact ih t a b h2
theorem slt_lt {s t : List Int} (h : slt s t = true) : cmpW s t < 0 := by
  have := slt_app s t [] [] h
  rwa [List.append_nil, List.append_nil] at this
theorem lt_cases (s : List Int) : ∀ t, cmpW s t < 0 → slt s t = true ∨ ∃ u, u ≠ [] ∧ t = s ++ u := by
  induction s with
  | nil =>
    intro t h
    cases t with
    | nil => simp [cmpW] at h
    | cons y t => exact .inr ⟨y :: t, by simp, rfl⟩
  | cons x s ih =>
    intro t h
    cases t with
    | nil => simp [cmpW] at h
    | cons y t =>
      simp only [cmpW] at h
      by_cases e : x = y
      · rw [if_pos e] at h
        rcases ih t h with h1 | ⟨u, h1, h2⟩
        · left; simp [slt, e, h1]
        · right; exact ⟨u, h1, by rw [e, h2]; rfl⟩
      · rw [if_neg e] at h
        left
        have : x < y := by split at h <;> omega
        simp [slt, this]
theorem lt_short {s t : List Int} (h : cmpW s t < 0) (hl : t.length ≤ s.length) : slt s t = true := by
  rcases lt_cases s t h with h1 | ⟨u, h1, h2⟩
  · exact h1
  · have : 0 < u.length := List.length_pos_iff.2 h1
    rw [h2] at hl
    simp at hl; omega
theorem cmp_app (p s t : List Int) : cmpW (p ++ s) (p ++ t) = cmpW s t := by
  induction p with
  | nil => rfl
  | cons x p ih => simp only [List.cons_append, cmpW, if_true]; exact ih
theorem cmp_pre (s a : List Int) : cmpW s (s ++ a) ≤ 0 := by
  have := cmp_app s [] a
  rw [List.append_nil] at this
  rw [this]
  cases a <;> simp [cmpW]
/-- Less than each end of its own. -/
def Lyn (w : List Int) : Prop := 0 < w.length ∧ ∀ k, 1 ≤ k → k < w.length → cmpW w (w.drop k) < 0
theorem lyn_rot {w : List Int} (h : 0 < w.length) : lynW w = true ↔ ∀ k, 1 ≤ k → k < w.length → cmpW w (rotW w k) < 0 := by
  unfold lynW
  rw [Bool.and_eq_true, decide_eq_true_iff, neck_iff h]
  obtain ⟨⟨r1, r2⟩, ⟨r3, r4⟩, r5⟩ := root_spec h
  constructor
  · rintro ⟨h1, h2⟩ k hk1 hk2
    have hle := least_le h k
    rw [← h1, per_small hk2] at hle
    rcases cmp_in w (rotW w k) with c | c | c
    · omega
    · have e := cmp_zero _ _ c
      have := (per_iff h k).1 (by rw [per_small hk2]; exact e.symm)
      rw [h2, Nat.mod_eq_of_lt hk2] at this
      omega
    · omega
  · intro hk
    have hz : leastW w = 0 := least_zero h fun k => by
      unfold per
      rcases Nat.eq_zero_or_pos (k % w.length) with e | e
      · rw [e, rotW_zero, cmp_self]; omega
      · have := hk _ e (Nat.mod_lt _ h); omega
    refine ⟨by rw [hz, rotW_zero], ?_⟩
    rcases Nat.lt_or_ge (rootW w) w.length with c | c
    · have := hk (rootW w) r1 c
      rw [← per_small c, r4, cmp_self] at this
      omega
    · omega
theorem lyn_iff {w : List Int} (h : 0 < w.length) : lynW w = true ↔ Lyn w := by
  rw [lyn_rot h]
  constructor
  · intro hr
    refine ⟨h, fun k h1 h2 => ?_⟩
    have hk := hr k h1 h2
    have hw : w.take k ++ w.drop k = w := List.take_append_drop k w
    have ls : (w.drop k).length = w.length - k := by simp
    -- the end against the word
    rcases cmp_in w (w.drop k) with c | c | c
    · omega
    · have e := cmp_zero _ _ c
      have : w.length = (w.drop k).length := by rw [← e]
      omega
    · exfalso
      have c2 : cmpW (w.drop k) w < 0 := by have := cmpW_turn w (w.drop k); omega
      rcases lt_cases _ _ c2 with c3 | ⟨t, ht, hwt⟩
      · have := slt_app _ _ (w.take k) [] c3
        rw [List.append_nil] at this
        unfold rotW at hk
        have := cmpW_turn w (w.drop k ++ w.take k)
        omega
      · -- w = s t and w = p s
        have lt : t.length = k := by
          have := congrArg List.length hwt
          simp at this; omega
        have h3 : cmpW t (w.take k) < 0 := by
          unfold rotW at hk
          have e : cmpW w (w.drop k ++ w.take k) = cmpW (w.drop k ++ t) (w.drop k ++ w.take k) := by rw [← hwt]
          rw [e, cmp_app] at hk
          exact hk
        have h4 := hr (w.length - k) (by omega) (by omega)
        have e5 : rotW w (w.length - k) = t ++ w.drop k := by
          unfold rotW
          have hd : w.drop (w.length - k) = t := by
            have : (w.drop k ++ t).drop (w.drop k).length = t := List.drop_left
            rw [← hwt, ls] at this
            exact this
          have htk : w.take (w.length - k) = w.drop k := by
            have : (w.drop k ++ t).take (w.drop k).length = w.drop k := List.take_left
            rw [← hwt, ls] at this
            exact this
          rw [hd, htk]
        rw [e5] at h4
        have h5 := lt_short h3 (by simp; omega)
        have h6 := slt_app _ _ (w.drop k) (w.drop k) h5
        rw [hw] at h6
        have := cmpW_turn w (t ++ w.drop k)
        omega
  · rintro ⟨_, hs⟩ k h1 h2
    have h3 := lt_short (hs k h1 h2) (by simp)
    have := slt_app _ _ [] (w.take k) h3
    rw [List.append_nil] at this
    exact this
theorem lyn_one (x : Int) : Lyn [x] := ⟨by simp, fun k h1 h2 => by simp at h2; omega⟩
/-- Two Lyndon words that rise make one. -/
theorem lyn_app {u v : List Int} (hu : Lyn u) (hv : Lyn v) (h : cmpW u v < 0) : Lyn (u ++ v) := by
  have key : cmpW (u ++ v) v < 0 := by
    rcases lt_cases _ _ h with c | ⟨t, ht, e⟩
    · have := slt_app _ _ v [] c
      rwa [List.append_nil] at this
    · have hu0 := hu.1
      have hl : v.length = u.length + t.length := by rw [e]; simp
      have ht0 : 0 < t.length := List.length_pos_iff.2 ht
      have h1 := hv.2 u.length (by omega) (by omega)
      have e2 : v.drop u.length = t := by rw [e]; exact List.drop_left
      rw [e2] at h1
      have e3 : cmpW (u ++ v) v = cmpW (u ++ v) (u ++ t) := by rw [← e]
      rw [e3, cmp_app]; exact h1
  refine ⟨by have := hu.1; simp; omega, fun k h1 h2 => ?_⟩
  rw [List.length_append] at h2
  rcases Nat.lt_trichotomy k u.length with c | c | c
  · rw [List.drop_append_of_le_length (by omega)]
    have h3 := lt_short (hu.2 k h1 c) (by simp)
    exact slt_app _ _ v v h3
  · rw [c, List.drop_left]; exact key
  · have e : (u ++ v).drop k = v.drop (k - u.length) := by
      rw [List.drop_append, List.drop_of_length_le (by omega), List.nil_append]
    rw [e]
    have h3 := hv.2 (k - u.length) (by omega) (by omega)
    exact cmp_lt_le _ _ _ key (by omega)

/-! ### the longest Lyndon beginning -/
def lonF (w : List Int) : Nat → Nat
  | 0 => 0
  | n + 1 => if lynW (w.take (n + 1)) = true then n + 1 else lonF w n
def lonW (w : List Int) : Nat := lonF w w.length
theorem lonF_spec (w : List Int) (n : Nat) : n ≤ w.length → 1 ≤ n → (1 ≤ lonF w n ∧ lonF w n ≤ n) ∧ lynW (w.take (lonF w n)) = true ∧ ∀ k, lonF w n < k → k ≤ n → lynW (w.take k) = false := by
  induction n with
  | zero => intro _ h; omega
  | succ n ih =>
    intro hn h1
    unfold lonF
    by_cases c : lynW (w.take (n + 1)) = true
    · rw [if_pos c]; exact ⟨by omega, c, fun k h2 h3 => by omega⟩
    · rw [if_neg c]
      rcases Nat.eq_zero_or_pos n with e | e
      · subst e
        exfalso
        apply c
        obtain ⟨x, s, rfl⟩ : ∃ x s, w = x :: s := by
          cases w with
          | nil => simp at hn
          | cons x s => exact ⟨x, s, rfl⟩
        exact lynW_one x
      · obtain ⟨g1, g2, g3⟩ := ih (by omega) e
        refine ⟨by omega, g2, fun k h2 h3 => ?_⟩
        by_cases e2 : k = n + 1
        · rw [e2]; exact Bool.eq_false_iff.mpr c
        · exact g3 k h2 (by omega)
theorem lonW_spec {w : List Int} (h : 0 < w.length) : (1 ≤ lonW w ∧ lonW w ≤ w.length) ∧ Lyn (w.take (lonW w)) ∧ ∀ k, lonW w < k → k ≤ w.length → ¬ Lyn (w.take k) := by
  obtain ⟨g1, g2, g3⟩ := lonF_spec w w.length (Nat.le_refl _) h
  refine ⟨g1, (lyn_iff (by simp; unfold lonW; omega)).1 g2, fun k h1 h2 hL => ?_⟩
  have := (lyn_iff (w := w.take k) (by simp; omega)).2 hL
  rw [g3 k h1 h2] at this
  cases this
/-- The factors of a word. -/
def facF : Nat → List Int → List (List Int)
  | 0, _ => []
  | d + 1, w => if w.length = 0 then [] else w.take (lonW w) :: facF d (w.drop (lonW w))
def facW (w : List Int) : List (List Int) := facF w.length w
theorem facF_len (d : Nat) : ∀ w : List Int, w.length ≤ d → (facF d w).length ≤ w.length := by
  induction d with
  | zero => intro w _; simp [facF]
  | succ d ih =>
    intro w h
    unfold facF
    split
    · simp
    · obtain ⟨g1, _, _⟩ := lonW_spec (w := w) (by omega)
      have := ih (w.drop (lonW w)) (by simp; omega)
      simp at this ⊢; omega
theorem facF_flat (d : Nat) : ∀ w : List Int, w.length ≤ d → (facF d w).flatten = w := by
  induction d with
  | zero => intro w h; have : w = [] := List.eq_nil_of_length_eq_zero (by omega)
            subst this; rfl
  | succ d ih =>
    intro w h
    unfold facF
    by_cases c : w.length = 0
    · rw [if_pos c]; exact (List.eq_nil_of_length_eq_zero c).symm
    · rw [if_neg c, List.flatten_cons]
      obtain ⟨g1, _, _⟩ := lonW_spec (w := w) (by omega)
      rw [ih (w.drop (lonW w)) (by simp; omega), List.take_append_drop]
/-- Each is a Lyndon word, and none is less than the next one. -/
def notRise : List (List Int) → Prop
  | [] => True
  | [f] => Lyn f
  | f :: g :: s => Lyn f ∧ cmpW g f ≤ 0 ∧ notRise (g :: s)
theorem facF_fall (d : Nat) : ∀ w : List Int, w.length ≤ d → notRise (facF d w) := by
  induction d with
  | zero => intro w _; trivial
  | succ d ih =>
    intro w h
    unfold facF
    by_cases c : w.length = 0
    · rw [if_pos c]; trivial
    · rw [if_neg c]
      obtain ⟨g1, g2, g3⟩ := lonW_spec (w := w) (by omega)
      have hr := ih (w.drop (lonW w)) (by simp; omega)
      cases d with
      | zero => exact g2
      | succ d =>
        unfold facF at hr ⊢
        by_cases c2 : (w.drop (lonW w)).length = 0
        · rw [if_pos c2]; exact g2
        · rw [if_neg c2] at hr ⊢
          obtain ⟨k1, k2, k3⟩ := lonW_spec (w := w.drop (lonW w)) (by omega)
          refine ⟨g2, ?_, hr⟩
          rcases cmp_in ((w.drop (lonW w)).take (lonW (w.drop (lonW w)))) (w.take (lonW w)) with e | e | e
          · omega
          · omega
          · exfalso
            have hlt : cmpW (w.take (lonW w)) ((w.drop (lonW w)).take (lonW (w.drop (lonW w)))) < 0 := by
              have := cmpW_turn (w.take (lonW w)) ((w.drop (lonW w)).take (lonW (w.drop (lonW w)))); omega
            have hL := lyn_app g2 k2 hlt
            rw [← List.take_add] at hL
            exact g3 (lonW w + lonW (w.drop (lonW w))) (by omega) (by simp at k1; omega) hL
theorem fall_last (s : List (List Int)) : ∀ l : List Int, notRise s → s.getLast? = some l → (∀ f ∈ s, cmpW l f ≤ 0) ∧ ∀ k, k < s.flatten.length → cmpW l (s.flatten.drop k) ≤ 0 := by
  induction s with
  | nil => intro l _ h; simp at h
  | cons f s ih =>
    intro l hn hl
    cases s with
    | nil =>
      simp only [List.getLast?_singleton, Option.some.injEq] at hl
      subst hl
      refine ⟨fun g hg => by rw [List.mem_singleton.1 hg, cmp_self]; omega, fun k hk => ?_⟩
      simp only [List.flatten_cons, List.flatten_nil, List.append_nil] at hk ⊢
      rcases Nat.eq_zero_or_pos k with e | e
      · rw [e, List.drop_zero, cmp_self]; omega
      · have := hn.2 k e hk; omega
    | cons g s =>
      obtain ⟨h1, h2, h3⟩ := hn
      obtain ⟨i1, i2⟩ := ih l h3 (by rw [← hl, List.getLast?_cons_cons])
      have hlf : cmpW l f ≤ 0 := cmp_le_le _ _ _ (i1 g (List.mem_cons_self ..)) h2
      refine ⟨fun x hx => ?_, fun k hk => ?_⟩
      · rcases List.mem_cons.1 hx with rfl | hx
        · exact hlf
        · exact i1 x hx
      · rw [List.flatten_cons] at hk ⊢
        rcases Nat.lt_or_ge k f.length with c | c
        · rw [List.drop_append_of_le_length (by omega)]
          have hfs : cmpW f (f.drop k) ≤ 0 := by
            rcases Nat.eq_zero_or_pos k with e | e
            · rw [e, List.drop_zero, cmp_self]; omega
            · have := h1.2 k e c; omega
          exact cmp_le_le _ _ _ (cmp_le_le _ _ _ hlf hfs) (cmp_pre _ _)
        · have e : (f ++ (g :: s).flatten).drop k = (g :: s).flatten.drop (k - f.length) := by
            rw [List.drop_append, List.drop_of_length_le (by omega), List.nil_append]
          rw [e]
          exact i2 _ (by rw [List.length_append] at hk; omega)
theorem fac_one {w : List Int} (h : 0 < w.length) : lynW w = decide ((facW w).length = 1) := by
  obtain ⟨g1, g2, g3⟩ := lonW_spec h
  rw [Bool.eq_iff_iff, decide_eq_true_iff, lyn_iff h]
  obtain ⟨d, hd⟩ : ∃ d, w.length = d + 1 := ⟨w.length - 1, by omega⟩
  have e : facW w = w.take (lonW w) :: facF d (w.drop (lonW w)) := by
    unfold facW; rw [hd, facF, if_neg (by omega)]
  constructor
  · intro hL
    have el : lonW w = w.length := by
      rcases Nat.lt_or_ge (lonW w) w.length with c | c
      · exact absurd (by rw [List.take_length]; exact hL) (g3 w.length c (Nat.le_refl _))
      · omega
    have hf := facF_len d (w.drop (lonW w)) (by simp; omega)
    rw [e, List.length_cons]
    simp at hf
    omega
  · intro h1
    rw [e, List.length_cons] at h1
    have h2 : facF d (w.drop (lonW w)) = [] := List.eq_nil_of_length_eq_zero (by omega)
    have h3 := facF_flat d (w.drop (lonW w)) (by simp; omega)
    rw [h2] at h3
    have h4 := congrArg List.length h3
    simp at h4
    have h5 : w.take (lonW w) = w := List.take_of_length_le (by omega)
    rw [h5] at g2
    exact g2

/-! ### standard factors -/
theorem halfF_spec (w : List Int) (d : Nat) : ∀ n, n + d + 1 = w.length → lynW (w.drop (halfF w d n)) = true ∧ ∀ k, n ≤ k → k < halfF w d n → lynW (w.drop k) = false := by
  induction d with
  | zero =>
    intro n hn
    refine ⟨?_, fun k h1 h2 => by simp only [halfF] at h2; omega⟩
    obtain ⟨x, hx⟩ : ∃ x, w.drop n = [x] := List.length_eq_one_iff.1 (by simp; omega)
    simp only [halfF]
    rw [hx]; exact lynW_one x
  | succ d ih =>
    intro n hn
    unfold halfF
    by_cases c : lynW (w.drop n) = true
    · rw [if_pos c]; exact ⟨c, fun k h1 h2 => by omega⟩
    · rw [if_neg c]
      obtain ⟨g1, g2⟩ := ih (n + 1) (by omega)
      refine ⟨g1, fun k h1 h2 => ?_⟩
      by_cases e : k = n
      · rw [e]; exact Bool.eq_false_iff.mpr c
      · exact g2 k (by omega) h2
theorem min_end (w : List Int) (d : Nat) : ∀ n, 1 ≤ d → d < w.length → n = d → ∃ m, (1 ≤ m ∧ m ≤ d) ∧ ∀ k, 1 ≤ k → k ≤ d → cmpW (w.drop m) (w.drop k) ≤ 0 := by
  induction d with
  | zero => intro n h; omega
  | succ d ih =>
    intro n h1 h2 _
    rcases Nat.eq_zero_or_pos d with e | e
    · subst e
      refine ⟨1, by omega, fun k h3 h4 => ?_⟩
      have : k = 1 := by omega
      rw [this, cmp_self]; omega
    · obtain ⟨m, hm, hall⟩ := ih d e (by omega) rfl
      by_cases c : cmpW (w.drop (d + 1)) (w.drop m) < 0
      · refine ⟨d + 1, by omega, fun k h3 h4 => ?_⟩
        by_cases e2 : k = d + 1
        · rw [e2, cmp_self]; omega
        · have := cmp_lt_le _ _ _ c (hall k h3 (by omega)); omega
      · refine ⟨m, by omega, fun k h3 h4 => ?_⟩
        by_cases e2 : k = d + 1
        · rw [e2]; have := cmpW_turn (w.drop m) (w.drop (d + 1)); omega
        · exact hall k h3 (by omega)
/-- The second factor is the least end of all. -/
theorem half_least {w : List Int} (h : 2 ≤ w.length) : Lyn (w.drop (halfW w)) ∧ ∀ k, 1 ≤ k → k < w.length → cmpW (w.drop (halfW w)) (w.drop k) ≤ 0 := by
  obtain ⟨a1, a2⟩ := halfW_in h
  obtain ⟨s1, s2⟩ := halfF_spec w (w.length - 2) 1 (by omega)
  have hv : Lyn (w.drop (halfW w)) := (lyn_iff (by simp; omega)).1 s1
  obtain ⟨m, ⟨m1, m2⟩, hall⟩ := min_end w (w.length - 1) _ (by omega) (by omega) rfl
  have hm : Lyn (w.drop m) := by
    refine ⟨by simp; omega, fun k h1 h2 => ?_⟩
    rw [List.drop_drop]
    simp only [List.length_drop] at h2
    have h3 := hall (m + k) (by omega) (by omega)
    rcases cmp_in (w.drop m) (w.drop (m + k)) with c | c | c
    · omega
    · have := congrArg List.length (cmp_zero _ _ c)
      simp at this; omega
    · omega
  have hle : halfW w ≤ m := by
    rcases Nat.lt_or_ge m (halfW w) with c | c
    · have h1 := s2 m m1 c
      have h2 := (lyn_iff (w := w.drop m) (by simp; omega)).2 hm
      rw [h1] at h2; cases h2
    · exact c
  refine ⟨hv, fun k h1 h2 => ?_⟩
  have e : m = halfW w := by
    rcases Nat.lt_or_ge (halfW w) m with c | c
    · have h3 := hv.2 (m - halfW w) (by omega) (by simp; omega)
      rw [List.drop_drop, show halfW w + (m - halfW w) = m by omega] at h3
      have h4 := hall (halfW w) a1 (by omega)
      have := cmpW_turn (w.drop m) (w.drop (halfW w))
      omega
    · omega
  rw [← e]
  exact hall k h1 (by omega)
theorem half_two {w : List Int} (h : 2 ≤ w.length) (hL : Lyn w) : Lyn (w.take (halfW w)) ∧ Lyn (w.drop (halfW w)) ∧ cmpW (w.take (halfW w)) (w.drop (halfW w)) < 0 := by
  obtain ⟨a1, a2⟩ := halfW_in h
  obtain ⟨hv, hall⟩ := half_least h
  have hw : w.take (halfW w) ++ w.drop (halfW w) = w := List.take_append_drop _ _
  refine ⟨⟨by simp; omega, fun k h1 h2 => ?_⟩, hv, ?_⟩
  · have hk : k < halfW w := by simp at h2; omega
    have h3 := hL.2 k h1 (by omega)
    -- the end x v of w, x being the end of u
    have e1 : w.drop k = (w.take (halfW w)).drop k ++ w.drop (halfW w) := by
      have : (w.take (halfW w) ++ w.drop (halfW w)).drop k = (w.take (halfW w)).drop k ++ w.drop (halfW w) := List.drop_append_of_le_length (by simp; omega)
      rw [hw] at this
      exact this
    generalize hu : w.take (halfW w) = u at *
    generalize hv2 : w.drop (halfW w) = v at *
    rcases cmp_in u (u.drop k) with c | c | c
    · omega
    · have := congrArg List.length (cmp_zero _ _ c)
      simp at this; omega
    · exfalso
      have c2 : cmpW (u.drop k) u < 0 := by have := cmpW_turn u (u.drop k); omega
      rcases lt_cases _ _ c2 with c3 | ⟨z, hz, e⟩
      · have h4 := slt_app _ _ v v c3
        rw [hw] at h4
        rw [e1] at h3
        have := cmpW_turn w (u.drop k ++ v)
        omega
      · -- u = x z: the end z v is less than v
        have hz0 : 0 < z.length := List.length_pos_iff.2 hz
        have ul : u.length = halfW w := by rw [← hu]; simp; omega
        have zl : z.length = k := by
          have := congrArg List.length e
          simp at this; omega
        have e4 : w = u.drop k ++ (z ++ v) := by rw [← hw, ← List.append_assoc, ← e]
        have e5 : w.drop (u.length - k) = z ++ v := by
          have : (u.drop k ++ (z ++ v)).drop (u.drop k).length = z ++ v := List.drop_left
          rw [← e4, List.length_drop] at this
          exact this
        have h5 := hall (u.length - k) (by omega) (by omega)
        rw [e5] at h5
        have h6 : cmpW (z ++ v) v < 0 := by
          rw [e1] at h3
          have e6 : cmpW w (u.drop k ++ v) = cmpW (u.drop k ++ (z ++ v)) (u.drop k ++ v) := by rw [← e4]
          rw [e6, cmp_app] at h3
          exact h3
        have := cmpW_turn v (z ++ v)
        omega
  · have h1 := hL.2 (halfW w) a1 a2
    have h2 := cmp_pre (w.take (halfW w)) (w.drop (halfW w))
    rw [hw] at h2
    exact cmp_le_lt _ _ _ h2 h1

end Go.Proofs.Ytoledgkfohkfkaa.Core
