/- Rotations of words: the least one, roots; no program is in sight here. -/
import Derived.Test.YtoledgkfohkfkaaCoreL
namespace Go.Proofs.Ytoledgkfohkfkaa.Core
open Go.RowKit Go.Proofs.YtoledgkfohkfkaaW.PrintWords Go.Proofs.YtoledgkfohkfkaaW.PrintLast Go.Proofs.YtoledgkfohkfkaaW.PrintMore
set_option linter.unusedVariables false
set_option linter.unusedSimpArgs false

/-! ### the order of words -/
theorem cmp_in (s : List Int) : ∀ t, cmpW s t = -1 ∨ cmpW s t = 0 ∨ cmpW s t = 1 := by
  induction s with
  | nil => intro t; cases t <;> simp [cmpW]
  | cons x s ih =>
    intro t
    cases t with
    | nil => simp [cmpW]
    | cons y t =>
      simp only [cmpW]
      split
      · exact ih t
      · split <;> simp
theorem cmp_self (s : List Int) : cmpW s s = 0 := by
  induction s with
  | nil => rfl
  | cons x s ih => simp only [cmpW, if_true]; exact ih
theorem cmp_zero (s : List Int) : ∀ t, cmpW s t = 0 → s = t := by
  induction s with
  | nil => intro t h; cases t with
    | nil => rfl
    | cons y t => simp [cmpW] at h
  | cons x s ih =>
    intro t h
    cases t with
    | nil => simp [cmpW] at h
    | cons y t =>
      simp only [cmpW] at h
      by_cases e : x = y
      · rw [if_pos e] at h; rw [e, ih t h]
      · rw [if_neg e] at h; split at h <;> omega
theorem cmp_lt_le (s : List Int) : ∀ t u, cmpW s t < 0 → cmpW t u ≤ 0 → cmpW s u < 0 := by
  induction s with
  | nil =>
    intro t u h1 h2
    cases t with
    | nil => simp [cmpW] at h1
    | cons y t => cases u with
      | nil => simp [cmpW] at h2
      | cons z u => simp [cmpW]
  | cons x s ih =>
    intro t u h1 h2
    cases t with
    | nil => simp [cmpW] at h1
    | cons y t =>
      cases u with
      | nil => simp [cmpW] at h2
      | cons z u =>
        simp only [cmpW] at h1 h2 ⊢
        by_cases e : x = y
        · subst e
          rw [if_pos rfl] at h1
          by_cases e2 : x = z
          · rw [if_pos e2] at h2 ⊢; exact ih t u h1 h2
          · rw [if_neg e2] at h2 ⊢; split at h2 <;> split <;> omega
        · rw [if_neg e] at h1
          have hxy : x < y := by split at h1 <;> omega
          by_cases e2 : y = z
          · subst e2; rw [if_neg e, if_pos hxy]; omega
          · rw [if_neg e2] at h2
            have hyz : y < z := by split at h2 <;> omega
            rw [if_neg (by omega), if_pos (by omega)]; omega
theorem cmp_le_le (s t u : List Int) (h1 : cmpW s t ≤ 0) (h2 : cmpW t u ≤ 0) : cmpW s u ≤ 0 := by
  rcases cmp_in s t with h | h | h
  · have := cmp_lt_le s t u (by omega) h2; omega
  · rw [cmp_zero s t h]; exact h2
  · omega
theorem cmp_le_lt (s t u : List Int) (h1 : cmpW s t ≤ 0) (h2 : cmpW t u < 0) : cmpW s u < 0 := by
  rcases cmp_in s t with h | h | h
  · exact cmp_lt_le s t u (by omega) (by omega)
  · rw [cmp_zero s t h]; exact h2
  · omega
theorem cmp_anti {s t : List Int} (h1 : cmpW s t ≤ 0) (h2 : cmpW t s ≤ 0) : s = t := by
  have := cmpW_turn s t
  exact cmp_zero s t (by omega)
theorem lex_iff (s : List Int) : ∀ t, lexLt s t = true ↔ cmpW s t < 0 := by
  induction s with
  | nil => intro t; cases t <;> simp [lexLt, cmpW]
  | cons x s ih =>
    intro t
    cases t with
    | nil => simp [lexLt, cmpW]
    | cons y t =>
      have h := ih t
      by_cases e : x = y
      · subst e
        simp only [lexLt, cmpW, if_true]; exact h
      · simp only [lexLt, cmpW, if_neg e, decide_eq_true_iff]
        split <;> simp <;> omega
theorem lex_cmp (s t : List Int) : lexLt s t = decide (cmpW s t < 0) := by
  rw [Bool.eq_iff_iff, decide_eq_true_iff]; exact lex_iff s t

/-! ### rotations of rotations -/
theorem rotW_get {w : List Int} {b t : Nat} (ht : t < w.length) : (rotW w (b % w.length)).getD t 0 = w.getD ((t + b) % w.length) 0 := by
  rw [← rot_eq w b (by omega), List.getD_eq_getElem?_getD, List.getElem?_map, List.getElem?_range ht]; rfl
theorem rot_add {w : List Int} (h : 0 < w.length) (a b : Nat) : rotW (rotW w (a % w.length)) (b % w.length) = rotW w ((a + b) % w.length) := by
  have hl : (rotW w (a % w.length)).length = w.length := rotW_len _ _
  have e1 := rot_eq (rotW w (a % w.length)) b (by omega)
  rw [hl] at e1
  rw [← e1, ← rot_eq w (a + b) h]
  refine List.map_congr_left fun t ht => ?_
  have htl : t < w.length := List.mem_range.1 ht
  rw [rotW_get (Nat.mod_lt _ h)]
  congr 1
  rw [Nat.mod_add_mod, Nat.add_assoc, Nat.add_comm b a]
/-- The rotation by any number. -/
def per (w : List Int) (k : Nat) : List Int := rotW w (k % w.length)
theorem per_zero (w : List Int) : per w 0 = w := by unfold per; rw [Nat.zero_mod, rotW_zero]
theorem per_full (w : List Int) : per w w.length = w := by unfold per; rw [Nat.mod_self, rotW_zero]
theorem per_small {w : List Int} {k : Nat} (h : k < w.length) : per w k = rotW w k := by unfold per; rw [Nat.mod_eq_of_lt h]
theorem per_len (w : List Int) (k : Nat) : (per w k).length = w.length := rotW_len _ _
theorem per_add {w : List Int} (h : 0 < w.length) {a : Nat} (ha : per w a = w) (b : Nat) : per w (a + b) = per w b := by
  have e := rot_add h a b
  unfold per at ha ⊢
  rw [← e, ha]
theorem per_mul {w : List Int} (h : 0 < w.length) {a : Nat} (ha : per w a = w) (q b : Nat) : per w (q * a + b) = per w b := by
  induction q with
  | zero => rw [Nat.zero_mul, Nat.zero_add]
  | succ q ih => rw [Nat.succ_mul, Nat.add_right_comm, Nat.add_comm _ a, per_add h ha]; exact ih
theorem per_mod {w : List Int} (h : 0 < w.length) {a : Nat} (ha : per w a = w) (k : Nat) : per w (k % a) = per w k := by
  have e := Nat.div_add_mod k a
  rw [Nat.mul_comm] at e
  have := per_mul h ha (k / a) (k % a)
  rw [e] at this
  exact this.symm
theorem per_per {w : List Int} (h : 0 < w.length) (a b : Nat) : per (per w a) b = per w (a + b) := by
  have hl : (rotW w (a % w.length)).length = w.length := rotW_len _ _
  unfold per
  rw [hl, rot_add h]

/-! ### the least rotation -/
theorem leastF_spec (w : List Int) (d : Nat) : ∀ b best, b + d = w.length → best < b → (∀ j, j < b → cmpW (rotW w best) (rotW w j) ≤ 0) → (∀ j, j < best → cmpW (rotW w best) (rotW w j) < 0) →
    (∀ j, j < w.length → cmpW (rotW w (leastF w d b best)) (rotW w j) ≤ 0) ∧ ∀ j, j < leastF w d b best → cmpW (rotW w (leastF w d b best)) (rotW w j) < 0 := by
  induction d with
  | zero => intro b best hb hbest h1 h2; exact ⟨fun j hj => h1 j (by omega), h2⟩
  | succ d ih =>
    intro b best hb hbest h1 h2
    unfold leastF
    by_cases c : cmpW (rotW w b) (rotW w best) < 0
    · rw [if_pos c]
      have all : ∀ j, j < b → cmpW (rotW w b) (rotW w j) < 0 := fun j hj => cmp_lt_le _ _ _ c (h1 j hj)
      refine ih (b + 1) b (by omega) (by omega) (fun j hj => ?_) all
      by_cases e : j = b
      · rw [e, cmp_self]; omega
      · have := all j (by omega); omega
    · rw [if_neg c]
      refine ih (b + 1) best (by omega) (by omega) (fun j hj => ?_) h2
      by_cases e : j = b
      · rw [e]; have := cmpW_turn (rotW w best) (rotW w b); omega
      · exact h1 j (by omega)
theorem leastW_spec {w : List Int} (h : 0 < w.length) : (∀ j, j < w.length → cmpW (rotW w (leastW w)) (rotW w j) ≤ 0) ∧ ∀ j, j < leastW w → cmpW (rotW w (leastW w)) (rotW w j) < 0 :=
  leastF_spec w (w.length - 1) 1 0 (by omega) (by omega) (fun j hj => by
    have : j = 0 := by omega
    rw [this, cmp_self]; omega) (fun j hj => by omega)
theorem least_le {w : List Int} (h : 0 < w.length) (k : Nat) : cmpW (rotW w (leastW w)) (per w k) ≤ 0 := (leastW_spec h).1 _ (Nat.mod_lt _ h)
theorem least_zero {w : List Int} (h : 0 < w.length) (hle : ∀ k, cmpW w (per w k) ≤ 0) : leastW w = 0 := by
  rcases Nat.eq_zero_or_pos (leastW w) with e | e
  · exact e
  · have h1 := (leastW_spec h).2 0 e
    have h2 := hle (leastW w)
    rw [rotW_zero] at h1
    rw [per_small (leastW_lt h)] at h2
    have := cmpW_turn w (rotW w (leastW w))
    omega
/-- The least rotation of any rotation is the same one. -/
theorem least_same {w : List Int} (h : 0 < w.length) (k : Nat) : rotW (per w k) (leastW (per w k)) = rotW w (leastW w) := by
  have hl := per_len w k
  have hp : 0 < (per w k).length := by omega
  have e1 : rotW (per w k) (leastW (per w k)) = per w (k + leastW (per w k)) := by
    rw [← per_small (leastW_lt hp), per_per h]
  have e2 : rotW w (leastW w) = per w (leastW w) := (per_small (leastW_lt h)).symm
  refine cmp_anti ?_ ?_
  · -- the least of the rotation is at most any rotation of w
    have h1 := least_le hp ((w.length - k % w.length) + leastW w)
    rw [per_per h] at h1
    have e3 : per w (k + (w.length - k % w.length + leastW w)) = per w (leastW w) := by
      have hm := Nat.div_add_mod k w.length
      have hlt := Nat.mod_lt k h
      have e4 : k + (w.length - k % w.length + leastW w) = (k / w.length + 1) * w.length + leastW w := by
        rw [Nat.add_mul, Nat.one_mul, Nat.mul_comm]; omega
      rw [e4, per_mul h (per_full w)]
    rw [e3] at h1
    rw [e2]; exact h1
  · rw [e1]; exact least_le h _
theorem neck_least {w : List Int} (h : 0 < w.length) : neckW (rotW w (leastW w)) = true := by
  unfold neckW
  rw [decide_eq_true_iff]
  have hp := per_small (leastW_lt h)
  rw [← hp]
  have hl := per_len w (leastW w)
  refine least_zero (by omega) fun k => ?_
  rw [per_per h, hp]
  exact least_le h _
theorem neck_iff {w : List Int} (h : 0 < w.length) : neckW w = true ↔ w = rotW w (leastW w) := by
  unfold neckW
  rw [decide_eq_true_iff]
  constructor
  · intro e; rw [e, rotW_zero]
  · intro e
    refine least_zero h fun k => ?_
    have := least_le h k
    rw [← e] at this
    exact this

/-! ### roots -/
theorem rootF_spec (w : List Int) (d : Nat) : ∀ p, 1 ≤ p → p + d = w.length → (∀ q, 1 ≤ q → q < p → ¬ (w.length % q = 0 ∧ per w q = w)) →
    (1 ≤ rootF w d p ∧ rootF w d p ≤ w.length) ∧ (w.length % rootF w d p = 0 ∧ per w (rootF w d p) = w) ∧ ∀ q, 1 ≤ q → q < rootF w d p → ¬ (w.length % q = 0 ∧ per w q = w) := by
  induction d with
  | zero =>
    intro p h1 hp hq
    have e : p = w.length := by omega
    simp only [rootF]
    refine ⟨by omega, ⟨by rw [e, Nat.mod_self], by rw [e]; exact per_full w⟩, hq⟩
  | succ d ih =>
    intro p h1 hp hq
    unfold rootF
    by_cases c : w.length % p = 0 ∧ rotW w (p % w.length) = w
    · rw [if_pos c]; exact ⟨by omega, c, hq⟩
    · rw [if_neg c]
      refine ih (p + 1) (by omega) (by omega) fun q h2 h3 => ?_
      by_cases e : q = p
      · rw [e]; exact c
      · exact hq q h2 (by omega)
theorem root_spec {w : List Int} (h : 0 < w.length) : (1 ≤ rootW w ∧ rootW w ≤ w.length) ∧ (w.length % rootW w = 0 ∧ per w (rootW w) = w) ∧ ∀ q, 1 ≤ q → q < rootW w → ¬ (w.length % q = 0 ∧ per w q = w) :=
  rootF_spec w (w.length - 1) 1 (by omega) (by omega) (fun q h1 h2 => by omega)
/-- No smaller number at all rotates the word into itself. -/
theorem root_least {w : List Int} (h : 0 < w.length) (k : Nat) : 1 ≤ k → k < rootW w → per w k ≠ w := by
  obtain ⟨⟨r1, r2⟩, ⟨r3, r4⟩, r5⟩ := root_spec h
  induction k using Nat.strongRecOn with
  | _ k ih =>
    intro h1 h2 hk
    by_cases c : w.length % k = 0
    · exact r5 k h1 h2 ⟨c, hk⟩
    · have hlt := Nat.mod_lt w.length (show 0 < k by omega)
      refine ih (w.length % k) hlt (by omega) (by omega) ?_
      rw [per_mod h hk]; exact per_full w
theorem per_iff {w : List Int} (h : 0 < w.length) (k : Nat) : per w k = w ↔ k % rootW w = 0 := by
  obtain ⟨⟨r1, r2⟩, ⟨r3, r4⟩, r5⟩ := root_spec h
  rw [← per_mod h r4 k]
  constructor
  · intro hk
    rcases Nat.eq_zero_or_pos (k % rootW w) with e | e
    · exact e
    · exact absurd hk (root_least h _ e (Nat.mod_lt _ (by omega)))
  · intro hk; rw [hk]; exact per_zero w
theorem least_root {w : List Int} (h : 0 < w.length) : leastW w < rootW w := by
  obtain ⟨⟨r1, r2⟩, ⟨r3, r4⟩, r5⟩ := root_spec h
  rcases Nat.lt_or_ge (leastW w) (rootW w) with c | c
  · exact c
  · have h1 := (leastW_spec h).2 (leastW w - rootW w) (by omega)
    have hl := leastW_lt h
    have e : rotW w (leastW w) = rotW w (leastW w - rootW w) := by
      rw [← per_small hl, ← per_small (show leastW w - rootW w < w.length by omega)]
      have := per_add h r4 (leastW w - rootW w)
      rw [show rootW w + (leastW w - rootW w) = leastW w by omega] at this
      exact this
    rw [e, cmp_self] at h1
    omega
/-- How many numbers below i does p divide? -/
def mulB (p i : Nat) : Nat := (List.range i).countP fun k => decide (k % p = 0)
theorem mulB_succ (p i : Nat) : mulB p (i + 1) = mulB p i + if i % p = 0 then 1 else 0 := by
  unfold mulB
  rw [List.range_succ, List.countP_append, List.countP_singleton]
  simp
theorem mulB_le (p i : Nat) : mulB p i ≤ i := by
  unfold mulB
  exact Nat.le_trans List.countP_le_length (by simp)
theorem mulB_all {p : Nat} (hp : 0 < p) (c : Nat) : mulB p (c * p) = c := by
  induction c with
  | zero => simp [mulB]
  | succ c ih =>
    have key : ∀ d, d < p → mulB p (c * p + (d + 1)) = c + 1 := by
      intro d
      induction d with
      | zero =>
        intro _
        rw [mulB_succ, ih, Nat.mul_mod_left, if_pos rfl]
      | succ d ihd =>
        intro hd
        have e : (c * p + (d + 1)) % p = d + 1 := by rw [Nat.add_comm, Nat.add_mul_mod_self_right, Nat.mod_eq_of_lt hd]
        rw [show c * p + (d + 1 + 1) = (c * p + (d + 1)) + 1 by omega, mulB_succ, ihd (by omega), e, if_neg (by omega)]
    have := key (p - 1) (by omega)
    rw [Nat.succ_mul, ← this]
    congr 1; omega

end Go.Proofs.Ytoledgkfohkfkaa.Core
