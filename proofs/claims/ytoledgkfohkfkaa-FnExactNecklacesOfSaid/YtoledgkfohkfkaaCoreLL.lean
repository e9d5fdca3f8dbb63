/- The list of Lyndon words, one after another; no program is in sight here. -/
import Derived.Test.YtoledgkfohkfkaaCoreM
namespace Go.Proofs.Ytoledgkfohkfkaa.Core
open Go.RowKit Go.Proofs.YtoledgkfohkfkaaW.PrintWords Go.Proofs.YtoledgkfohkfkaaW.PrintLast Go.Proofs.YtoledgkfohkfkaaW.PrintMore
set_option linter.unusedVariables false
set_option linter.unusedSimpArgs false

/-- A word over k letters, of at most n letters. -/
def Okw (n : Nat) (k : Int) (w : List Int) : Prop := w.length ≤ n ∧ ∀ x ∈ w, 0 ≤ x ∧ x ≤ k - 1
theorem incR_in (k : Int) (r : List Int) (h : ∀ x ∈ r, 0 ≤ x ∧ x ≤ k - 1) : ∀ x ∈ incR k r, 0 ≤ x ∧ x ≤ k - 1 := by
  induction r with
  | nil => intro x hx; simp [incR] at hx
  | cons y s ih =>
    have hy := h y (List.mem_cons_self ..)
    have hs : ∀ x ∈ s, 0 ≤ x ∧ x ≤ k - 1 := fun x hx => h x (List.mem_cons_of_mem _ hx)
    intro x hx
    unfold incR at hx
    by_cases e : y = k - 1
    · rw [if_pos e] at hx; exact ih hs x hx
    · rw [if_neg e] at hx
      rcases List.mem_cons.1 hx with hx | hx
      · omega
      · exact hs x hx
theorem repW_all {k : Int} {w : List Int} (h0 : 0 < w.length) (h : ∀ x ∈ w, 0 ≤ x ∧ x ≤ k - 1) (n : Nat) : ∀ x ∈ repW w n, 0 ≤ x ∧ x ≤ k - 1 := by
  intro x hx
  simp only [repW, List.mem_map, List.mem_range] at hx
  obtain ⟨i, _, rfl⟩ := hx
  have hm : i % w.length < w.length := Nat.mod_lt _ h0
  rw [List.getD_eq_getElem?_getD, List.getElem?_eq_getElem hm, Option.getD_some]
  exact h _ (List.getElem_mem _)
theorem okw_nxt {n : Nat} {k : Int} {w : List Int} (h0 : 0 < w.length) (h : Okw n k w) : Okw n k (nxtW w n k) := by
  refine ⟨nxtW_len _ _ _, fun x hx => ?_⟩
  unfold nxtW at hx
  rw [List.mem_reverse] at hx
  exact incR_in k _ (fun y hy => repW_all h0 h.2 n y (List.mem_reverse.1 hy)) x hx
theorem okw_one {n : Nat} {k : Int} (hn : 1 ≤ n) (hk : 1 ≤ k) : Okw n k [0] := by
  refine ⟨by simpa using hn, fun x hx => ?_⟩
  have : x = 0 := by simpa using hx
  omega
/-- The words that come one after another from w on, at most d. -/
def lstF (n : Nat) (k : Int) : Nat → List Int → List (List Int)
  | 0, _ => []
  | d + 1, w => if w.length = 0 then [] else w :: lstF n k d (nxtW w n k)
theorem lstF_len (n : Nat) (k : Int) (d : Nat) : ∀ w, (lstF n k d w).length ≤ d := by
  induction d with
  | zero => intro w; simp [lstF]
  | succ d ih =>
    intro w
    unfold lstF
    split
    · simp
    · have := ih (nxtW w n k); simp; omega
theorem lstF_ok {n : Nat} {k : Int} (d : Nat) : ∀ w, Okw n k w → ∀ x ∈ lstF n k d w, Okw n k x ∧ 0 < x.length := by
  induction d with
  | zero => intro w _ x hx; simp [lstF] at hx
  | succ d ih =>
    intro w hw x hx
    unfold lstF at hx
    by_cases e : w.length = 0
    · rw [if_pos e] at hx; cases hx
    · rw [if_neg e] at hx
      rcases List.mem_cons.1 hx with rfl | hx
      · exact ⟨hw, by omega⟩
      · exact ih _ (okw_nxt (by omega) hw) x hx
/-- L are all the words from w on. -/
def Chain (n : Nat) (k : Int) : List Int → List (List Int) → Prop
  | w, [] => w.length = 0
  | w, x :: s => w.length ≠ 0 ∧ x = w ∧ Chain n k (nxtW w n k) s
theorem lstF_chain (n : Nat) (k : Int) (d : Nat) : ∀ w, (lstF n k d w).length < d → Chain n k w (lstF n k d w) := by
  induction d with
  | zero => intro w h; omega
  | succ d ih =>
    intro w h
    unfold lstF at h ⊢
    by_cases e : w.length = 0
    · rw [if_pos e]; exact e
    · rw [if_neg e] at h ⊢
      exact ⟨e, rfl, ih _ (by simpa using h)⟩
theorem chain_one {n : Nat} {k : Int} (L : List (List Int)) : ∀ (w : List Int) (M : List (List Int)), Chain n k w L → Chain n k w M → L = M := by
  induction L with
  | nil =>
    intro w M h1 h2
    cases M with
    | nil => rfl
    | cons y t => exact absurd h1 h2.1
  | cons x s ih =>
    intro w M h1 h2
    cases M with
    | nil => exact absurd h2 h1.1
    | cons y t => rw [h1.2.1, h2.2.1, ih _ t h1.2.2 h2.2.2]
theorem chain_ok {n : Nat} {k : Int} (L : List (List Int)) : ∀ w, Okw n k w → Chain n k w L → ∀ x ∈ L, Okw n k x ∧ 0 < x.length := by
  induction L with
  | nil => intro w _ _ x hx; cases hx
  | cons y s ih =>
    intro w hw h x hx
    obtain ⟨h1, rfl, h2⟩ := h
    rcases List.mem_cons.1 hx with rfl | hx
    · exact ⟨hw, by omega⟩
    · exact ih _ (okw_nxt (by omega) hw) h2 x hx

/-! ### counted, for the kernel: a word is one number -/
def encW : List Int → Nat
  | [] => 0
  | x :: s => (x.toNat + 1) + 8 * encW s
def decW : Nat → Nat → List Int
  | 0, _ => []
  | d + 1, e => if e = 0 then [] else (((e % 8 - 1 : Nat)) : Int) :: decW d (e / 8)
theorem dec_enc (d : Nat) : ∀ w : List Int, w.length ≤ d → (∀ x ∈ w, 0 ≤ x ∧ x ≤ 5) → decW d (encW w) = w := by
  induction d with
  | zero =>
    intro w h _
    have e0 : w = [] := List.eq_nil_of_length_eq_zero (by omega)
    rw [e0]; rfl
  | succ d ih =>
    intro w h hin
    cases w with
    | nil => simp [decW, encW]
    | cons x s =>
      have hx := hin x (List.mem_cons_self ..)
      have e := ih s (by simpa using h) (fun y hy => hin y (List.mem_cons_of_mem _ hy))
      have h1 : encW (x :: s) = (x.toNat + 1) + 8 * encW s := rfl
      have h2 : encW (x :: s) % 8 - 1 = x.toNat := by rw [h1]; omega
      have h3 : encW (x :: s) / 8 = encW s := by rw [h1]; omega
      unfold decW
      rw [if_neg (by omega), h2, h3, e]
      congr 1
      omega
theorem enc_zero (w : List Int) : encW w = 0 ↔ w.length = 0 := by
  cases w with
  | nil => simp [encW]
  | cons x s => simp [encW]
/-- How many of the words from the one on that e tells have a length that p takes. -/
def cntE (n : Nat) (k : Int) (p : Nat → Bool) : Nat → Nat → Nat → Option Nat
  | 0, _, _ => none
  | d + 1, e, acc =>
    match e with
    | 0 => some acc
    | e + 1 => match acc + 1 with
      | 0 => none
      | a + 1 => cntE n k p d (encW (nxtW (decW 12 (e + 1)) n k)) (a + (p (decW 12 (e + 1)).length).toNat)
theorem cntE_chain {n : Nat} {k : Int} (hn : n ≤ 12) (hk : k ≤ 6) (p : Nat → Bool) (d : Nat) : ∀ w acc c, Okw n k w → cntE n k p d (encW w) acc = some c →
    ∃ L, Chain n k w L ∧ c = acc + (L.filter fun x => p x.length).length ∧ L.length < d := by
  induction d with
  | zero => intro w acc c _ h; simp [cntE] at h
  | succ d ih =>
    intro w acc c hw h
    by_cases e : w.length = 0
    · have e0 := (enc_zero w).2 e
      rw [e0] at h
      simp only [cntE, Option.some.injEq] at h
      exact ⟨[], e, by simp [h], by simp⟩
    · obtain ⟨m, hm⟩ : ∃ m, encW w = m + 1 := ⟨encW w - 1, by have := mt (enc_zero w).1 e; omega⟩
      rw [hm] at h
      simp only [cntE] at h
      rw [← hm, dec_enc 12 w (Nat.le_trans hw.1 hn) (fun x hx => by have := hw.2 x hx; omega)] at h
      obtain ⟨L, h1, h2, h3⟩ := ih _ _ _ (okw_nxt (by omega) hw) h
      refine ⟨w :: L, ⟨e, rfl, h1⟩, ?_, by simpa using h3⟩
      rw [h2, List.filter_cons]
      cases p w.length <;> simp <;> omega

end Go.Proofs.Ytoledgkfohkfkaa.Core
