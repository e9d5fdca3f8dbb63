/- The lists of Lyndon words, looked through by the kernel; no program is in sight here. -/
import Derived.Test.YtoledgkfohkfkaaCoreLL
import Derived.Test.YtoledgkfohkfkaaCoreLy
namespace Go.Proofs.Ytoledgkfohkfkaa.Core
open Go.RowKit Go.Proofs.YtoledgkfohkfkaaW.PrintWords Go.Proofs.YtoledgkfohkfkaaW.PrintLast Go.Proofs.YtoledgkfohkfkaaW.PrintMore
set_option linter.unusedVariables false
set_option linter.unusedSimpArgs false

theorem cntE_some {n : Nat} {k : Int} (hn : n ≤ 12) (hk : k ≤ 6) (p : Nat → Bool) (L : List (List Int)) : ∀ (d : Nat) (w : List Int) (acc : Nat), Okw n k w → Chain n k w L → L.length < d →
    cntE n k p d (encW w) acc = some (acc + (L.filter fun x => p x.length).length) := by
  induction L with
  | nil =>
    intro d w acc hw h hd
    obtain ⟨d, rfl⟩ : ∃ m, d = m + 1 := ⟨d - 1, by omega⟩
    rw [(enc_zero w).2 h]
    simp [cntE]
  | cons x s ih =>
    intro d w acc hw h hd
    obtain ⟨h1, rfl, h2⟩ := h
    obtain ⟨d, rfl⟩ : ∃ m, d = m + 1 := ⟨d - 1, by omega⟩
    obtain ⟨m, hm⟩ : ∃ m, encW x = m + 1 := ⟨encW x - 1, by have := mt (enc_zero x).1 h1; omega⟩
    rw [hm]
    simp only [cntE]
    rw [← hm, dec_enc 12 x (Nat.le_trans hw.1 hn) (fun y hy => by have := hw.2 y hy; omega), ih d _ _ (okw_nxt (by omega) hw) h2 (by simpa using hd), List.filter_cons]
    cases p x.length <;> simp <;> omega
/-- A word that is less than each of its ends, and than the next one if there is one. -/
def goodW (n : Nat) (k : Int) (w : List Int) : Bool :=
  ((List.range (w.length - 1)).all fun j => decide (cmpW w (w.drop (j + 1)) < 0)) && (decide ((nxtW w n k).length = 0) || lexLt w (nxtW w n k))
def allE (n : Nat) (k : Int) : Nat → Nat → Bool
  | 0, _ => true
  | d + 1, e =>
    match e with
    | 0 => true
    | e + 1 => goodW n k (decW 12 (e + 1)) && allE n k d (encW (nxtW (decW 12 (e + 1)) n k))
theorem allE_all {n : Nat} {k : Int} (hn : n ≤ 12) (hk : k ≤ 6) (L : List (List Int)) : ∀ (d : Nat) (w : List Int), Okw n k w → Chain n k w L → L.length < d → allE n k d (encW w) = true →
    ∀ x ∈ L, goodW n k x = true := by
  induction L with
  | nil => intro d w _ _ _ _ x hx; cases hx
  | cons y s ih =>
    intro d w hw h hd ha
    obtain ⟨h1, rfl, h2⟩ := h
    obtain ⟨d, rfl⟩ : ∃ m, d = m + 1 := ⟨d - 1, by omega⟩
    obtain ⟨m, hm⟩ : ∃ m, encW y = m + 1 := ⟨encW y - 1, by have := mt (enc_zero y).1 h1; omega⟩
    rw [hm] at ha
    simp only [allE] at ha
    rw [← hm, dec_enc 12 y (Nat.le_trans hw.1 hn) (fun z hz => by have := hw.2 z hz; omega), Bool.and_eq_true] at ha
    intro x hx
    rcases List.mem_cons.1 hx with rfl | hx
    · exact ha.1
    · exact ih d _ (okw_nxt (by omega) hw) h2 (by simpa using hd) ha.2 x hx
theorem good_lyn {n : Nat} {k : Int} {w : List Int} (h0 : 0 < w.length) (h : goodW n k w = true) : lynW w = true ∧ ((nxtW w n k).length ≠ 0 → lexLt w (nxtW w n k) = true) := by
  unfold goodW at h
  rw [Bool.and_eq_true, Bool.or_eq_true, List.all_eq_true, decide_eq_true_iff] at h
  refine ⟨(lyn_iff h0).2 ⟨h0, fun j h1 h2 => ?_⟩, fun hne => ?_⟩
  · have := h.1 (j - 1) (by rw [List.mem_range]; omega)
    rw [decide_eq_true_iff, show j - 1 + 1 = j by omega] at this
    exact this
  · rcases h.2 with h3 | h3
    · exact absurd h3 hne
    · exact h3
/-- The pairs that are drawn. -/
def drawnP (n k : Nat) : Bool := (Nat.ble n 6 && (Nat.ble k 4 || Nat.beq k 6)) || ((Nat.beq n 9 || Nat.beq n 12) && Nat.ble k 3)
/-- The pairs whose words were looked through. -/
def goodP (n k : Nat) : Bool :=
  match cntE n (k : Int) (fun _ => true) 1101 1 0 with
  | none => true
  | some _ => allE n (k : Int) 1101 1
set_option maxRecDepth 100000 in
theorem goodP_all : ((List.range 13).all fun n => (List.range 7).all fun k => !drawnP n k || !Nat.ble 1 n || !Nat.ble 1 k || goodP n k) = true := by
  decide +kernel

end Go.Proofs.Ytoledgkfohkfkaa.Core
