/- Texts of words in brackets, byte by byte; no program is in sight here. -/
import Derived.Test.YtaaoeaojimjikaaCoreLy
namespace Go.Proofs.Ytaaoeaojimjikaa.Core
open Go.RowKit Go.Proofs.YtaaoeaojimjikaaW.PrintWords Go.Proofs.YtaaoeaojimjikaaW.PrintLast Go.Proofs.YtaaoeaojimjikaaW.PrintMore
set_option linter.unusedVariables false
set_option linter.unusedSimpArgs false

theorem strOf_app (a b : List Int) : strOfNums a ++ strOfNums b = strOfNums (a ++ b) := by
  apply ByteArray.ext
  simp [strOfNums, ByteArray.data_append]
theorem strOf_cut (p s : List Int) (x : Int) : (strOfNums (p ++ x :: s)).extract p.length (p.length + 1) = strOfNums [x] := by
  apply ByteArray.ext
  rw [ByteArray.data_extract]
  apply Array.ext'
  simp [strOfNums, Array.toList_extract, List.extract]
theorem strOf_bt (p s : List Int) (x : Int) (hx : 0 ≤ x ∧ x ≤ 255) : bt (strOfNums (p ++ x :: s)) (p.length : Int) = x := by
  unfold bt
  have hs := strOfNums_size (p ++ x :: s)
  have hl : (p ++ x :: s).length = p.length + s.length + 1 := by simp; omega
  have h : ((p.length : Int)).toNat < (strOfNums (p ++ x :: s)).size := by rw [hs, hl, Int.toNat_natCast]; omega
  rw [dif_pos h]
  have e : (strOfNums (p ++ x :: s))[((p.length : Int)).toNat]'h = UInt8.ofNat x.toNat := by
    show (strOfNums (p ++ x :: s)).data[((p.length : Int)).toNat]'_ = _
    simp [strOfNums]
  rw [e]
  have : (UInt8.ofNat x.toNat).toNat = x.toNat := by
    rw [UInt8.toNat_ofNat']
    exact Nat.mod_eq_of_lt (by omega)
  rw [this]; omega
/-- The text's bytes. -/
def brkN : Nat → List Int → List Int
  | 0, w => w.map fun x => 48 + x
  | d + 1, w => if w.length = 1 then w.map (fun x => 48 + x) else ((([91] ++ brkN d (w.take (halfW w))) ++ [44]) ++ brkN d (w.drop (halfW w))) ++ [93]
theorem brkN_F (d : Nat) : ∀ w, brkF d w = strOfNums (brkN d w) := by
  induction d with
  | zero => intro w; rfl
  | succ d ih =>
    intro w
    unfold brkF brkN
    split
    · rfl
    · rw [ih, ih]
      have e1 : (⟨#[91]⟩ : ByteArray) = strOfNums [91] := rfl
      have e2 : (⟨#[44]⟩ : ByteArray) = strOfNums [44] := rfl
      have e3 : (⟨#[93]⟩ : ByteArray) = strOfNums [93] := rfl
      rw [e1, e2, e3, strOf_app, strOf_app, strOf_app, strOf_app]
def isDig (x : Int) : Bool := inB x 48 57
theorem brkN_dig (d : Nat) : ∀ w : List Int, 1 ≤ w.length → w.length ≤ d → (∀ x ∈ w, 0 ≤ x ∧ x ≤ 5) → (brkN d w).filter isDig = w.map fun x => 48 + x := by
  have one : ∀ w : List Int, (∀ x ∈ w, 0 ≤ x ∧ x ≤ 5) → (w.map fun x => 48 + x).filter isDig = w.map fun x => 48 + x := fun w hw => by
    rw [List.filter_eq_self]
    intro y hy
    obtain ⟨x, hx, rfl⟩ := List.mem_map.1 hy
    have := hw x hx
    exact inB_yes (by omega)
  induction d with
  | zero => intro w h1 h2; omega
  | succ d ih =>
    intro w h1 h2 hin
    unfold brkN
    by_cases c : w.length = 1
    · rw [if_pos c]; exact one w hin
    · rw [if_neg c]
      obtain ⟨a1, a2⟩ := halfW_in (w := w) (by omega)
      have i1 := ih (w.take (halfW w)) (by simp; omega) (by simp; omega) (fun x hx => hin x (List.mem_of_mem_take hx))
      have i2 := ih (w.drop (halfW w)) (by simp; omega) (by simp; omega) (fun x hx => hin x (List.mem_of_mem_drop hx))
      simp only [List.filter_append, i1, i2]
      have e1 : [(91 : Int)].filter isDig = [] := rfl
      have e2 : [(44 : Int)].filter isDig = [] := rfl
      have e3 : [(93 : Int)].filter isDig = [] := rfl
      rw [e1, e2, e3, List.nil_append, List.append_nil, List.append_nil, ← List.map_append, List.take_append_drop]
theorem brkN_in (d : Nat) : ∀ w : List Int, (∀ x ∈ w, 0 ≤ x ∧ x ≤ 5) → ∀ x ∈ brkN d w, 0 ≤ x ∧ x ≤ 255 := by
  have one : ∀ w : List Int, (∀ x ∈ w, 0 ≤ x ∧ x ≤ 5) → ∀ x ∈ (w.map fun x => 48 + x), 0 ≤ x ∧ x ≤ 255 := fun w hw x hx => by
    obtain ⟨y, hy, rfl⟩ := List.mem_map.1 hx
    have := hw y hy; omega
  induction d with
  | zero => intro w hw; exact one w hw
  | succ d ih =>
    intro w hw
    unfold brkN
    split
    · exact one w hw
    · intro x hx
      simp only [List.mem_append, List.mem_singleton] at hx
      rcases hx with (((hx | hx) | hx) | hx) | hx
      · omega
      · exact ih _ (fun y hy => hw y (List.mem_of_mem_take hy)) x hx
      · omega
      · exact ih _ (fun y hy => hw y (List.mem_of_mem_drop hy)) x hx
      · omega
theorem brkF_any (d : Nat) : ∀ (e : Nat) (w : List Int), 1 ≤ w.length → w.length ≤ d → w.length ≤ e → brkF d w = brkF e w := by
  induction d with
  | zero => intro e w h1 h2; omega
  | succ d ih =>
    intro e w h1 h2 h3
    obtain ⟨e, rfl⟩ : ∃ q, e = q + 1 := ⟨e - 1, by omega⟩
    unfold brkF
    by_cases c : w.length = 1
    · rw [if_pos c, if_pos c]
    · rw [if_neg c, if_neg c]
      obtain ⟨a1, a2⟩ := halfW_in (w := w) (by omega)
      rw [ih e (w.take (halfW w)) (by simp; omega) (by simp; omega) (by simp; omega), ih e (w.drop (halfW w)) (by simp; omega) (by simp; omega) (by simp; omega)]
theorem brkW_two {w : List Int} (h : 2 ≤ w.length) : brkW w = ((((⟨#[91]⟩ : ByteArray) ++ brkW (w.take (halfW w))) ++ (⟨#[44]⟩ : ByteArray)) ++ brkW (w.drop (halfW w))) ++ (⟨#[93]⟩ : ByteArray) := by
  obtain ⟨a1, a2⟩ := halfW_in h
  obtain ⟨d, hd⟩ : ∃ d, w.length = d + 1 := ⟨w.length - 1, by omega⟩
  have e1 := brkF_any d (w.take (halfW w)).length (w.take (halfW w)) (by simp; omega) (by simp; omega) (Nat.le_refl _)
  have e2 := brkF_any d (w.drop (halfW w)).length (w.drop (halfW w)) (by simp; omega) (by simp; omega) (Nat.le_refl _)
  have e0 : brkW w = brkF (d + 1) w := by unfold brkW; rw [hd]
  rw [e0, brkF, if_neg (by omega), e1, e2]; rfl
theorem brkW_size {w : List Int} (h : 1 ≤ w.length) : (brkW w).size + 3 = 4 * w.length := brkF_size w.length w h (Nat.le_refl _)

end Go.Proofs.Ytaaoeaojimjikaa.Core
