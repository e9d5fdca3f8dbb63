/- Plain laws on Lyndon words: the next one, halves, brackets; no program is in sight here. -/
import Derived.Test.YtoledgkfohkfkaaCoreL
namespace Go.Proofs.Ytoledgkfohkfkaa.Core
open Go.RowKit Go.Proofs.YtoledgkfohkfkaaW.PrintWords Go.Proofs.YtoledgkfohkfkaaW.PrintLast Go.Proofs.YtoledgkfohkfkaaW.PrintMore
set_option linter.unusedVariables false
set_option linter.unusedSimpArgs false

/-- A word repeated to n letters. -/
def repW (w : List Int) (n : Nat) : List Int := (List.range n).map fun i => w.getD (i % w.length) 0
theorem repW_len (w : List Int) (n : Nat) : (repW w n).length = n := by simp [repW]
theorem repW_succ (w : List Int) (n : Nat) : repW w (n + 1) = repW w n ++ [w.getD (n % w.length) 0] := by
  simp [repW, List.range_succ]
theorem repW_in {w : List Int} (h0 : 0 < w.length) (h : ∀ x ∈ w, 0 ≤ x ∧ x ≤ 5) (n : Nat) : ∀ x ∈ repW w n, 0 ≤ x ∧ x ≤ 5 := by
  intro x hx
  simp only [repW, List.mem_map, List.mem_range] at hx
  obtain ⟨i, _, rfl⟩ := hx
  have hm : i % w.length < w.length := Nat.mod_lt _ h0
  rw [List.getD_eq_getElem?_getD, List.getElem?_eq_getElem hm, Option.getD_some]
  exact h _ (List.getElem_mem _)
/-- The next word, turned round: the greatest letters fall away, and the one before them goes up. -/
def incR (k : Int) : List Int → List Int
  | [] => []
  | x :: s => if x = k - 1 then incR k s else (x + 1) :: s
theorem incR_len (k : Int) (r : List Int) : (incR k r).length ≤ r.length := by
  induction r with
  | nil => simp [incR]
  | cons x s ih =>
    unfold incR
    split
    · simp; omega
    · simp
def nxtW (w : List Int) (n : Nat) (k : Int) : List Int := (incR k (repW w n).reverse).reverse
theorem nxtW_len (w : List Int) (n : Nat) (k : Int) : (nxtW w n k).length ≤ n := by
  unfold nxtW
  rw [List.length_reverse]
  exact Nat.le_trans (incR_len _ _) (by rw [List.length_reverse, repW_len]; exact Nat.le_refl _)

/-- Where the second factor of a word begins, from some place on. -/
def halfF (w : List Int) : Nat → Nat → Nat
  | 0, n => n
  | d + 1, n => if lynW (w.drop n) = true then n else halfF w d (n + 1)
def halfW (w : List Int) : Nat := halfF w (w.length - 2) 1
theorem halfF_le (w : List Int) (d : Nat) : ∀ n, n ≤ halfF w d n ∧ halfF w d n ≤ n + d := by
  induction d with
  | zero => intro n; simp [halfF]
  | succ d ih =>
    intro n
    unfold halfF
    split
    · omega
    · have := ih (n + 1); omega
theorem halfW_in {w : List Int} (h : 2 ≤ w.length) : 1 ≤ halfW w ∧ halfW w < w.length := by
  have := halfF_le w (w.length - 2) 1
  unfold halfW; omega
theorem lynW_one (x : Int) : lynW [x] = true := rfl

/-- The text of a word in brackets: 'd' is at least its length. -/
def brkF : Nat → List Int → ByteArray
  | 0, w => strOfNums (w.map fun x => 48 + x)
  | d + 1, w => if w.length = 1 then strOfNums (w.map fun x => 48 + x) else ((((⟨#[91]⟩ : ByteArray) ++ brkF d (w.take (halfW w))) ++ (⟨#[44]⟩ : ByteArray)) ++ brkF d (w.drop (halfW w))) ++ (⟨#[93]⟩ : ByteArray)
def brkW (w : List Int) : ByteArray := brkF w.length w
theorem brkF_size (d : Nat) : ∀ w : List Int, 1 ≤ w.length → w.length ≤ d → (brkF d w).size + 3 = 4 * w.length := by
  induction d with
  | zero => intro w h1 h2; omega
  | succ d ih =>
    intro w h1 h2
    unfold brkF
    by_cases h : w.length = 1
    · rw [if_pos h, strOfNums_size, List.length_map]; omega
    · obtain ⟨a1, a2⟩ := halfW_in (w := w) (by omega)
      have e1 := ih (w.take (halfW w)) (by simp; omega) (by simp; omega)
      have e2 := ih (w.drop (halfW w)) (by simp; omega) (by simp; omega)
      have s1 : (⟨#[91]⟩ : ByteArray).size = 1 := rfl
      have s2 : (⟨#[44]⟩ : ByteArray).size = 1 := rfl
      have s3 : (⟨#[93]⟩ : ByteArray).size = 1 := rfl
      rw [if_neg h, ByteArray.size_append, ByteArray.size_append, ByteArray.size_append, ByteArray.size_append, s1, s2, s3]
      simp only [List.length_take, List.length_drop] at e1 e2
      omega

end Go.Proofs.Ytoledgkfohkfkaa.Core
