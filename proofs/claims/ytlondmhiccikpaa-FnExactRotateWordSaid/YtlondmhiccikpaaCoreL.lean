/- Plain laws on words; no program is in sight here. -/
import Derived.Test.YtlondmhiccikpaaCoreA
namespace Go.Proofs.Ytlondmhiccikpaa.Core
open Go.RowKit Go.Proofs.YtlondmhiccikpaaW.PrintWords Go.Proofs.YtlondmhiccikpaaW.PrintLast Go.Proofs.YtlondmhiccikpaaW.PrintMore
set_option linter.unusedVariables false
set_option linter.unusedSimpArgs false

def isW (l : List Int) : Bool := inB l.length 1 24 && l.all fun x => inB x 0 5
theorem isW_true {l : List Int} (h : isW l = true) : (1 ≤ l.length ∧ l.length ≤ 24) ∧ ∀ x ∈ l, 0 ≤ x ∧ x ≤ 5 := by
  unfold isW at h
  rw [Bool.and_eq_true, inB_true, List.all_eq_true] at h
  exact ⟨by omega, fun x hx => inB_true.1 (h.2 x hx)⟩
theorem isW_long {l : List Int} (h : 24 < l.length) : isW l = false := by
  unfold isW; rw [inB_no (by omega), Bool.false_and]
/-- The numbers that a text's first n bytes tell. -/
def byteL (s : ByteArray) (n : Nat) : List Int := (List.range n).map fun i : Nat => bt s (i : Int) - 48
theorem byteL_len (s : ByteArray) (n : Nat) : (byteL s n).length = n := by simp [byteL]
theorem byteL_succ (s : ByteArray) (n : Nat) : byteL s (n + 1) = byteL s n ++ [bt s (n : Int) - 48] := by
  simp [byteL, List.range_succ]

/-- The rotation by j. -/
def rotW (w : List Int) (j : Nat) : List Int := w.drop j ++ w.take j
theorem rotW_len (w : List Int) (j : Nat) : (rotW w j).length = w.length := by
  unfold rotW; simp; omega
theorem rot_eq (w : List Int) (b : Nat) (h : 0 < w.length) : (List.range w.length).map (fun t => w.getD ((t + b) % w.length) 0) = rotW w (b % w.length) := by
  have hj := Nat.mod_lt b h
  refine List.ext_getElem (by rw [rotW_len]; simp) fun i h1 h2 => ?_
  have hi : i < w.length := by simpa using h1
  have e : (i + b) % w.length = (i + b % w.length) % w.length := (Nat.add_mod_mod i b w.length).symm
  simp only [List.getElem_map, List.getElem_range, e]
  generalize b % w.length = j at hj h2
  have hm : (i + j) % w.length < w.length := Nat.mod_lt _ h
  rw [List.getD_eq_getElem?_getD, List.getElem?_eq_getElem hm, Option.getD_some]
  unfold rotW at h2 ⊢
  rw [List.getElem_append]
  split
  · rename_i h3
    rw [List.getElem_drop]
    have h4 : i < w.length - j := by simpa using h3
    have h5 : (i + j) % w.length = j + i := by rw [Nat.mod_eq_of_lt (by omega)]; omega
    simp only [h5]
  · rename_i h3
    rw [List.getElem_take]
    have h4 : ¬ i < w.length - j := by simpa using h3
    have h5 : (i + j) % w.length = i - (w.drop j).length := by
      rw [List.length_drop, Nat.mod_eq_sub_mod (by omega), Nat.mod_eq_of_lt (by omega)]; omega
    simp only [h5]
/-- By how much a rotation by some number turns a word of n letters. -/
def turnN (by_ : Int) (n : Nat) : Nat := (Int.tmod by_ (n : Int) + (n : Int)).toNat
theorem turnN_pos {b : Int} {n : Nat} (h : 0 < n) : 0 ≤ Int.tmod b (n : Int) + (n : Int) ∧ Int.tmod b (n : Int) + (n : Int) < 2 * n := by
  have h1 := Int.tmod_lt_of_pos b (show (0 : Int) < n by omega)
  have h2 : -(n : Int) < Int.tmod b (n : Int) := by
    have h3 := Int.tmod_lt_of_pos (-b) (show (0 : Int) < n by omega)
    rw [Int.neg_tmod] at h3
    omega
  omega

end Go.Proofs.Ytlondmhiccikpaa.Core
