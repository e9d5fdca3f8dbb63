/- Plain laws on words; no program is in sight here. -/
import Derived.Test.YtoledgkfohkfkaaCoreA
namespace Go.Proofs.Ytoledgkfohkfkaa.Core
open Go.RowKit Go.Proofs.YtoledgkfohkfkaaW.PrintWords Go.Proofs.YtoledgkfohkfkaaW.PrintLast Go.Proofs.YtoledgkfohkfkaaW.PrintMore
set_option linter.unusedVariables false
set_option linter.unusedSimpArgs false

def isW (l : List Int) : Bool := inB l.length 1 24 && l.all fun x => inB x 0 5
theorem isW_true {l : List Int} (h : isW l = true) : (1 ≤ l.length ∧ l.length ≤ 24) ∧ ∀ x ∈ l, 0 ≤ x ∧ x ≤ 5 := by
 unfold isW at h
 rw [Bool.and_eq_true, inB_true, List.all_eq_true] at h
 exact ⟨by omega, fun x hx => inB_true.1 (h.2 x hx)⟩
theorem isW_long {l : List Int} (h : 24 < l.length) : isW l = false := by
 unfold isW; rw [inB_no (by omega), Bool.false_and]
/-- The numbers that a text's first n bytes tell. -/
def byteL (s : ByteArray) (n : Nat) : List Int := (List.range n).map fun i : Nat => bt s (i : Int) - 48
theorem byteL_len (s : ByteArray) (n : Nat) : (byteL s n).length = n := by simp [byteL]
theorem byteL_succ (s : ByteArray) (n : Nat) : byteL s (n + 1) = byteL s n ++ [bt s (n : Int) - 48] := by
 simp [byteL, List.range_succ]

/-- The rotation by j. -/
def rotW (w : List Int) (j : Nat) : List Int := w.drop j ++ w.take j
theorem rotW_len (w : List Int) (j : Nat) : (rotW w j).length = w.length := by
 unfold rotW; simp; omega
theorem rot_eq (w : List Int) (b : Nat) (h : 0 < w.length) : (List.range w.length).map (fun t => w.getD ((t + b) % w.length) 0) = rotW w (b % w.length) := by
 have hj := Nat.mod_lt b h
 refine List.ext_getElem (by rw [rotW_len]; simp) fun i h1 h2 => ?_
 have hi : i < w.length := by simpa using h1
 have e : (i + b) % w.length = (i + b % w.length) % w.length := (Nat.add_mod_mod i b w.length).symm
 simp only [List.getElem_map, List.getElem_range, e]
 generalize b % w.length = j at hj h2
 have hm : (i + j) % w.length < w.length := Nat.mod_lt _ h
 rw [List.getD_eq_getElem?_getD, List.getElem?_eq_getElem hm, Option.getD_some]
 unfold rotW at h2 ⊢
 rw [List.getElem_append]
 split
 ·rename_i h3
  rw [List.getElem_drop]
  have h4 : i < w.length - j := by simpa using h3
  have h5 : (i + j) % w.length = j + i := by rw [Nat.mod_eq_of_lt (by omega)]; omega
  simp only [h5]
 ·rename_i h3
  rw [List.getElem_take]
  have h4 : ¬ i < w.length - j := by simpa using h3
  have h5 : (i + j) % w.length = i - (w.drop j).length := by
   rw [List.length_drop, Nat.mod_eq_sub_mod (by omega), Nat.mod_eq_of_lt (by omega)]; omega
  simp only [h5]
/-- By how much a rotation by some number turns a word of n letters. -/
def turnN (by_ : Int) (n : Nat) : Nat := (Int.tmod by_ (n : Int) + (n : Int)).toNat
theorem turnN_pos {b : Int} {n : Nat} (h : 0 < n) : 0 ≤ Int.tmod b (n : Int) + (n : Int) ∧ Int.tmod b (n : Int) + (n : Int) < 2 * n := by
 have h1 := Int.tmod_lt_of_pos b (show (0 : Int) < n by omega)
 have h2 : -(n : Int) < Int.tmod b (n : Int) := by
  have h3 := Int.tmod_lt_of_pos (-b) (show (0 : Int) < n by omega)
  rw [Int.neg_tmod] at h3
  omega
 omega

theorem turnN_nat {b n : Nat} (h : 0 < n) : turnN (b : Int) n % n = b % n := by
 have e : Int.tmod (b : Int) (n : Int) = ((b % n : Nat) : Int) := rfl
 have hm := Nat.mod_lt b h
 have e2 : turnN (b : Int) n = b % n + n := by unfold turnN; rw [e]; omega
 rw [e2, Nat.add_mod_right, Nat.mod_mod]
theorem rotW_zero (w : List Int) : rotW w 0 = w := by simp [rotW]
/-- Two words compared: -1, 0 or 1. -/
def cmpW : List Int → List Int → Int
 | [], [] => 0
 | [], _ :: _ => -1
 | _ :: _, [] => 1
 | x :: s, y :: t => if x = y then cmpW s t else if x < y then -1 else 1
/-- The least number by which the rotation is least, from some number on. -/
def leastF (w : List Int) : Nat → Nat → Nat → Nat
 | 0, _, best => best
 | d + 1, b, best => if cmpW (rotW w b) (rotW w best) < 0 then leastF w d (b + 1) b else leastF w d (b + 1) best
def leastW (w : List Int) : Nat := leastF w (w.length - 1) 1 0
theorem leastF_lt (w : List Int) (d : Nat) : ∀ b best, b + d ≤ w.length → best < w.length → leastF w d b best < w.length := by
 induction d with
 | zero => intro b best _ h; exact h
 | succ d ih =>
  intro b best h1 h2
  unfold leastF
  split
  ·exact ih _ _ (by omega) (by omega)
  ·exact ih _ _ (by omega) h2
theorem leastW_lt {w : List Int} (h : 0 < w.length) : leastW w < w.length := leastF_lt w _ _ _ (by omega) h
/-- The root length, from some number on. -/
def rootF (w : List Int) : Nat → Nat → Nat
 | 0, p => p
 | d + 1, p => if w.length % p = 0 ∧ rotW w (p % w.length) = w then p else rootF w d (p + 1)
def rootW (w : List Int) : Nat := rootF w (w.length - 1) 1

theorem rotW_in {w : List Int} (h : ∀ x ∈ w, 0 ≤ x ∧ x ≤ 5) (j : Nat) : ∀ x ∈ rotW w j, 0 ≤ x ∧ x ≤ 5 := by
 intro x hx
 unfold rotW at hx
 rcases List.mem_append.1 hx with hx | hx
 ·exact h x (List.mem_of_mem_drop hx)
 ·exact h x (List.mem_of_mem_take hx)
def neckW (w : List Int) : Bool := decide (leastW w = 0)
def lynW (w : List Int) : Bool := neckW w && decide (rootW w = w.length)

theorem cmpW_turn (s : List Int) : ∀ t, cmpW s t = -cmpW t s := by
 induction s with
 | nil => intro t; cases t <;> rfl
 | cons x s ih =>
  intro t
  cases t with
  | nil => rfl
  | cons y t =>
   simp only [cmpW]
   by_cases h : x = y
   ·rw [if_pos h, if_pos h.symm]; exact ih t
   ·rw [if_neg h, if_neg (Ne.symm h)]
    by_cases hlt : x < y
    ·rw [if_pos hlt, if_neg (by omega)]
    ·rw [if_neg hlt, if_pos (by omega)]; rfl
def bracW (w : List Int) : Bool := neckW w && decide (cmpW w (rotW w.reverse (leastW w.reverse)) ≤ 0)

end Go.Proofs.Ytoledgkfohkfkaa.Core
