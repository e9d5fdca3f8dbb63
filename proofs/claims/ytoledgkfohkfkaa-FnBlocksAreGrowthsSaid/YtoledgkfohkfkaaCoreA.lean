/- Plain lemmas on whole numbers of 64 bits, on lists and on rounds; no program is in sight here. -/
import Derived.Test.YtoledgkfohkfkaaWMore
import Derived.Test.YtoledgkfohkfkaaWLast
import Derived.Test.YtoledgkfohkfkaaWWords
namespace Go.Proofs.Ytoledgkfohkfkaa.Core
open Go.RowKit Go.Proofs.YtoledgkfohkfkaaW.PrintWords Go.Proofs.YtoledgkfohkfkaaW.PrintLast Go.Proofs.YtoledgkfohkfkaaW.PrintMore
set_option linter.unusedVariables false
set_option linter.unusedSimpArgs false

/-! ### whole numbers -/
theorem w64 {n : Int} (h : -9223372036854775808 ≤ n ∧ n ≤ 9223372036854775807) : wrap64 n = n := by
 unfold wrap64; omega

def I64 (x : Int) : Prop := -9223372036854775808 ≤ x ∧ x ≤ 9223372036854775807

theorem wf_i64 {x : Int} (h : (Lit.int .i64 x).wf = true) : I64 x := by
 unfold Lit.wf at h
 rw [Bool.and_eq_true, decide_eq_true_iff, decide_eq_true_iff] at h
 exact h

def inB (a b c : Int) : Bool := decide (b ≤ a) && decide (a ≤ c)
theorem inB_ite (a b c : Int) : (if a ≥ b then (some (decide (a ≤ c))) else (some false)) = some (inB a b c) := by
 unfold inB
 by_cases h : b ≤ a
 ·rw [if_pos h, decide_eq_true h, Bool.true_and]
 ·rw [if_neg h, decide_eq_false h, Bool.false_and]
theorem inB_true {a b c : Int} : inB a b c = true ↔ b ≤ a ∧ a ≤ c := by
 unfold inB; rw [Bool.and_eq_true, decide_eq_true_iff, decide_eq_true_iff]
theorem inB_false {a b c : Int} : inB a b c = false ↔ ¬ (b ≤ a ∧ a ≤ c) := by
 rw [← inB_true, Bool.not_eq_true]
theorem inB_yes {a b c : Int} (h : b ≤ a ∧ a ≤ c) : inB a b c = true := inB_true.2 h
theorem inB_no {a b c : Int} (h : ¬ (b ≤ a ∧ a ≤ c)) : inB a b c = false := inB_false.2 h

/-! ### reading and writing in the middle of a list -/
theorem rd_mid {p s : List Int} {x i : Int} (h : i = (p.length : Int)) : rd (p ++ x :: s) i = x := by
 subst h; simp [rd]
theorem set_mid {α : Type} {p s : List α} {x y : α} {i : Int} (h : i = (p.length : Int)) : (p ++ x :: s).set i.toNat y = p ++ y :: s := by
 subst h; simp
theorem snoc_mid {α : Type} (p s : List α) (x : α) : p ++ x :: s = (p ++ [x]) ++ s := by simp
theorem len_mid {α : Type} (p s : List α) (x : α) : ((p ++ x :: s).length : Int) = p.length + s.length + 1 := by
 simp; omega
theorem len_app {α : Type} (p s : List α) : ((p ++ s).length : Int) = p.length + s.length := by simp
theorem len_nil {α : Type} (p : List α) : ((p ++ ([] : List α)).length : Int) = p.length := by simp
theorem len_snoc {α : Type} (p : List α) (x : α) : ((p ++ [x]).length : Int) = p.length + 1 := by simp
theorem rd_nat (l : List Int) (i : Nat) (h : i < l.length) : rd l (i : Int) = l[i] := by
 simp [rd, List.getD_eq_getElem?_getD, h]
theorem rd_mem {l : List Int} {i : Int} (h0 : 0 ≤ i) (h1 : i < (l.length : Int)) : rd l i ∈ l := by
 obtain ⟨n, rfl⟩ : ∃ n : Nat, i = (n : Int) := ⟨i.toNat, by omega⟩
 rw [rd_nat l n (by omega)]
 exact List.getElem_mem _

/-! ### rounds -/
/-- What stands behind an answer. (Not by 'rfl': the kernel is not to look into what follows.) -/
theorem obind {α β : Type} (x : α) (f : α → Option β) : (some x).bind f = f x :=
 Option.rec (motive := fun o => ∀ y, o = some y → o.bind f = f y) (fun y h => by cases h) (fun z y h => by cases h; rfl) (some x) x rfl
theorem Ev.step' {α : Type} {g f : Nat → Option α} {r : α} (k : Ev f r) (h : ∀ k, g (k + 1) = f k) : Ev g r := Ev.step h k
theorem Ev.done {α : Type} {g : Nat → Option α} {r : α} (h : ∀ k, g (k + 1) = some r) : Ev g r := Ev.step (f := fun _ => some r) h (Ev.now r)
theorem Ev.succ {α : Type} {g : Nat → Option α} {r : α} (h : Ev (fun k => g (k + 1)) r) : Ev g r := Ev.step (fun _ => rfl) h
theorem Ev.to {α : Type} {g : Nat → Option α} {r r' : α} (k : Ev g r) (h : r = r') : Ev g r' := h ▸ k
theorem Ev.some_ {α : Type} {a r : α} (h : a = r) : Ev (fun _ => some a) r := h ▸ Ev.now a

theorem mx_max (a b : Int) : mx a b = max a b := by unfold mx; split <;> omega
theorem mn_min (a b : Int) : mn a b = min a b := by unfold mn; split <;> omega
theorem most_max (a b : Int) : (if a > b then some a else some b) = some (max a b) := by
 split <;> (congr 1; omega)
theorem least_min (a b : Int) : (if a < b then some a else some b) = some (min a b) := by
 split <;> (congr 1; omega)

/-- m, m + 1, ..: n numbers. -/
def upFrom (m : Int) : Nat → List Int
 | 0 => []
 | n + 1 => m :: upFrom (m + 1) n
theorem upFrom_len (n : Nat) : ∀ m, (upFrom m n).length = n := by
 induction n with
 | zero => intro m; rfl
 | succ n ih => intro m; simp [upFrom, ih]

/-- The order of words. -/
def lexLt : List Int → List Int → Bool
 | [], [] => false
 | [], _ :: _ => true
 | _ :: _, [] => false
 | x :: s, y :: t => if x = y then lexLt s t else decide (x < y)

/-! ### one step of the machine's numbers -/
theorem i_last {n i r : Nat} (h : i + (r + 1) = n) (hn : n ≤ 1099511627776) : wrap64 (wrap64 ((n : Int) - (i : Int)) - 1) = (r : Int) := by
 rw [w64 (n := (n : Int) - (i : Int)) (by omega), w64 (by omega)]; omega
theorem i_div {rank g : Nat} (h : rank ≤ 1099511627776) : wrap64 (Int.tdiv (rank : Int) (g : Int)) = ((rank / g : Nat) : Int) := by
 have e : Int.tdiv (rank : Int) (g : Int) = ((rank / g : Nat) : Int) := rfl
 have h1 : rank / g ≤ rank := Nat.div_le_self _ _
 rw [e]
 generalize rank / g = q at h1
 rw [w64 (by omega)]
theorem i_min (a b : Nat) : min (a : Int) (b : Int) = ((min a b : Nat) : Int) := by omega
theorem i_mn (a b : Nat) : mn (a : Int) (b : Int) = ((min a b : Nat) : Int) := by rw [mn_min]; omega
theorem i_mul (a b : Nat) : (a : Int) * (b : Int) = ((a * b : Nat) : Int) := (Int.natCast_mul a b).symm
theorem i_sub {rank P : Nat} (h : P ≤ rank) (hr : rank ≤ 1099511627776) : wrap64 ((rank : Int) - wrap64 (P : Int)) = ((rank - P : Nat) : Int) := by
 rw [w64 (n := (P : Int)) (by omega), w64 (by omega)]; omega
theorem i_add {rank P : Nat} (hp : P ≤ 1099511627776) (hr : rank ≤ 1099511627776) : wrap64 ((rank : Int) + wrap64 (P : Int)) = ((rank + P : Nat) : Int) := by
 rw [w64 (n := (P : Int)) (by omega), w64 (by omega)]; omega
theorem i_max {k x : Nat} (h : x ≤ 1099511627776) : mx (k : Int) (wrap64 ((x : Int) + 1)) = ((max k (x + 1) : Nat) : Int) := by
 rw [w64 (by omega), mx_max]; omega
theorem i_succ {α : Type} {out : List α} {x : α} (h : out.length ≤ 1099511627776) : wrap64 ((out.length : Int) + 1) = ((out ++ [x]).length : Int) := by
 rw [w64 (by omega), len_snoc]

theorem i_up {o : Nat} (h : o ≤ 1099511627776) : wrap64 ((o : Int) + 1) = ((o + 1 : Nat) : Int) := by rw [w64 (by omega)]; omega
theorem i_down {o : Nat} (h : o ≤ 1099511627776) : wrap64 (((o + 1 : Nat) : Int) - 1) = (o : Int) := by rw [w64 (by omega)]; omega
theorem i_plus {a b : Nat} (h : a + b ≤ 9007199254740992) : wrap64 ((a : Int) + (b : Int)) = ((a + b : Nat) : Int) := by rw [w64 (by omega)]; omega
theorem i_up2 {o : Nat} (h : o ≤ 1099511627776) : wrap64 ((o : Int) + wrap64 (wrap64 (2 * 1) - 1)) = ((o + 1 : Nat) : Int) := by
 rw [w64 (n := 2 * 1) (by omega), w64 (n := 2 * 1 - 1) (by omega), w64 (by omega)]; omega
theorem i_down2 {o : Nat} (h : o ≤ 1099511627776) : wrap64 (((o + 1 : Nat) : Int) + wrap64 (wrap64 (2 * 0) - 1)) = (o : Int) := by
 rw [w64 (n := 2 * 0) (by omega), w64 (n := 2 * 0 - 1) (by omega), w64 (by omega)]; omega

end Go.Proofs.Ytoledgkfohkfkaa.Core
