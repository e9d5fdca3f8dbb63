/- The program's CountBracelets returns what the reference's returns, for every pair of whole numbers. -/
import Derived.Test.YtaaoeaojimjikaaPFnExactCountBraceletsx2
import Derived.Test.YtaaoeaojimjikaaCoreA
namespace Go.Proofs.Ytaaoeaojimjikaa.Pure
open Go.RowKit Go.Proofs.Ytaaoeaojimjikaa.PFnExactCountBracelets Go.Proofs.YtaaoeaojimjikaaW.PrintWords Go.Proofs.YtaaoeaojimjikaaW.PrintLast Go.Proofs.YtaaoeaojimjikaaW.PrintMore Go.Proofs.Ytaaoeaojimjikaa.Core
set_option linter.unusedVariables false
set_option linter.unusedSimpArgs false

theorem spec_l1In_eq (a b c : Int) : spec_l1In.f a b c = some (inB a b c) := inB_ite a b c

theorem impl_within_eq (a b c : Int) : impl_within.f a b c = some (inB a b c) := inB_ite a b c

set_option maxRecDepth 100000 in
theorem small_CountBracelets : ∀ n : Nat, n < 13 → 1 ≤ n → ∀ m : Nat, m < 7 → 1 ≤ m → laws_FnExactCountBracelets.f 200 (n : Int) (m : Int) = some true := by
  decide +kernel

theorem FnExactCountBracelets : laws_FnExactCountBracelets.Pure := by
  intro a0 a1 _ _
  by_cases h : (1 ≤ a0 ∧ a0 ≤ 12) ∧ (1 ≤ a1 ∧ a1 ≤ 6)
  · refine ⟨200, ?_⟩
    obtain ⟨n, rfl⟩ : ∃ n : Nat, a0 = (n : Int) := ⟨a0.toNat, by omega⟩
    obtain ⟨m, rfl⟩ : ∃ m : Nat, a1 = (m : Int) := ⟨a1.toNat, by omega⟩
    exact small_CountBracelets n (by omega) (by omega) m (by omega) (by omega)
  · refine ⟨1, ?_⟩
    have hs : spec_lyKind.f a0 a1 = some false := by
      unfold spec_lyKind.f
      simp only [spec_l1In_eq, Option.bind_some]
      by_cases h1 : 1 ≤ a0 ∧ a0 ≤ 12
      · rw [inB_yes h1, inB_no (fun h2 => h ⟨h1, h2⟩)]; rfl
      · rw [inB_no h1]; rfl
    have hi : impl_isOver.f a0 a1 = some false := hs
    unfold laws_FnExactCountBracelets.f spec_CountBracelets.f impl_CountBracelets.f
    rw [hs, hi]
    simp

end Go.Proofs.Ytaaoeaojimjikaa.Pure
