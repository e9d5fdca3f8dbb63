/- The program's CountBalanced returns what the reference's returns, for every whole number. -/
import Derived.Test.YteilcjohobmdhaaHFnExactCountBalancedx2
import Derived.Test.YteilcjohobmdhaaCoreA
namespace Go.Proofs.Yteilcjohobmdhaa.Pure
open Go.RowKit Go.Proofs.Yteilcjohobmdhaa.HFnExactCountBalanced Go.Proofs.YteilcjohobmdhaaW.PrintWords Go.Proofs.YteilcjohobmdhaaW.PrintLast Go.Proofs.YteilcjohobmdhaaW.PrintMore Go.Proofs.Yteilcjohobmdhaa.Core

theorem spec_l1In_eq (a b c : Int) : spec_l1In.f a b c = some (inB a b c) := inB_ite a b c

theorem impl_within_eq (a b c : Int) : impl_within.f a b c = some (inB a b c) := inB_ite a b c

set_option maxRecDepth 100000 in
theorem balanced_small : ∀ n : Nat, n < 13 → laws_FnExactCountBalanced.f 900 (n : Int) = some true := by
  decide +kernel

theorem FnExactCountBalanced : laws_FnExactCountBalanced.Pure := by
  intro a0 _
  by_cases h : 0 ≤ a0 ∧ a0 ≤ 12
  · refine ⟨900, ?_⟩
    obtain ⟨n, rfl⟩ : ∃ n : Nat, a0 = (n : Int) := ⟨a0.toNat, by omega⟩
    exact balanced_small n (by omega)
  · refine ⟨1, ?_⟩
    unfold laws_FnExactCountBalanced.f spec_CountBalanced.f impl_CountBalanced.f
    rw [spec_l1In_eq, impl_within_eq, inB_no h]
    simp

end Go.Proofs.Yteilcjohobmdhaa.Pure
