/- The program's CountParted returns what the reference's returns, for every pair of whole numbers. -/
import Derived.Test.YteilcjohobmdhaaPFnExactCountPartedx2
import Derived.Test.YteilcjohobmdhaaCoreA
namespace Go.Proofs.Yteilcjohobmdhaa.Pure
open Go.RowKit Go.Proofs.Yteilcjohobmdhaa.PFnExactCountParted Go.Proofs.YteilcjohobmdhaaW.PrintWords Go.Proofs.YteilcjohobmdhaaW.PrintLast Go.Proofs.YteilcjohobmdhaaW.PrintMore Go.Proofs.Yteilcjohobmdhaa.Core

theorem spec_l1In_eq (a b c : Int) : spec_l1In.f a b c = some (inB a b c) := inB_ite a b c

theorem impl_within_eq (a b c : Int) : impl_within.f a b c = some (inB a b c) := inB_ite a b c

set_option maxRecDepth 100000 in
theorem parted_small : ∀ n : Nat, n < 21 → ∀ m : Nat, m < 21 → laws_FnExactCountParted.f 600 (n : Int) (m : Int) = some true := by
  decide +kernel

theorem FnExactCountParted : laws_FnExactCountParted.Pure := by
  intro a0 a1 _ _
  by_cases h : 0 ≤ a0 ∧ a0 ≤ 20
  · by_cases h' : 0 ≤ a1 ∧ a1 ≤ 20
    · refine ⟨600, ?_⟩
      obtain ⟨n, rfl⟩ : ∃ n : Nat, a0 = (n : Int) := ⟨a0.toNat, by omega⟩
      obtain ⟨m, rfl⟩ : ∃ m : Nat, a1 = (m : Int) := ⟨a1.toNat, by omega⟩
      exact parted_small n (by omega) m (by omega)
    · refine ⟨1, ?_⟩
      unfold laws_FnExactCountParted.f spec_CountParted.f impl_CountParted.f spec_spTotal.f
      rw [spec_l1In_eq, impl_within_eq, spec_l1In_eq, impl_within_eq, inB_yes h, inB_no h']
      simp
  · refine ⟨1, ?_⟩
    unfold laws_FnExactCountParted.f spec_CountParted.f impl_CountParted.f spec_spTotal.f
    rw [spec_l1In_eq, impl_within_eq, inB_no h]
    simp

end Go.Proofs.Yteilcjohobmdhaa.Pure
