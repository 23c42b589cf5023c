/- FnExactSuperOk: the pure statement behind the law. -/
import Derived.Test.YtcabfgbcjiaenaaKFnExactSuperOk
namespace Go.Proofs.Ytcabfgbcjiaenaa.Pure
open Go.RowKit Go.Proofs.Ytcabfgbcjiaenaa.PFnExactSuperOk Go.Proofs.Ytcabfgbcjiaenaa.Opn Go.Proofs.YtcabfgbcjiaenaaW.PrintWords Go.Proofs.YtcabfgbcjiaenaaW.PrintLast

/-- ∀ (x0 : S28), ok28 x0 → laws_FnExactSuperOk.f x0.f0 x0.f1 x0.f2 x0.f3 x0.f4 = some true -/
theorem FnExactSuperOk : Pure_FnExactSuperOk := by
  intro x _
  have e : ∀ a b c d f, impl_SuperOk.f a b c d f = spec_SuperOk.f a b c d f := fun _ _ _ _ _ => rfl
  have tot : ∀ a b c d f, ∃ r, spec_SuperOk.f a b c d f = some r := by
    intro a b c d f
    have h : ∀ x y z, spec_l1In.f x y z = some (decide (y ≤ x) && decide (x ≤ z)) := by
      intro x y z
      unfold spec_l1In.f
      by_cases h : y ≤ x <;> simp [h]
    unfold spec_SuperOk.f
    simp only [h, Option.bind_some]
    repeat' split
    all_goals exact ⟨_, rfl⟩
  unfold laws_FnExactSuperOk.f laws_toSuper.f
  obtain ⟨r, hr⟩ := tot x.f0 x.f1 x.f2 x.f3 x.f4
  simp [e, hr]

end Go.Proofs.Ytcabfgbcjiaenaa.Pure
