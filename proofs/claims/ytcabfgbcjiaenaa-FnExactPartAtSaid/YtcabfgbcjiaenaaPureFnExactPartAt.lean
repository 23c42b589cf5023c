/- FnExactPartAt: the program's PartAt returns what the reference's returns, for all ints. No condition. -/
import Derived.Test.YtcabfgbcjiaenaaPFnExactPartAtx1
namespace Go.Proofs.Ytcabfgbcjiaenaa.Pure
open Go.RowKit Go.Proofs.Ytcabfgbcjiaenaa.PFnExactPartAt Go.Proofs.YtcabfgbcjiaenaaW.PrintWords Go.Proofs.YtcabfgbcjiaenaaW.PrintLast

/-- YOURS: ∀ (a0 : Int) (a1 : Int), (Lit.int .i64 a0).wf = true → (Lit.int .i64 a1).wf = true → laws_FnExactPartAt.f a0 a1 = some true
What it reaches (each with k first where it has rounds; `.mono`: more rounds tell the same; `.l0`, ..: its loops, with `.mono_l`): spec_l1In.f, spec_PartAt.f, impl_within.f, impl_PartAt.f, laws_FnExactPartAt.f -/
theorem FnExactPartAt : laws_FnExactPartAt.Pure := by
  intro a0 a1 h0 h1
  unfold laws_FnExactPartAt.f impl_PartAt.f spec_PartAt.f impl_within.f spec_l1In.f
  by_cases c1 : a0 ≥ 0 <;> by_cases c2 : a0 ≤ 1 <;> by_cases c3 : a1 ≥ 0 <;> by_cases c4 : a1 ≤ 23 <;> simp [c1, c2, c3, c4]

end Go.Proofs.Ytcabfgbcjiaenaa.Pure
