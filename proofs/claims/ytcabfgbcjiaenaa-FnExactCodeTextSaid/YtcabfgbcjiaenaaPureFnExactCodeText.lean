/- FnExactCodeText: the program's CodeText returns what the reference's returns, for every int. No condition. -/
import Derived.Test.YtcabfgbcjiaenaaPFnExactCodeTextx1
namespace Go.Proofs.Ytcabfgbcjiaenaa.Pure
open Go.RowKit Go.Proofs.Ytcabfgbcjiaenaa.PFnExactCodeText Go.Proofs.YtcabfgbcjiaenaaW.PrintWords Go.Proofs.YtcabfgbcjiaenaaW.PrintLast

/-- YOURS: ∀ (a0 : Int), (Lit.int .i64 a0).wf = true → laws_FnExactCodeText.f a0 = some true
What it reaches (each with k first where it has rounds; `.mono`: more rounds tell the same; `.l0`, ..: its loops, with `.mono_l`): spec_l1In.f, spec_CodeText.f, impl_within.f, impl_CodeText.f, laws_FnExactCodeText.f -/
theorem FnExactCodeText : laws_FnExactCodeText.Pure := by
  intro a0 h0
  unfold laws_FnExactCodeText.f impl_CodeText.f spec_CodeText.f impl_within.f spec_l1In.f
  by_cases c1 : a0 ≥ 0 <;> by_cases c2 : a0 ≤ 6
  · have c3 : a0 < 7 := by omega
    simp [c1, c2, c3]
  all_goals simp [c1, c2]

end Go.Proofs.Ytcabfgbcjiaenaa.Pure
