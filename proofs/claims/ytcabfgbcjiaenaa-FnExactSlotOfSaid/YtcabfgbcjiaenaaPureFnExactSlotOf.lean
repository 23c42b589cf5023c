/- FnExactSlotOf: the program's SlotOf returns what the reference's returns, for every int. No condition. -/
import Derived.Test.YtcabfgbcjiaenaaPFnExactSlotOfx1
namespace Go.Proofs.Ytcabfgbcjiaenaa.Pure
open Go.RowKit Go.Proofs.Ytcabfgbcjiaenaa.PFnExactSlotOf Go.Proofs.YtcabfgbcjiaenaaW.PrintWords Go.Proofs.YtcabfgbcjiaenaaW.PrintLast

/-- YOURS: ∀ (a0 : Int), (Lit.int .i64 a0).wf = true → laws_FnExactSlotOf.f a0 = some true
What it reaches (each with k first where it has rounds; `.mono`: more rounds tell the same; `.l0`, ..: its loops, with `.mono_l`): spec_SlotOf.f, impl_SlotOf.f, laws_FnExactSlotOf.f -/
theorem FnExactSlotOf : laws_FnExactSlotOf.Pure := by
  intro a0 h0
  unfold laws_FnExactSlotOf.f
  have e : impl_SlotOf.f a0 = spec_SlotOf.f a0 := rfl
  rw [e]
  unfold spec_SlotOf.f
  split <;> simp

end Go.Proofs.Ytcabfgbcjiaenaa.Pure
