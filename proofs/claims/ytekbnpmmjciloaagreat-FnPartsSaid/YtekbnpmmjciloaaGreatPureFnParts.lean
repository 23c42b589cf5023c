/- FnParts: the law's plain side: what the evaluator's functions compute is true. No condition. -/
import Derived.Test.YtekbnpmmjciloaaGreatPParts
namespace Go.Proofs.YtekbnpmmjciloaaGreat.Pure
open Go.Proofs.YtekbnpmmjciloaaGreat.R Go.Proofs.YtekbnpmmjciloaaGreat.XB
theorem FnParts: ∀ x:List yn,Gb [(.sl 5 fx)] x→wI x=some true:=by
  intro x ok
  refine Pl.TO x (fun y hy=> ?_)
  have h:=ok.2 y hy
  have h2:(Lit.int .u8 y).wf=true:=h
  have h3:(decide ((0:Int)≤y)&&decide (y≤255))=true:=h2
  simp only [Bool.and_eq_true,decide_eq_true_eq] at h3
  exact ⟨h3.1,by omega⟩
end Go.Proofs.YtekbnpmmjciloaaGreat.Pure
