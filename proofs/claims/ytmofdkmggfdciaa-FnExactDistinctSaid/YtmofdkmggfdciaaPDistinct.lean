/- Distinct: the law. No condition. -/
import Derived.Test.YtmofdkmggfdciaaPWhole
import Derived.Test.YtmofdkmggfdciaaPSee
namespace Go.Proofs.Ytmofdkmggfdciaa.Pl
open Go.Proofs.Ytmofdkmggfdciaa.R Go.Proofs.Ytmofdkmggfdciaa.XQ
set_option linter.unusedVariables false
set_option linter.unusedSimpArgs false
theorem law_Distinct (is : List E_i64) (ns : List E_LNode) (ags : List E_LAge) (cs : List E_LCell) (vs : List E_LVol) (z : Int) (hi : is.length ≤ maxLen) (hn : ns.length ≤ maxLen) (hnn : ∀ a ∈ ns, List.length a ≤ maxLen ∧ ∀ b ∈ (show List E_s_LKey from a), List.length b ≤ maxLen)
    (ha : ags.length ≤ maxLen) (hc : cs.length ≤ maxLen) (hv : vs.length ≤ maxLen) (hvv : ∀ a ∈ vs, ByteArray.size a.1 ≤ maxLen) : F_laws_FnExactDistinct (is, ns, ags, cs, vs, z) = some true := by
  obtain ⟨r, hr, hcase⟩ := szPool_ok is ns ags cs vs z hi hn hnn ha hc hv hvv
  unfold F_laws_FnExactDistinct
  simp only [hr, Option.bind_some]
  rw [Bool.cond_eq_ite]
  by_cases h : r < 0
  · rw [if_pos (by simpa using h)]
  · rw [if_neg (by simpa using h)]
    have hs : small is ns ags cs vs := hcase.resolve_left h
    have hm : ∀ n ∈ ns, List.length n ≤ 1073741824 := fun n hn => by
      have := (node_small hs.2.2.1 hn).1
      omega
    have ht : TOk ns := ⟨by have := hs.2.1; omega, hm, hs.2.2.1⟩
    have e1 := spec_Distinct_eq is ns ags cs vs z ht hs.2.2.2.1 hs.2.2.2.2.2
    have e2 := impl_Distinct_eq is ns ags cs vs z ht hs.2.2.2.1 hs.2.2.2.2.2
    simp only [toPool_eq is ns ags cs vs z hs, Option.bind_some, e1, e2, bne_self_eq_false, cond_false, eqPool_refl is ns ags cs vs z hs, Bool.not_true]
end Go.Proofs.Ytmofdkmggfdciaa.Pl
