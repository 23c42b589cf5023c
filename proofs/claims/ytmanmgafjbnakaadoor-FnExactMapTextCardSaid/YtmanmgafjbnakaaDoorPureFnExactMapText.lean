/- FnExactMapText: the law's plain side: what the evaluator's functions compute is true. No condition. -/
import Derived.Test.YtmanmgafjbnakaaDoorPMapTxt
namespace Go.Proofs.YtmanmgafjbnakaaDoor.Pure
open Go.Proofs.YtmanmgafjbnakaaDoor.R Go.Proofs.YtmanmgafjbnakaaDoor.XN
theorem FnExactMapText : ∀ x : ByteArray × Bool × List E_i64, okE [.str, .bool, (.sl 3 ts_i64)] x → F_laws_FnExactMapText x = some true := by
  rintro ⟨nm, fx, l⟩ ⟨hn, _, hl⟩
  have hn' : nm.size ≤ maxLen := hn
  have hl' : l.length ≤ maxLen := hl.1
  have hr : ∀ x ∈ l, Pl.i64r x := fun x hx => Pl.i64_of (hl.2 x hx)
  unfold F_laws_FnExactMapText F_laws_szMap F_laws_szIntS
  simp only [maxLen] at hn' hl'
  have w1 : Go.IntKind.wrap .i64 (1048576 - (nm.size : Int)) = 1048576 - (nm.size : Int) := Pl.w64 (by omega) (by omega)
  simp only [w1, Bool.cond_eq_ite, decide_eq_true_eq]
  by_cases h1 : (1048576 - (nm.size : Int)) < 0
  · rw [if_pos h1]
    simp
  · rw [if_neg h1]
    have w2 : Go.IntKind.wrap .i64 (1048576 - (nm.size : Int) - (l.length : Int)) = 1048576 - (nm.size : Int) - (l.length : Int) := Pl.w64 (by omega) (by omega)
    simp only [w2]
    by_cases h2 : (1048576 - (nm.size : Int) - (l.length : Int)) < 0
    · rw [if_pos h2]
      simp
    · rw [if_neg h2, Option.bind_some, if_neg h2, Option.bind_some, if_neg h2]
      have ht : F_laws_toMap (nm, fx, l) = some (nm, fx, l) := by
        unfold F_laws_toMap
        rw [Pl.toIntS_eq l (by omega)]
        rfl
      obtain ⟨s, e1, e2⟩ := Pl.MapText_ok nm fx l (by omega) (by omega) hr
      have he : F_laws_eqMap (nm, fx, l, nm, fx, l) = some true := by
        unfold F_laws_eqMap
        simp only [beq_self_eq_true, Bool.not_true, cond_false, Pl.eqIntS_refl l (by omega), Option.bind_some]
      simp only [ht, e1, e2, he, Option.bind_some, beq_self_eq_true, Bool.not_true, Bool.false_eq_true, if_false]
end Go.Proofs.YtmanmgafjbnakaaDoor.Pure
