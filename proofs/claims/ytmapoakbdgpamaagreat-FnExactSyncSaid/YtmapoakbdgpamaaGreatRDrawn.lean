/- States by what is seen of them; what is not spoken of need not be forgotten. No condition. -/
import Derived.Test.YtmapoakbdgpamaaGreatRStep
set_option linter.all false
namespace Go.Proofs.YtmapoakbdgpamaaGreat.R
open Go.RowKit
mutual
theorem A.forget_none {i : Nat} : ∀ (x : A), i ∉ x.ids → x.forget i = x
 | .own o, h => by
  have hne : o ≠ i := fun e => h (by simp [A.ids, e])
  simp [A.forget, beq_ne hne]
 | .box b off, h => by
  have hne : b ≠ i := fun e => h (by simp [A.ids, e])
  simp [A.forget, beq_ne hne]
 | .rtp o j c, h => by
  have hne : o ≠ i := fun e => h (by simp [A.ids, e])
  simp [A.forget, beq_ne hne]
 | .clo f b, h => by
  have hne : b ≠ i := fun e => h (by simp [A.ids, e])
  simp [A.forget, beq_ne hne]
 | .win o q, h => by
  have hne : o ≠ i := fun e => h (by simp [A.ids, e])
  simp [A.forget, beq_ne hne]
 | .bor o j c, h => by
  have hne : o ≠ i := fun e => h (by simp [A.ids, e])
  simp [A.forget, beq_ne hne]
 | .agg l, h => by simp [A.forget, forgetL_none l h]
 | .tup l, h => by simp [A.forget, forgetL_none l h]
 | .dead, _ | .und, _ | .val _ _, _ | .nils, _ | .nilp, _ | .elp _ _ _ _ _, _ | .fn _, _ => rfl
theorem forgetL_none {i : Nat} : ∀ (l : List A), i ∉ idsL l → forgetL i l = l
 | [], _ => rfl
 | a :: r, h => by
  simp only [idsL, List.mem_append, not_or] at h
  simp [forgetL, A.forget_none a h.1, forgetL_none r h.2]
end
theorem Ob.forget_none {i : Nat} (x : Ob) (h : i ∉ x.ids) : x.forget i = x := by
 cases x with
 | box cs => simp [Ob.forget, forgetL_none cs h]
 | root _ _ _ _ => rfl
 | deep _ _ _ _ _ => rfl
 | gone => rfl
theorem forgetO_none {i : Nat} : ∀ (l : List (Nat × Ob)), i ∉ idsO l → forgetO i l = l
 | [], _ => rfl
 | (j, x) :: r, h => by
  simp only [idsO, List.mem_cons, List.mem_append, not_or] at h
  simp [forgetO, beq_ne (fun e : j = i => h.1 e.symm), Ob.forget_none x h.2.1, forgetO_none r h.2.2]
theorem make_none (s : St) (i : Nat) (x : Ob) (h1 : i ∉ idsL s.t) (h2 : i ∉ idsO s.o) : s.make i x = ⟨s.t, (i, x) :: s.o⟩ := by
 simp [St.make, forgetL_none _ h1, forgetO_none _ h2]
end Go.Proofs.YtmapoakbdgpamaaGreat.R
