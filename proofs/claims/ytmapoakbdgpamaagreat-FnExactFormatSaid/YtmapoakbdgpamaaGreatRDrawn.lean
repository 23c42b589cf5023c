/- States by what is seen of them; what is not spoken of need not be forgotten. No condition. -/
import Derived.Test.YtmapoakbdgpamaaGreatRStep
set_option linter.all false
namespace Go.Proofs.YtmapoakbdgpamaaGreat.R
open Go.RowKit
mutual
theorem A.forget_none {i : Nat} : ∀ (x : A), i ∉ x.ids → x.forget i = x
 | .own o, h => by
  have hne : o ≠ i := fun e => h (by simp [A.ids, e])
  simp [A.forget, yA hne]
 | .box b off, h => by
  have hne : b ≠ i := fun e => h (by simp [A.ids, e])
  simp [A.forget, yA hne]
 | .rtp o j c, h => by
  have hne : o ≠ i := fun e => h (by simp [A.ids, e])
  simp [A.forget, yA hne]
 | .clo f b, h => by
  have hne : b ≠ i := fun e => h (by simp [A.ids, e])
  simp [A.forget, yA hne]
 | .win o q, h => by
  have hne : o ≠ i := fun e => h (by simp [A.ids, e])
  simp [A.forget, yA hne]
 | .bor o j c, h => by
  have hne : o ≠ i := fun e => h (by simp [A.ids, e])
  simp [A.forget, yA hne]
 | .agg l, h => by simp [A.forget, jh l h]
 | .tup l, h => by simp [A.forget, jh l h]
 | .dead, _ | .und, _ | .val _ _, _ | .nils, _ | .nilp, _ | .elp _ _ _ _ _, _ | .fn _, _ => rfl
theorem jh {i : Nat} : ∀ (l : List A), i ∉ zt l → yT i l = l
 | [], _ => rfl
 | a :: r, h => by
  simp only [zt, List.mem_append, not_or] at h
  simp [yT, A.forget_none a h.1, jh r h.2]
end
theorem Ob.forget_none {i : Nat} (x : Ob) (h : i ∉ x.ids) : x.forget i = x := by
 cases x with
 | box cs => simp [Ob.forget, jh cs h]
 | root _ _ _ _ => rfl
 | deep _ _ _ _ _ => rfl
 | gone => rfl
end Go.Proofs.YtmapoakbdgpamaaGreat.R
