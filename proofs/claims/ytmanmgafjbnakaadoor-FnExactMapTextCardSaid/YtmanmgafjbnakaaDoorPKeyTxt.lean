/- The texts of keys: there, and alike on both sides. No condition. -/
import Derived.Test.YtmanmgafjbnakaaDoorPNum
import Derived.Lib.ItoaLen
namespace Go.Proofs.YtmanmgafjbnakaaDoor.Pl
open Go.Proofs.YtmanmgafjbnakaaDoor.R Go.Proofs.YtmanmgafjbnakaaDoor.XN
set_option linter.unusedVariables false
set_option linter.unusedSimpArgs false

theorem itoaB_size (x : Int) (h0 : -9223372036854775808 ≤ x) (h1 : x ≤ 9223372036854775807) : (itoaB x).size ≤ 21 := by
  have h : (itoaB x).size = (Lib.itoa x).length := by simp [itoaB, ByteArray.size]
  have := Lib.itoa_length_le x h0 h1
  omega
def i64r (x : Int) : Prop := -9223372036854775808 ≤ x ∧ x ≤ 9223372036854775807
theorem KeyText_ok (a b c d e : Int) (ha : i64r a) (hb : i64r b) (hd : i64r d) : ∃ s, F_spec_KeyText (a, b, c, d, e) = some s ∧ F_impl_KeyText (a, b, c, d, e) = some s := by
  have l46 : (ByteArray.mk #[46]).size = 1 := rfl
  have l61 : (ByteArray.mk #[61]).size = 1 := rfl
  have l45 : (ByteArray.mk #[45]).size = 1 := rfl
  have l63 : (ByteArray.mk #[63]).size = 1 := rfl
  unfold F_spec_KeyText F_impl_KeyText
  simp only [NumText_eq a ha.1 ha.2, implNum_eq a ha.1 ha.2, NumText_eq b hb.1 hb.2, implNum_eq b hb.1 hb.2, NumText_eq d hd.1 hd.2, implNum_eq d hd.1 hd.2, Option.bind_some]
  have sa := itoaB_size a ha.1 ha.2
  have sb := itoaB_size b hb.1 hb.2
  have sd := itoaB_size d hd.1 hd.2
  generalize itoaB a = A at sa ⊢
  generalize itoaB b = B at sb ⊢
  generalize itoaB d = D at sd ⊢
  simp only [Bool.cond_eq_ite, beq_iff_eq, ByteArray.size_append, l46, l61, l45, l63]
  rw [if_pos (by omega), if_pos (by omega)]
  by_cases h1 : c = 1
  · rw [if_pos h1, if_pos (by omega), if_pos (by omega)]
    exact ⟨_, rfl, rfl⟩
  · rw [if_neg h1]
    by_cases h2 : c = 2
    · rw [if_pos h2, if_pos (by omega)]
      exact ⟨_, rfl, rfl⟩
    · rw [if_neg h2, if_pos (by omega)]
      exact ⟨_, rfl, rfl⟩
end Go.Proofs.YtmanmgafjbnakaaDoor.Pl
