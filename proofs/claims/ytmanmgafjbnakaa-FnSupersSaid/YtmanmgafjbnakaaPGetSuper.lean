/- A superblock out of bytes: both sides answer alike, and the law. No condition. -/
import Derived.Test.YtmanmgafjbnakaaPFour
namespace Go.Proofs.Ytmanmgafjbnakaa.Pl
open Go.Proofs.Ytmanmgafjbnakaa.R Go.Proofs.Ytmanmgafjbnakaa.XU
set_option linter.unusedVariables false
set_option linter.unusedSimpArgs false

def supOk (a b c d e : Int) : Bool := inR a 1 60000 && inR b 0 1 && inR c 0 1680 && inR d 0 4294967295 && inR e 1 60000
theorem spec_SuperOk_eq (a b c d e : Int) : F_spec_SuperOk (a, b, c, d, e) = some (supOk a b c d e) := by
  unfold F_spec_SuperOk supOk
  simp only [l1In_eq, Option.bind_some, Bool.cond_eq_ite]
  cases inR a 1 60000 <;> cases inR b 0 1 <;> cases inR c 0 1680 <;> cases inR d 0 4294967295 <;> cases inR e 1 60000 <;> rfl
theorem impl_SuperOk_eq (a b c d e : Int) : F_impl_SuperOk (a, b, c, d, e) = some (supOk a b c d e) := by
  unfold F_impl_SuperOk supOk
  simp only [within_eq, Option.bind_some, Bool.cond_eq_ite]
  cases inR a 1 60000 <;> cases inR b 0 1 <;> cases inR c 0 1680 <;> cases inR d 0 4294967295 <;> cases inR e 1 60000 <;> rfl

/-! ### A step of the reader, whatever its state -/
theorem word_any (l : List Int) (a : Int) (b : Bool) (hb : isBytes l) (hl : l.length ≤ 1099511627776) (h0 : 0 ≤ a) (h1 : a ≤ 1099511627776) : ∃ v a' b', F_impl_reader_word (l, a, b) = some (v, l, a', b') ∧ 0 ≤ a' ∧ a' ≤ a + 2 ∧ (b' = false → b = false ∧ a' = a + 2) := by
  rw [word_eq l a b hb hl h0 (by omega)]
  by_cases h : b = false ∧ a + 2 ≤ l.length
  · rw [if_pos h]
    exact ⟨_, _, _, rfl, by omega, by omega, fun _ => ⟨h.1, rfl⟩⟩
  · rw [if_neg h]
    exact ⟨_, _, _, rfl, by omega, by omega, by simp⟩
theorem one_any (l : List Int) (a : Int) (b : Bool) (hb : isBytes l) (hl : l.length ≤ 1099511627776) (h0 : 0 ≤ a) (h1 : a ≤ 1099511627776) : ∃ v a' b', F_impl_reader_one (l, a, b) = some (v, l, a', b') ∧ 0 ≤ a' ∧ a' ≤ a + 1 ∧ (b' = false → b = false ∧ a' = a + 1) := by
  rw [one_eq l a b hb hl h0 (by omega)]
  by_cases h : b = false ∧ a < l.length
  · rw [if_pos h]
    exact ⟨_, _, _, rfl, by omega, by omega, fun _ => ⟨h.1, rfl⟩⟩
  · rw [if_neg h]
    exact ⟨_, _, _, rfl, by omega, by omega, by simp⟩
theorem four_any (l : List Int) (a : Int) (b : Bool) (hb : isBytes l) (hl : l.length ≤ 1099511627776) (h0 : 0 ≤ a) (h1 : a ≤ 1000000000000) : ∃ v a' b', F_impl_reader_four (l, a, b) = some (v, l, a', b') ∧ 0 ≤ a' ∧ a' ≤ a + 4 ∧ (b' = false → b = false ∧ a' = a + 4) := by
  obtain ⟨v1, a1, b1, e1, p1, q1, r1⟩ := word_any l a b hb hl h0 (by omega)
  obtain ⟨v2, a2, b2, e2, p2, q2, r2⟩ := word_any l a1 b1 hb hl p1 (by omega)
  unfold F_impl_reader_four
  rw [e1]
  simp only [Option.bind_some]
  rw [e2]
  simp only [Option.bind_some]
  refine ⟨_, _, _, rfl, p2, by omega, fun h => ?_⟩
  have h2 := r2 h
  have h1 := r1 h2.1
  exact ⟨h1.1, by omega⟩

def supC (l : List Int) : Prop := l.length = 15 ∧ get4 l 11 = crc (l.take 11) ∧ supOk (w2 l 0) (by_ l 2) (w2 l 3) (get4 l 5) (w2 l 9) = true
noncomputable instance (l : List Int) : Decidable (supC l) := Classical.propDecidable _
noncomputable def supR (l : List Int) : Int × Int × Int × Int × Int × Bool := if supC l then (w2 l 0, by_ l 2, w2 l 3, get4 l 5, w2 l 9, true) else (0, 0, 0, 0, 0, false)
theorem spec_GetSuper_eq (l : List Int) (hb : isBytes l) (hl : l.length ≤ 1073741824) : F_spec_GetSuper l = some (supR l) := by
  have hl' : l.length ≤ 1099511627776 := by omega
  unfold F_spec_GetSuper
  simp only [Bool.cond_eq_ite]
  by_cases h : l.length = 15
  · have hne : (((l.length : Nat) : Int) != (15 : Int)) = false := by simp [h]
    have p1 : (11 : Int) ≤ (l.length : Int) := by omega
    have p2 : (2 : Int) < (l.length : Int) := by omega
    have hbt := isBytes_take hb 11
    have hlt : (l.take 11).length ≤ 1099511627776 := by simp; omega
    have e11 : Int.toNat 11 = 11 := rfl
    have gw : ∀ i : Int, 0 ≤ i → i + 2 ≤ 15 → F_spec_GetW (l, i) = some (w2 l i, i + 2, true) := by
      intro i h0 h1
      rw [spec_GetW_eq l i hb hl' (by omega) (by omega)]
      unfold getW
      rw [if_pos ⟨h0, by omega⟩]
    rw [hne, l17Get_eq l 11 hb hl' (by omega) (by omega)]
    simp only [Bool.false_eq_true, if_false, Option.bind_some, Int.le_refl, if_true, p1, p2, show (0 : Int) ≤ 11 by decide, show (0 : Int) ≤ 2 by decide, e11, Int.toNat_zero, List.drop_zero, spec_Crc_eq _ hbt hlt]
    rw [gw 0 (by omega) (by omega), gw 3 (by omega) (by omega), gw 9 (by omega) (by omega), l17Get_eq l 5 hb hl' (by omega) (by omega)]
    simp only [Option.bind_some, rd_by, w64_by hb, spec_SuperOk_eq]
    unfold supR
    by_cases hc : get4 l 11 = crc (l.take 11)
    · cases hs : supOk (w2 l 0) (by_ l 2) (w2 l 3) (get4 l 5) (w2 l 9) with
      | true =>
        have hC : supC l := ⟨h, hc, hs⟩
        rw [if_pos hC, hc]
        simp
      | false =>
        have hC : ¬ supC l := fun hh => by rw [hh.2.2] at hs; exact absurd hs (by simp)
        rw [if_neg hC]
        simp
    · have hC : ¬ supC l := fun hh => hc hh.2.1
      have hcb : (get4 l 11 != crc (l.take 11)) = true := by simpa using hc
      rw [if_neg hC, hcb]
      simp
  · have hne : (((l.length : Nat) : Int) != (15 : Int)) = true := by
      simp
      omega
    have hC : ¬ supC l := fun hh => h hh.1
    unfold supR
    rw [hne, if_neg hC]
    rfl
theorem impl_GetSuper_eq (l : List Int) (hb : isBytes l) (hl : l.length ≤ 1073741824) : F_impl_GetSuper l = some (supR l) := by
  have hl' : l.length ≤ 1099511627776 := by omega
  by_cases h : l.length = 15
  · have gw : ∀ i : Int, 0 ≤ i → i + 2 ≤ 15 → F_impl_reader_word (l, i, false) = some (w2 l i, l, i + 2, false) := by
      intro i h0 h1
      rw [word_eq l i false hb hl' h0 (by omega), if_pos ⟨rfl, by omega⟩]
    have g1 : F_impl_reader_one (l, 2, false) = some (by_ l 2, l, 3, false) := by
      rw [one_eq l 2 false hb hl' (by omega) (by omega), if_pos ⟨rfl, by omega⟩]
      rfl
    have g4 : ∀ i : Int, 0 ≤ i → i + 4 ≤ 15 → F_impl_reader_four (l, i, false) = some (get4 l i, l, i + 4, false) := fun i h0 h1 => four_eq l i hb hl' h0 (by omega)
    have s1 : F_impl_reader_word (l, 0, false) = some (w2 l 0, l, 2, false) := gw 0 (by omega) (by omega)
    have s3 : F_impl_reader_word (l, 3, false) = some (w2 l 3, l, 5, false) := gw 3 (by omega) (by omega)
    have s4 : F_impl_reader_four (l, 5, false) = some (get4 l 5, l, 9, false) := g4 5 (by omega) (by omega)
    have s5 : F_impl_reader_word (l, 9, false) = some (w2 l 9, l, 11, false) := gw 9 (by omega) (by omega)
    have s6 : F_impl_reader_four (l, 11, false) = some (get4 l 11, l, 15, false) := g4 11 (by omega) (by omega)
    have p1 : (11 : Int) ≤ (l.length : Int) := by omega
    have hbt := isBytes_take hb 11
    have hlt : (l.take 11).length ≤ 1099511627776 := by simp; omega
    have e11 : Int.toNat 11 = 11 := rfl
    have hd : ((15 : Int) == (l.length : Int)) = true := by simp [h]
    unfold F_impl_GetSuper
    rw [s1]
    simp only [Option.bind_some]
    rw [g1]
    simp only [Option.bind_some]
    rw [s3]
    simp only [Option.bind_some]
    rw [s4]
    simp only [Option.bind_some]
    rw [s5]
    simp only [Option.bind_some]
    rw [s6]
    simp only [Option.bind_some, done_eq, impl_SuperOk_eq, Bool.cond_eq_ite, hd, Bool.not_false, Bool.true_and, Bool.not_true, Bool.false_eq_true, if_false, Int.le_refl, if_true, p1, show (0 : Int) ≤ 11 by decide, e11, Int.toNat_zero, List.drop_zero, impl_Crc_eq _ hbt hlt]
    unfold supR
    cases hs : supOk (w2 l 0) (by_ l 2) (w2 l 3) (get4 l 5) (w2 l 9) with
    | true =>
      by_cases hc : get4 l 11 = crc (l.take 11)
      · have hC : supC l := ⟨h, hc, hs⟩
        rw [if_pos hC, hc]
        simp
      · have hC : ¬ supC l := fun hh => hc hh.2.1
        have hcb : (get4 l 11 != crc (l.take 11)) = true := by simpa using hc
        rw [if_neg hC, hcb]
        simp
    | false =>
      have hC : ¬ supC l := fun hh => by rw [hh.2.2] at hs; exact absurd hs (by simp)
      rw [if_neg hC]
      simp
  · have hC : ¬ supC l := fun hh => h hh.1
    obtain ⟨v1, a1, b1, e1, p1, q1, r1⟩ := word_any l 0 false hb hl' (by omega) (by omega)
    obtain ⟨v2, a2, b2, e2, p2, q2, r2⟩ := one_any l a1 b1 hb hl' p1 (by omega)
    obtain ⟨v3, a3, b3, e3, p3, q3, r3⟩ := word_any l a2 b2 hb hl' p2 (by omega)
    obtain ⟨v4, a4, b4, e4, p4, q4, r4⟩ := four_any l a3 b3 hb hl' p3 (by omega)
    obtain ⟨v5, a5, b5, e5, p5, q5, r5⟩ := word_any l a4 b4 hb hl' p4 (by omega)
    obtain ⟨v6, a6, b6, e6, p6, q6, r6⟩ := four_any l a5 b5 hb hl' p5 (by omega)
    have hd : (!b6 && (a6 == (l.length : Int))) = false := by
      cases hb6 : b6 with
      | true => rfl
      | false =>
        have h6 := r6 hb6
        have h5 := r5 h6.1
        have h4 := r4 h5.1
        have h3 := r3 h4.1
        have h2 := r2 h3.1
        have h1 := r1 h2.1
        have : a6 ≠ (l.length : Int) := by omega
        simpa using this
    unfold F_impl_GetSuper supR
    rw [e1, if_neg hC]
    simp only [Option.bind_some]
    rw [e2]
    simp only [Option.bind_some]
    rw [e3]
    simp only [Option.bind_some]
    rw [e4]
    simp only [Option.bind_some]
    rw [e5]
    simp only [Option.bind_some]
    rw [e6]
    simp only [Option.bind_some, done_eq, hd]
    rfl
end Go.Proofs.Ytmanmgafjbnakaa.Pl
