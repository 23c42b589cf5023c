/- An entry out of bytes, both sides. No condition. -/
import Derived.Test.YtmanmgafjbnakaaPRead
namespace Go.Proofs.Ytmanmgafjbnakaa.Pl
open Go.Proofs.Ytmanmgafjbnakaa.R Go.Proofs.Ytmanmgafjbnakaa.XT
set_option linter.unusedVariables false
set_option linter.unusedSimpArgs false

/-! ### An operation out of bytes -/
def oT1 (l : List Int) (i : Int) := getT l (i + 1)
def oT2 (l : List Int) (i : Int) := getT l (oT1 l i).2.1
def oW1 (l : List Int) (i : Int) := getW l (oT2 l i).2.1
def oW2 (l : List Int) (i : Int) := getW l (oW1 l i).2.1
def opv (l : List Int) (i : Int) : Int × ByteArray × ByteArray × Int × Int × Int := (by_ l i, (oT1 l i).1, (oT2 l i).1, (oW1 l i).1, (oW2 l i).1, (oW2 l i).2.1)
def opv0 : Int × ByteArray × ByteArray × Int × Int × Int := (0, noB, noB, 0, 0, 0)
def opk (l : List Int) (i : Int) : Bool :=
  decide (i < l.length) && (oT1 l i).2.2 && (oT2 l i).2.2 && (oW1 l i).2.2 && (oW2 l i).2.2 && opOk (by_ l i) (oT1 l i).1 (oT2 l i).1 (oW1 l i).1 (oW2 l i).1
theorem getW_next (l : List Int) (i : Int) : 0 ≤ (getW l i).2.1 ∧ (getW l i).2.1 ≤ l.length := by
  unfold getW
  split
  · rename_i h
    exact ⟨by simp only; omega, h.2⟩
  · simp only
    omega
theorem size60 {s : ByteArray} (h : s.size ≤ 60) : s.size ≤ maxLen := by
  simp only [maxLen]
  omega
theorem spec_GetOp_eq (l : List Int) (i : Int) (hb : isBytes l) (hl : l.length ≤ 1099511627776) (h0 : 0 ≤ i) (h1 : i ≤ 2199023255552) : F_spec_GetOp (l, i) = some (if opk l i then ((opv l i).1, (opv l i).2.1, (opv l i).2.2.1, (opv l i).2.2.2.1, (opv l i).2.2.2.2.1, (opv l i).2.2.2.2.2, true) else (0, noB, noB, 0, 0, 0, false)) := by
  have n1 := getT_next l (i + 1) hb
  have n2 := getT_next l (oT1 l i).2.1 hb
  have n3 := getW_next l (oT2 l i).2.1
  have e1 : F_spec_GetText (l, i + 1) = some (oT1 l i) := spec_GetText_eq l (i + 1) hb hl (by omega) (by omega)
  have e2 : F_spec_GetText (l, (oT1 l i).2.1) = some (oT2 l i) := spec_GetText_eq l _ hb hl (by unfold oT1; omega) (by unfold oT1; omega)
  have e3 : F_spec_GetW (l, (oT2 l i).2.1) = some (oW1 l i) := spec_GetW_eq l _ hb hl (by unfold oT2; omega) (by unfold oT2; omega)
  have e4 : F_spec_GetW (l, (oW1 l i).2.1) = some (oW2 l i) := spec_GetW_eq l _ hb hl (by unfold oW1; omega) (by unfold oW1; omega)
  have s1 : (oT1 l i).1.size ≤ maxLen := size60 (getT_size l (i + 1) hb)
  have s2 : (oT2 l i).1.size ≤ maxLen := size60 (getT_size l _ hb)
  unfold F_spec_GetOp opk opv
  simp only [l1In_eq, Option.bind_some, Bool.cond_eq_ite, rd_by, w64_by hb]
  rw [w64 (n := (l.length : Int) - 1) (by omega) (by omega), w64 (n := i + 1) (by omega) (by omega)]
  by_cases hi : i < l.length
  · have hin : inR i 0 ((l.length : Int) - 1) = true := inR_iff.2 ⟨h0, by omega⟩
    rw [hin, if_neg (by simp), if_pos h0, if_pos hi, e1, Option.bind_some, e2, Option.bind_some, e3, Option.bind_some, e4]
    simp only [Option.bind_some, spec_OpOk_eq _ _ _ _ _ s1 s2, hi, decide_true, Bool.true_and]
    generalize opOk (by_ l i) (oT1 l i).1 (oT2 l i).1 (oW1 l i).1 (oW2 l i).1 = b0
    cases (oT1 l i).2.2 <;> cases (oT2 l i).2.2 <;> cases (oW1 l i).2.2 <;> cases (oW2 l i).2.2 <;> cases b0 <;> rfl
  · have hin : inR i 0 ((l.length : Int) - 1) = false := by
      cases hc : inR i 0 ((l.length : Int) - 1) with
      | false => rfl
      | true => exact absurd (inR_iff.1 hc).2 (by omega)
    rw [hin, if_pos (by simp)]
    simp only [hi, decide_false, Bool.false_and]
    rfl
theorem bad_tail (l : List Int) (a : Int) (hb : isBytes l) (hl : l.length ≤ 1099511627776) (h0 : 0 ≤ a) (h1 : a ≤ 2199023255552) :
    F_impl_reader_text (l, a, true) = some (noB, l, a, true) ∧ F_impl_reader_word (l, a, true) = some (0, l, a, true) := by
  constructor
  · rw [text_eq l a true hb hl h0 h1]
    simp
  · rw [word_eq l a true hb hl h0 h1]
    simp
def opBad (l : List Int) (a : Int) : Int × ByteArray × ByteArray × Int × Int × List Int × Int × Bool := (0, noB, noB, 0, 0, l, a, true)
theorem impl_op_bad (l : List Int) (i : Int) (hb : isBytes l) (hl : l.length ≤ 1099511627776) (h0 : 0 ≤ i) (h1 : i ≤ 2199023255552) : F_impl_reader_op (l, i, true) = some (opBad l i) := by
  obtain ⟨t, w⟩ := bad_tail l i hb hl h0 h1
  unfold F_impl_reader_op opBad
  rw [one_eq l i true hb hl h0 h1]
  simp only [Option.bind_some, Bool.cond_eq_ite, t, w, if_true, if_false, false_and, Bool.true_eq_false]
  rfl
theorem impl_op_eq (l : List Int) (i : Int) (hb : isBytes l) (hl : l.length ≤ 1099511627776) (h0 : 0 ≤ i) (h1 : i ≤ 1099511627776) :
    if opk l i then F_impl_reader_op (l, i, false) = some ((opv l i).1, (opv l i).2.1, (opv l i).2.2.1, (opv l i).2.2.2.1, (opv l i).2.2.2.2.1, l, (opv l i).2.2.2.2.2, false)
    else ∃ a : Int, 0 ≤ a ∧ a ≤ 1099511627777 ∧ F_impl_reader_op (l, i, false) = some (opBad l a) := by
  have n1 := getT_next l (i + 1) hb
  have n2 := getT_next l (oT1 l i).2.1 hb
  have n3 := getW_next l (oT2 l i).2.1
  have n4 := getW_next l (oW1 l i).2.1
  have c1 : 0 ≤ (oT1 l i).2.1 ∧ (oT1 l i).2.1 ≤ l.length := n1
  have c2 : 0 ≤ (oT2 l i).2.1 ∧ (oT2 l i).2.1 ≤ l.length := n2
  have c3 : 0 ≤ (oW1 l i).2.1 ∧ (oW1 l i).2.1 ≤ l.length := n3
  have s1 : (oT1 l i).1.size ≤ maxLen := size60 (getT_size l (i + 1) hb)
  have s2 : (oT2 l i).1.size ≤ maxLen := size60 (getT_size l _ hb)
  have d0 := one_eq l i false hb hl h0 (by omega)
  have d1 : F_impl_reader_text (l, i + 1, false) = some (if false = false ∧ (oT1 l i).2.2 = true then ((oT1 l i).1, l, (oT1 l i).2.1, false) else (noB, l, i + 1, true)) := text_eq l (i + 1) false hb hl (by omega) (by omega)
  have d2 : F_impl_reader_text (l, (oT1 l i).2.1, false) = some (if false = false ∧ (oT2 l i).2.2 = true then ((oT2 l i).1, l, (oT2 l i).2.1, false) else (noB, l, (oT1 l i).2.1, true)) := text_eq l _ false hb hl (by omega) (by omega)
  have wq : ∀ (j : Int), 0 ≤ j → j ≤ 2199023255552 → F_impl_reader_word (l, j, false) = some (if (getW l j).2.2 = true then ((getW l j).1, l, (getW l j).2.1, false) else (0, l, j, true)) := by
    intro j hj0 hj1
    rw [word_eq l j false hb hl hj0 hj1]
    by_cases h : j + 2 ≤ l.length
    · have eW : getW l j = (w2 l j, j + 2, true) := if_pos ⟨hj0, h⟩
      rw [eW]
      simp [h]
    · have eW : getW l j = (0, 0, false) := if_neg (by rintro ⟨_, h2⟩; exact h h2)
      rw [eW]
      simp [h]
  have d3 : F_impl_reader_word (l, (oT2 l i).2.1, false) = some (if (oW1 l i).2.2 = true then ((oW1 l i).1, l, (oW1 l i).2.1, false) else (0, l, (oT2 l i).2.1, true)) := wq _ (by omega) (by omega)
  have d4 : F_impl_reader_word (l, (oW1 l i).2.1, false) = some (if (oW2 l i).2.2 = true then ((oW2 l i).1, l, (oW2 l i).2.1, false) else (0, l, (oW1 l i).2.1, true)) := wq _ (by omega) (by omega)
  unfold opk opv
  by_cases hi : i < l.length
  · simp only [hi, and_self, if_true] at d0
    simp only [true_and] at d1 d2
    cases k1 : (oT1 l i).2.2 with
    | false =>
      obtain ⟨t, w⟩ := bad_tail l (i + 1) hb hl (by omega) (by omega)
      rw [if_neg (by simp)]
      refine ⟨i + 1, by omega, by omega, ?_⟩
      rw [k1] at d1
      unfold F_impl_reader_op
      simp only [d0, d1, t, w, Option.bind_some, Bool.cond_eq_ite, if_true, if_false, Bool.false_eq_true]
      rfl
    | true =>
      rw [k1] at d1
      cases k2 : (oT2 l i).2.2 with
      | false =>
        obtain ⟨t, w⟩ := bad_tail l (oT1 l i).2.1 hb hl (by omega) (by omega)
        rw [if_neg (by simp)]
        refine ⟨(oT1 l i).2.1, by omega, by omega, ?_⟩
        rw [k2] at d2
        unfold F_impl_reader_op
        simp only [d0, d1, d2, t, w, Option.bind_some, Bool.cond_eq_ite, if_true, if_false, Bool.false_eq_true]
        rfl
      | true =>
        rw [k2] at d2
        cases k3 : (oW1 l i).2.2 with
        | false =>
          obtain ⟨t, w⟩ := bad_tail l (oT2 l i).2.1 hb hl (by omega) (by omega)
          rw [if_neg (by simp)]
          refine ⟨(oT2 l i).2.1, by omega, by omega, ?_⟩
          rw [k3] at d3
          unfold F_impl_reader_op
          simp only [d0, d1, d2, d3, t, w, Option.bind_some, Bool.cond_eq_ite, if_true, if_false, Bool.false_eq_true]
          rfl
        | true =>
          rw [k3] at d3
          cases k4 : (oW2 l i).2.2 with
          | false =>
            rw [if_neg (by simp)]
            refine ⟨(oW1 l i).2.1, by omega, by omega, ?_⟩
            rw [k4] at d4
            unfold F_impl_reader_op
            simp only [d0, d1, d2, d3, d4, Option.bind_some, Bool.cond_eq_ite, if_true, if_false, Bool.false_eq_true]
            rfl
          | true =>
            rw [k4] at d4
            have c4 : 0 ≤ (oW2 l i).2.1 ∧ (oW2 l i).2.1 ≤ l.length := n4
            cases k5 : opOk (by_ l i) (oT1 l i).1 (oT2 l i).1 (oW1 l i).1 (oW2 l i).1 with
            | false =>
              rw [if_neg (by simp)]
              refine ⟨(oW2 l i).2.1, by omega, by omega, ?_⟩
              unfold F_impl_reader_op
              simp only [d0, d1, d2, d3, d4, impl_OpOk_eq _ _ _ _ _ s1 s2, k5, Option.bind_some, Bool.cond_eq_ite, if_true, if_false, Bool.false_eq_true]
              rfl
            | true =>
              rw [if_pos (by simp [hi])]
              unfold F_impl_reader_op
              simp only [d0, d1, d2, d3, d4, impl_OpOk_eq _ _ _ _ _ s1 s2, k5, Option.bind_some, Bool.cond_eq_ite, if_true, if_false, Bool.false_eq_true]
              rfl
  · have d0' : F_impl_reader_one (l, i, false) = some (0, l, i, true) := by
      rw [d0, if_neg (by rintro ⟨_, h⟩; exact hi h)]
    obtain ⟨t, w⟩ := bad_tail l i hb hl (by omega) (by omega)
    rw [if_neg (by simp [hi])]
    refine ⟨i, by omega, by omega, ?_⟩
    unfold F_impl_reader_op
    simp only [d0', t, w, Option.bind_some, Bool.cond_eq_ite, if_true, if_false, Bool.false_eq_true]
    rfl
end Go.Proofs.Ytmanmgafjbnakaa.Pl
