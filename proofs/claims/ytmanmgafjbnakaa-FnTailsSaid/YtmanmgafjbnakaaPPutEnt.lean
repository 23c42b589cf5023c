/- GetEnt, GetEnt2, GetEnt3, PutEnt. No condition. -/
import Derived.Test.YtmanmgafjbnakaaPEntDraw
/- An entry out of bytes, both sides. No condition. -/
namespace Go.Proofs.Ytmanmgafjbnakaa.Pl
open Go.Proofs.Ytmanmgafjbnakaa.R Go.Proofs.Ytmanmgafjbnakaa.XV
set_option linter.unusedVariables false
set_option linter.unusedSimpArgs false

/-! ### An operation out of bytes -/
def oT1 (l : List Int) (i : Int) := getT l (i + 1)
def oT2 (l : List Int) (i : Int) := getT l (oT1 l i).2.1
def oW1 (l : List Int) (i : Int) := getW l (oT2 l i).2.1
def oW2 (l : List Int) (i : Int) := getW l (oW1 l i).2.1
def opv (l : List Int) (i : Int) : Int × ByteArray × ByteArray × Int × Int × Int := (by_ l i, (oT1 l i).1, (oT2 l i).1, (oW1 l i).1, (oW2 l i).1, (oW2 l i).2.1)
def opv0 : Int × ByteArray × ByteArray × Int × Int × Int := (0, noB, noB, 0, 0, 0)
def opk (l : List Int) (i : Int) : Bool :=
  decide (i < l.length) && (oT1 l i).2.2 && (oT2 l i).2.2 && (oW1 l i).2.2 && (oW2 l i).2.2 && opOk (by_ l i) (oT1 l i).1 (oT2 l i).1 (oW1 l i).1 (oW2 l i).1
theorem getW_next (l : List Int) (i : Int) : 0 ≤ (getW l i).2.1 ∧ (getW l i).2.1 ≤ l.length := by
  unfold getW
  split
  · rename_i h
    exact ⟨by simp only; omega, h.2⟩
  · simp only
    omega
theorem size60 {s : ByteArray} (h : s.size ≤ 60) : s.size ≤ maxLen := by
  simp only [maxLen]
  omega
theorem spec_GetOp_eq (l : List Int) (i : Int) (hb : isBytes l) (hl : l.length ≤ 1099511627776) (h0 : 0 ≤ i) (h1 : i ≤ 2199023255552) : F_spec_GetOp (l, i) = some (if opk l i then ((opv l i).1, (opv l i).2.1, (opv l i).2.2.1, (opv l i).2.2.2.1, (opv l i).2.2.2.2.1, (opv l i).2.2.2.2.2, true) else (0, noB, noB, 0, 0, 0, false)) := by
  have n1 := getT_next l (i + 1) hb
  have n2 := getT_next l (oT1 l i).2.1 hb
  have n3 := getW_next l (oT2 l i).2.1
  have e1 : F_spec_GetText (l, i + 1) = some (oT1 l i) := spec_GetText_eq l (i + 1) hb hl (by omega) (by omega)
  have e2 : F_spec_GetText (l, (oT1 l i).2.1) = some (oT2 l i) := spec_GetText_eq l _ hb hl (by unfold oT1; omega) (by unfold oT1; omega)
  have e3 : F_spec_GetW (l, (oT2 l i).2.1) = some (oW1 l i) := spec_GetW_eq l _ hb hl (by unfold oT2; omega) (by unfold oT2; omega)
  have e4 : F_spec_GetW (l, (oW1 l i).2.1) = some (oW2 l i) := spec_GetW_eq l _ hb hl (by unfold oW1; omega) (by unfold oW1; omega)
  have s1 : (oT1 l i).1.size ≤ maxLen := size60 (getT_size l (i + 1) hb)
  have s2 : (oT2 l i).1.size ≤ maxLen := size60 (getT_size l _ hb)
  unfold F_spec_GetOp opk opv
  simp only [l1In_eq, Option.bind_some, Bool.cond_eq_ite, rd_by, w64_by hb]
  rw [w64 (n := (l.length : Int) - 1) (by omega) (by omega), w64 (n := i + 1) (by omega) (by omega)]
  by_cases hi : i < l.length
  · have hin : inR i 0 ((l.length : Int) - 1) = true := inR_iff.2 ⟨h0, by omega⟩
    rw [hin, if_neg (by simp), if_pos h0, if_pos hi, e1, Option.bind_some, e2, Option.bind_some, e3, Option.bind_some, e4]
    simp only [Option.bind_some, spec_OpOk_eq _ _ _ _ _ s1 s2, hi, decide_true, Bool.true_and]
    generalize opOk (by_ l i) (oT1 l i).1 (oT2 l i).1 (oW1 l i).1 (oW2 l i).1 = b0
    cases (oT1 l i).2.2 <;> cases (oT2 l i).2.2 <;> cases (oW1 l i).2.2 <;> cases (oW2 l i).2.2 <;> cases b0 <;> rfl
  · have hin : inR i 0 ((l.length : Int) - 1) = false := by
      cases hc : inR i 0 ((l.length : Int) - 1) with
      | false => rfl
      | true => exact absurd (inR_iff.1 hc).2 (by omega)
    rw [hin, if_pos (by simp)]
    simp only [hi, decide_false, Bool.false_and]
    rfl
theorem bad_tail (l : List Int) (a : Int) (hb : isBytes l) (hl : l.length ≤ 1099511627776) (h0 : 0 ≤ a) (h1 : a ≤ 2199023255552) :
    F_impl_reader_text (l, a, true) = some (noB, l, a, true) ∧ F_impl_reader_word (l, a, true) = some (0, l, a, true) := by
  constructor
  · rw [text_eq l a true hb hl h0 h1]
    simp
  · rw [word_eq l a true hb hl h0 h1]
    simp
def opBad (l : List Int) (a : Int) : Int × ByteArray × ByteArray × Int × Int × List Int × Int × Bool := (0, noB, noB, 0, 0, l, a, true)
theorem impl_op_bad (l : List Int) (i : Int) (hb : isBytes l) (hl : l.length ≤ 1099511627776) (h0 : 0 ≤ i) (h1 : i ≤ 2199023255552) : F_impl_reader_op (l, i, true) = some (opBad l i) := by
  obtain ⟨t, w⟩ := bad_tail l i hb hl h0 h1
  unfold F_impl_reader_op opBad
  rw [one_eq l i true hb hl h0 h1]
  simp only [Option.bind_some, Bool.cond_eq_ite, t, w, if_true, if_false, false_and, Bool.true_eq_false]
  rfl
theorem impl_op_eq (l : List Int) (i : Int) (hb : isBytes l) (hl : l.length ≤ 1099511627776) (h0 : 0 ≤ i) (h1 : i ≤ 1099511627776) :
    if opk l i then F_impl_reader_op (l, i, false) = some ((opv l i).1, (opv l i).2.1, (opv l i).2.2.1, (opv l i).2.2.2.1, (opv l i).2.2.2.2.1, l, (opv l i).2.2.2.2.2, false)
    else ∃ a : Int, 0 ≤ a ∧ a ≤ 1099511627777 ∧ F_impl_reader_op (l, i, false) = some (opBad l a) := by
  have n1 := getT_next l (i + 1) hb
  have n2 := getT_next l (oT1 l i).2.1 hb
  have n3 := getW_next l (oT2 l i).2.1
  have n4 := getW_next l (oW1 l i).2.1
  have c1 : 0 ≤ (oT1 l i).2.1 ∧ (oT1 l i).2.1 ≤ l.length := n1
  have c2 : 0 ≤ (oT2 l i).2.1 ∧ (oT2 l i).2.1 ≤ l.length := n2
  have c3 : 0 ≤ (oW1 l i).2.1 ∧ (oW1 l i).2.1 ≤ l.length := n3
  have s1 : (oT1 l i).1.size ≤ maxLen := size60 (getT_size l (i + 1) hb)
  have s2 : (oT2 l i).1.size ≤ maxLen := size60 (getT_size l _ hb)
  have d0 := one_eq l i false hb hl h0 (by omega)
  have d1 : F_impl_reader_text (l, i + 1, false) = some (if false = false ∧ (oT1 l i).2.2 = true then ((oT1 l i).1, l, (oT1 l i).2.1, false) else (noB, l, i + 1, true)) := text_eq l (i + 1) false hb hl (by omega) (by omega)
  have d2 : F_impl_reader_text (l, (oT1 l i).2.1, false) = some (if false = false ∧ (oT2 l i).2.2 = true then ((oT2 l i).1, l, (oT2 l i).2.1, false) else (noB, l, (oT1 l i).2.1, true)) := text_eq l _ false hb hl (by omega) (by omega)
  have wq : ∀ (j : Int), 0 ≤ j → j ≤ 2199023255552 → F_impl_reader_word (l, j, false) = some (if (getW l j).2.2 = true then ((getW l j).1, l, (getW l j).2.1, false) else (0, l, j, true)) := by
    intro j hj0 hj1
    rw [word_eq l j false hb hl hj0 hj1]
    by_cases h : j + 2 ≤ l.length
    · have eW : getW l j = (w2 l j, j + 2, true) := if_pos ⟨hj0, h⟩
      rw [eW]
      simp [h]
    · have eW : getW l j = (0, 0, false) := if_neg (by rintro ⟨_, h2⟩; exact h h2)
      rw [eW]
      simp [h]
  have d3 : F_impl_reader_word (l, (oT2 l i).2.1, false) = some (if (oW1 l i).2.2 = true then ((oW1 l i).1, l, (oW1 l i).2.1, false) else (0, l, (oT2 l i).2.1, true)) := wq _ (by omega) (by omega)
  have d4 : F_impl_reader_word (l, (oW1 l i).2.1, false) = some (if (oW2 l i).2.2 = true then ((oW2 l i).1, l, (oW2 l i).2.1, false) else (0, l, (oW1 l i).2.1, true)) := wq _ (by omega) (by omega)
  unfold opk opv
  by_cases hi : i < l.length
  · simp only [hi, and_self, if_true] at d0
    simp only [true_and] at d1 d2
    cases k1 : (oT1 l i).2.2 with
    | false =>
      obtain ⟨t, w⟩ := bad_tail l (i + 1) hb hl (by omega) (by omega)
      rw [if_neg (by simp)]
      refine ⟨i + 1, by omega, by omega, ?_⟩
      rw [k1] at d1
      unfold F_impl_reader_op
      simp only [d0, d1, t, w, Option.bind_some, Bool.cond_eq_ite, if_true, if_false, Bool.false_eq_true]
      rfl
    | true =>
      rw [k1] at d1
      cases k2 : (oT2 l i).2.2 with
      | false =>
        obtain ⟨t, w⟩ := bad_tail l (oT1 l i).2.1 hb hl (by omega) (by omega)
        rw [if_neg (by simp)]
        refine ⟨(oT1 l i).2.1, by omega, by omega, ?_⟩
        rw [k2] at d2
        unfold F_impl_reader_op
        simp only [d0, d1, d2, t, w, Option.bind_some, Bool.cond_eq_ite, if_true, if_false, Bool.false_eq_true]
        rfl
      | true =>
        rw [k2] at d2
        cases k3 : (oW1 l i).2.2 with
        | false =>
          obtain ⟨t, w⟩ := bad_tail l (oT2 l i).2.1 hb hl (by omega) (by omega)
          rw [if_neg (by simp)]
          refine ⟨(oT2 l i).2.1, by omega, by omega, ?_⟩
          rw [k3] at d3
          unfold F_impl_reader_op
          simp only [d0, d1, d2, d3, t, w, Option.bind_some, Bool.cond_eq_ite, if_true, if_false, Bool.false_eq_true]
          rfl
        | true =>
          rw [k3] at d3
          cases k4 : (oW2 l i).2.2 with
          | false =>
            rw [if_neg (by simp)]
            refine ⟨(oW1 l i).2.1, by omega, by omega, ?_⟩
            rw [k4] at d4
            unfold F_impl_reader_op
            simp only [d0, d1, d2, d3, d4, Option.bind_some, Bool.cond_eq_ite, if_true, if_false, Bool.false_eq_true]
            rfl
          | true =>
            rw [k4] at d4
            have c4 : 0 ≤ (oW2 l i).2.1 ∧ (oW2 l i).2.1 ≤ l.length := n4
            cases k5 : opOk (by_ l i) (oT1 l i).1 (oT2 l i).1 (oW1 l i).1 (oW2 l i).1 with
            | false =>
              rw [if_neg (by simp)]
              refine ⟨(oW2 l i).2.1, by omega, by omega, ?_⟩
              unfold F_impl_reader_op
              simp only [d0, d1, d2, d3, d4, impl_OpOk_eq _ _ _ _ _ s1 s2, k5, Option.bind_some, Bool.cond_eq_ite, if_true, if_false, Bool.false_eq_true]
              rfl
            | true =>
              rw [if_pos (by simp [hi])]
              unfold F_impl_reader_op
              simp only [d0, d1, d2, d3, d4, impl_OpOk_eq _ _ _ _ _ s1 s2, k5, Option.bind_some, Bool.cond_eq_ite, if_true, if_false, Bool.false_eq_true]
              rfl
  · have d0' : F_impl_reader_one (l, i, false) = some (0, l, i, true) := by
      rw [d0, if_neg (by rintro ⟨_, h⟩; exact hi h)]
    obtain ⟨t, w⟩ := bad_tail l i hb hl (by omega) (by omega)
    rw [if_neg (by simp [hi])]
    refine ⟨i, by omega, by omega, ?_⟩
    unfold F_impl_reader_op
    simp only [d0', t, w, Option.bind_some, Bool.cond_eq_ite, if_true, if_false, Bool.false_eq_true]
    rfl
end Go.Proofs.Ytmanmgafjbnakaa.Pl

/- An entry out of bytes: a shorter list. No condition. -/
namespace Go.Proofs.Ytmanmgafjbnakaa.Pl
open Go.Proofs.Ytmanmgafjbnakaa.R Go.Proofs.Ytmanmgafjbnakaa.XV
set_option linter.unusedVariables false
set_option linter.unusedSimpArgs false

/-! ### A shorter list -/
theorem w2_take {l : List Int} {n : Nat} {i : Int} (h0 : 0 ≤ i) (hi : i + 2 ≤ n) : w2 (l.take n) i = w2 l i := by
  unfold w2
  rw [by_take (by omega), by_take (by omega)]
theorem getW_take {l : List Int} {n : Nat} (hn : n ≤ l.length) (i : Int) : ((getW (l.take n) i).2.2 = true → getW l i = getW (l.take n) i ∧ (getW (l.take n) i).2.1 ≤ n) ∧ ((getW l i).2.2 = true → (getW l i).2.1 ≤ n → getW (l.take n) i = getW l i) := by
  have hlen : (l.take n).length = n := by simp; omega
  constructor
  · intro h
    by_cases hc : 0 ≤ i ∧ i + 2 ≤ (l.take n).length
    · have e1 : getW (l.take n) i = (w2 (l.take n) i, i + 2, true) := if_pos hc
      rw [hlen] at hc
      have e2 : getW l i = (w2 l i, i + 2, true) := if_pos ⟨hc.1, by omega⟩
      rw [e1, e2, w2_take hc.1 hc.2]
      exact ⟨rfl, hc.2⟩
    · have e1 : getW (l.take n) i = (0, 0, false) := if_neg hc
      rw [e1] at h
      exact absurd h (by simp)
  · intro h hle
    by_cases hc : 0 ≤ i ∧ i + 2 ≤ l.length
    · have e2 : getW l i = (w2 l i, i + 2, true) := if_pos hc
      rw [e2] at hle
      simp only at hle
      have e1 : getW (l.take n) i = (w2 (l.take n) i, i + 2, true) := if_pos ⟨hc.1, by rw [hlen]; exact hle⟩
      rw [e1, e2, w2_take hc.1 hle]
    · have e2 : getW l i = (0, 0, false) := if_neg hc
      rw [e2] at h
      exact absurd h (by simp)
theorem getT_take {l : List Int} {n : Nat} (hb : isBytes l) (hn : n ≤ l.length) (i : Int) : ((getT (l.take n) i).2.2 = true → getT l i = getT (l.take n) i ∧ (getT (l.take n) i).2.1 ≤ n) ∧ ((getT l i).2.2 = true → (getT l i).2.1 ≤ n → getT (l.take n) i = getT l i) := by
  have hlen : (l.take n).length = n := by simp; omega
  have hr := w2_range hb i
  have same : 0 ≤ i → i + 2 + w2 l i ≤ n → (l.take n).take (i + 2 + w2 l i).toNat = l.take (i + 2 + w2 l i).toNat := by
    intro h0 h
    rw [List.take_take, Nat.min_eq_left (by omega)]
  constructor
  · intro h
    by_cases hc : 0 ≤ i ∧ i + 2 ≤ (l.take n).length ∧ w2 (l.take n) i ≤ 60 ∧ i + 2 + w2 (l.take n) i ≤ (l.take n).length
    · have e1 : getT (l.take n) i = (textOf (((l.take n).take (i + 2 + w2 (l.take n) i).toNat).drop (i + 2).toNat), i + 2 + w2 (l.take n) i, true) := if_pos hc
      rw [hlen] at hc
      have ew : w2 (l.take n) i = w2 l i := w2_take hc.1 hc.2.1
      rw [ew] at hc e1
      have e2 : getT l i = (textOf ((l.take (i + 2 + w2 l i).toNat).drop (i + 2).toNat), i + 2 + w2 l i, true) := if_pos ⟨hc.1, by omega, hc.2.2.1, by omega⟩
      rw [e1, e2, same hc.1 hc.2.2.2]
      exact ⟨rfl, hc.2.2.2⟩
    · have e1 : getT (l.take n) i = (noB, 0, false) := if_neg hc
      rw [e1] at h
      exact absurd h (by simp)
  · intro h hle
    by_cases hc : 0 ≤ i ∧ i + 2 ≤ l.length ∧ w2 l i ≤ 60 ∧ i + 2 + w2 l i ≤ l.length
    · have e2 : getT l i = (textOf ((l.take (i + 2 + w2 l i).toNat).drop (i + 2).toNat), i + 2 + w2 l i, true) := if_pos hc
      rw [e2] at hle
      simp only at hle
      have ew : w2 (l.take n) i = w2 l i := w2_take hc.1 (by omega)
      have e1 : getT (l.take n) i = (textOf (((l.take n).take (i + 2 + w2 (l.take n) i).toNat).drop (i + 2).toNat), i + 2 + w2 (l.take n) i, true) := if_pos ⟨hc.1, by rw [hlen]; omega, by rw [ew]; exact hc.2.2.1, by rw [hlen, ew]; omega⟩
      rw [e1, e2, ew, same hc.1 hle]
    · have e2 : getT l i = (noB, 0, false) := if_neg hc
      rw [e2] at h
      exact absurd h (by simp)
theorem op_next {l : List Int} (hb : isBytes l) {i : Int} (hk : opk l i = true) : (oT1 l i).2.1 ≤ (oT2 l i).2.1 ∧ (oT2 l i).2.1 ≤ (oW1 l i).2.1 ∧ (oW1 l i).2.1 ≤ (oW2 l i).2.1 ∧ i < (oT1 l i).2.1 := by
  have tn : ∀ j, (getT l j).2.2 = true → j + 2 ≤ (getT l j).2.1 := by
    intro j h
    have := w2_range hb j
    by_cases hc : 0 ≤ j ∧ j + 2 ≤ l.length ∧ w2 l j ≤ 60 ∧ j + 2 + w2 l j ≤ l.length
    · have e2 : getT l j = (textOf ((l.take (j + 2 + w2 l j).toNat).drop (j + 2).toNat), j + 2 + w2 l j, true) := if_pos hc
      rw [e2]
      simp only
      omega
    · have e2 : getT l j = (noB, 0, false) := if_neg hc
      rw [e2] at h
      exact absurd h (by simp)
  have wn : ∀ j, (getW l j).2.2 = true → j + 2 ≤ (getW l j).2.1 := by
    intro j h
    by_cases hc : 0 ≤ j ∧ j + 2 ≤ l.length
    · have e2 : getW l j = (w2 l j, j + 2, true) := if_pos hc
      rw [e2]
      exact Int.le_refl _
    · have e2 : getW l j = (0, 0, false) := if_neg hc
      rw [e2] at h
      exact absurd h (by simp)
  unfold opk at hk
  simp only [Bool.and_eq_true, decide_eq_true_eq] at hk
  obtain ⟨⟨⟨⟨⟨_, k1⟩, k2⟩, k3⟩, k4⟩, _⟩ := hk
  have a1 : i + 1 + 2 ≤ (oT1 l i).2.1 := tn _ k1
  have a2 : (oT1 l i).2.1 + 2 ≤ (oT2 l i).2.1 := tn _ k2
  have a3 : (oT2 l i).2.1 + 2 ≤ (oW1 l i).2.1 := wn _ k3
  have a4 : (oW1 l i).2.1 + 2 ≤ (oW2 l i).2.1 := wn _ k4
  omega
theorem op_take {l : List Int} {n : Nat} (hb : isBytes l) (hn : n ≤ l.length) {i : Int} (h0 : 0 ≤ i) :
    (opk (l.take n) i = true ∧ (opv (l.take n) i).2.2.2.2.2 = n ↔ opk l i = true ∧ (opv l i).2.2.2.2.2 = n) ∧ (opk l i = true → (opv l i).2.2.2.2.2 = n → opv (l.take n) i = opv l i) := by
  have hlen : (l.take n).length = n := by simp; omega
  have core : opk l i = true → (opv l i).2.2.2.2.2 ≤ n → opk (l.take n) i = true ∧ opv (l.take n) i = opv l i := by
    intro hk hv
    have hnx := op_next hb hk
    have hk' := hk
    unfold opk at hk
    simp only [Bool.and_eq_true, decide_eq_true_eq] at hk
    obtain ⟨⟨⟨⟨⟨ki, k1⟩, k2⟩, k3⟩, k4⟩, k5⟩ := hk
    have hv' : (oW2 l i).2.1 ≤ n := hv
    have e1 : oT1 (l.take n) i = oT1 l i := (getT_take hb hn (i + 1)).2 k1 (by show (oT1 l i).2.1 ≤ n; omega)
    have e2 : oT2 (l.take n) i = oT2 l i := by
      unfold oT2
      rw [e1]
      exact (getT_take hb hn _).2 k2 (by show (oT2 l i).2.1 ≤ n; omega)
    have e3 : oW1 (l.take n) i = oW1 l i := by
      unfold oW1
      rw [e2]
      exact (getW_take hn _).2 k3 (by show (oW1 l i).2.1 ≤ n; omega)
    have e4 : oW2 (l.take n) i = oW2 l i := by
      unfold oW2
      rw [e3]
      exact (getW_take hn _).2 k4 (by show (oW2 l i).2.1 ≤ n; omega)
    have e0 : by_ (l.take n) i = by_ l i := by_take (by omega)
    unfold opk opv
    rw [e0, e1, e2, e3, e4, hlen]
    refine ⟨?_, rfl⟩
    simp only [Bool.and_eq_true, decide_eq_true_eq]
    exact ⟨⟨⟨⟨⟨by omega, k1⟩, k2⟩, k3⟩, k4⟩, k5⟩
  have back : opk (l.take n) i = true → opk l i = true ∧ opv (l.take n) i = opv l i := by
    intro hk
    unfold opk at hk
    simp only [Bool.and_eq_true, decide_eq_true_eq] at hk
    obtain ⟨⟨⟨⟨⟨ki, k1⟩, k2⟩, k3⟩, k4⟩, k5⟩ := hk
    rw [hlen] at ki
    have e1 : oT1 l i = oT1 (l.take n) i := ((getT_take hb hn (i + 1)).1 k1).1
    have e2 : oT2 l i = oT2 (l.take n) i := by
      unfold oT2
      rw [e1]
      exact ((getT_take hb hn _).1 k2).1
    have e3 : oW1 l i = oW1 (l.take n) i := by
      unfold oW1
      rw [e2]
      exact ((getW_take hn _).1 k3).1
    have e4 : oW2 l i = oW2 (l.take n) i := by
      unfold oW2
      rw [e3]
      exact ((getW_take hn _).1 k4).1
    have e0 : by_ (l.take n) i = by_ l i := by_take (by omega)
    unfold opk opv
    rw [e1, e2, e3, e4, ← e0]
    refine ⟨?_, rfl⟩
    simp only [Bool.and_eq_true, decide_eq_true_eq]
    exact ⟨⟨⟨⟨⟨by omega, k1⟩, k2⟩, k3⟩, k4⟩, k5⟩
  refine ⟨⟨fun h => ?_, fun h => ?_⟩, fun hk hv => (core hk (by omega)).2⟩
  · have := back h.1
    rw [← this.2]
    exact ⟨this.1, h.2⟩
  · have := core h.1 (by omega)
    rw [this.2]
    exact ⟨this.1, h.2⟩
end Go.Proofs.Ytmanmgafjbnakaa.Pl

/- An entry out of bytes: the two answers, and the law. No condition. -/
namespace Go.Proofs.Ytmanmgafjbnakaa.Pl
open Go.Proofs.Ytmanmgafjbnakaa.R Go.Proofs.Ytmanmgafjbnakaa.XV
set_option linter.unusedVariables false
set_option linter.unusedSimpArgs false

def entC (l : List Int) : Prop := 6 ≤ l.length ∧ get4 l ((l.length : Int) - 4) = crc (l.take (l.length - 4)) ∧ (opk l 2 = true ∧ (opv l 2).2.2.2.2.2 = (l.length - 4 : Nat)) ∧ entOk (w2 l 0) (opv l 2).1 (opv l 2).2.1 (opv l 2).2.2.1 (opv l 2).2.2.2.1 (opv l 2).2.2.2.2.1 = true
noncomputable instance (l : List Int) : Decidable (entC l) := Classical.propDecidable _
noncomputable def entR (l : List Int) : Int × Int × ByteArray × ByteArray × Int × Int × Bool :=
  if entC l then (w2 l 0, (opv l 2).1, (opv l 2).2.1, (opv l 2).2.2.1, (opv l 2).2.2.2.1, (opv l 2).2.2.2.2.1, true) else (0, 0, noB, noB, 0, 0, false)
theorem opv_sizes (l : List Int) (i : Int) (hb : isBytes l) : (opv l i).2.1.size ≤ maxLen ∧ (opv l i).2.2.1.size ≤ maxLen :=
  ⟨size60 (getT_size l (i + 1) hb), size60 (getT_size l _ hb)⟩
theorem noB_lit : ({ data := #[] } : ByteArray) = noB := rfl
theorem zeros_lit : ((0 : Int), (0 : Int), ({ data := #[] } : ByteArray), ({ data := #[] } : ByteArray), (0 : Int), (0 : Int), false) = (0, 0, noB, noB, 0, 0, false) := rfl
theorem spec_GetEnt_eq (l : List Int) (hb : isBytes l) (hl : l.length ≤ 1073741824) : F_spec_GetEnt l = some (entR l) := by
  have hl' : l.length ≤ 1099511627776 := by omega
  unfold F_spec_GetEnt
  simp only [Bool.cond_eq_ite, decide_eq_true_eq]
  rw [w64 (n := (l.length : Int) - 4) (by omega) (by omega)]
  by_cases h6 : 6 ≤ l.length
  · have hn : l.length - 4 ≤ l.length := by omega
    have en : ((l.length : Int) - 4).toNat = l.length - 4 := by omega
    have en' : (l.length : Int) - 4 = ((l.length - 4 : Nat) : Int) := by omega
    have hbt := isBytes_take hb (l.length - 4)
    have hlt : (l.take (l.length - 4)).length ≤ 1099511627776 := by simp; omega
    rw [if_neg (by omega)]
    have p1 : (0 : Int) ≤ (l.length : Int) - 4 := by omega
    have p2 : (l.length : Int) - 4 ≤ (l.length : Int) := by omega
    simp only [Int.le_refl, if_true, p1, p2, l17Get_eq l _ hb hl' p1 (by omega), en, Option.bind_some, Int.toNat_zero, List.drop_zero, spec_Crc_eq _ hbt hlt]
    by_cases hc : get4 l ((l.length : Int) - 4) = crc (l.take (l.length - 4))
    · rw [if_neg (by rw [hc]; simp), spec_GetW_eq l 0 hb hl' (by omega) (by omega)]
      have eW : getW l 0 = (w2 l 0, 2, true) := if_pos ⟨Int.le_refl _, by omega⟩
      rw [eW]
      simp only [Option.bind_some]
      rw [spec_GetOp_eq _ 2 hbt hlt (by omega) (by omega)]
      obtain ⟨tk, te⟩ := op_take (i := 2) hb hn (by omega)
      obtain ⟨s1, s2⟩ := opv_sizes (l.take (l.length - 4)) 2 hbt
      by_cases hk : opk (l.take (l.length - 4)) 2 = true
      · rw [if_pos hk]
        simp only [Option.bind_some]
        by_cases he : (opv (l.take (l.length - 4)) 2).2.2.2.2.2 = ((l.length - 4 : Nat) : Int)
        · have hk' := tk.1 ⟨hk, he⟩
          have ee := te hk'.1 hk'.2
          rw [ee] at s1 s2
          rw [ee, spec_EntOk_eq _ _ _ _ _ _ s1 s2]
          simp only [Option.bind_some]
          cases hE : entOk (w2 l 0) (opv l 2).1 (opv l 2).2.1 (opv l 2).2.2.1 (opv l 2).2.2.2.1 (opv l 2).2.2.2.2.1 with
          | true =>
            have hC : entC l := ⟨h6, hc, hk', hE⟩
            have hne : ((opv l 2).2.2.2.2.2 != (l.length : Int) - 4) = false := by
              rw [hk'.2, ← en']
              simp
            rw [hne]
            unfold entR
            rw [if_pos hC]
            simp
          | false =>
            have hC : ¬ entC l := fun h => by rw [h.2.2.2] at hE; exact absurd hE (by simp)
            unfold entR
            rw [if_neg hC, zeros_lit]
            simp
        · have hC : ¬ entC l := fun h => he (tk.2 h.2.2.1).2
          have hne : ((opv (l.take (l.length - 4)) 2).2.2.2.2.2 != (l.length : Int) - 4) = true := by
            rw [en']
            simpa using he
          rw [hne]
          unfold entR
          rw [if_neg hC, zeros_lit]
          simp
      · have hC : ¬ entC l := fun h => hk (tk.2 h.2.2.1).1
        rw [if_neg hk]
        unfold entR
        rw [if_neg hC, zeros_lit]
        simp
    · have hC : ¬ entC l := fun h => hc h.2.1
      unfold entR
      rw [if_pos (by simpa using hc), if_neg hC]
      rfl
  · have hC : ¬ entC l := fun h => h6 h.1
    unfold entR
    rw [if_pos (by omega), if_neg hC]
    rfl
theorem impl_GetEnt_eq (l : List Int) (hb : isBytes l) (hl : l.length ≤ 1073741824) : F_impl_GetEnt l = some (entR l) := by
  have hl' : l.length ≤ 1099511627776 := by omega
  have bad : ∀ (q : Int) (o : Int × ByteArray × ByteArray × Int × Int) (a : Int), 0 ≤ a → a ≤ 1099511627777 → ¬ entC l → F_impl_reader_word (l, 0, false) = some (q, l, o.1, o.2.2.2.2 == 0) → F_impl_reader_op (l, o.1, o.2.2.2.2 == 0) = some (opBad l a) → F_impl_GetEnt l = some (entR l) := by
    intro q o a ha0 ha1 hC h1 h2
    obtain ⟨v, a', h4⟩ := four_bad l a true hb hl' ha0 ha1 (by simp)
    unfold F_impl_GetEnt entR
    rw [h1, if_neg hC]
    simp only [Option.bind_some]
    rw [h2]
    unfold opBad
    simp only [Option.bind_some]
    rw [h4]
    simp only [Option.bind_some, done_eq]
    rfl
  by_cases h2 : 2 ≤ l.length
  · have d0 : F_impl_reader_word (l, 0, false) = some (w2 l 0, l, 2, false) := by
      rw [word_eq l 0 false hb hl' (by omega) (by omega), if_pos ⟨rfl, by omega⟩]
      rfl
    have d1 := impl_op_eq l 2 hb hl' (by omega) (by omega)
    obtain ⟨s1, s2⟩ := opv_sizes l 2 hb
    by_cases hk : opk l 2 = true
    · rw [if_pos hk] at d1
      have hnx := op_next hb hk
      have hlast : 0 ≤ (oW2 l 2).2.1 ∧ (oW2 l 2).2.1 ≤ l.length := getW_next l _
      have hv : (opv l 2).2.2.2.2.2 = (oW2 l 2).2.1 := rfl
      by_cases he : (opv l 2).2.2.2.2.2 + 4 ≤ l.length
      · have d4 := four_eq l (opv l 2).2.2.2.2.2 hb hl' (by omega) he
        unfold F_impl_GetEnt
        rw [d0]
        simp only [Option.bind_some]
        rw [d1]
        simp only [Option.bind_some]
        rw [d4]
        simp only [Option.bind_some, done_eq, impl_EntOk_eq _ _ _ _ _ _ s1 s2, Bool.cond_eq_ite]
        by_cases hend : (opv l 2).2.2.2.2.2 + 4 = (l.length : Int)
        · have en : (opv l 2).2.2.2.2.2.toNat = l.length - 4 := by omega
          have en' : (opv l 2).2.2.2.2.2 = ((l.length - 4 : Nat) : Int) := by omega
          have en2 : (opv l 2).2.2.2.2.2 = (l.length : Int) - 4 := by omega
          have hbt := isBytes_take hb (l.length - 4)
          have hlt : (l.take (l.length - 4)).length ≤ 1099511627776 := by simp; omega
          have p1 : (0 : Int) ≤ (opv l 2).2.2.2.2.2 := by omega
          have p2 : (opv l 2).2.2.2.2.2 ≤ (l.length : Int) := by omega
          simp only [Int.le_refl, p1, p2, if_true, en, Int.toNat_zero, List.drop_zero, impl_Crc_eq _ hbt hlt, hend, Option.bind_some]
          rw [en2]
          cases hE : entOk (w2 l 0) (opv l 2).1 (opv l 2).2.1 (opv l 2).2.2.1 (opv l 2).2.2.2.1 (opv l 2).2.2.2.2.1 with
          | true =>
            by_cases hc : get4 l ((l.length : Int) - 4) = crc (l.take (l.length - 4))
            · have hC : entC l := ⟨by omega, hc, ⟨hk, en'⟩, hE⟩
              unfold entR
              rw [if_pos hC, hc]
              simp
            · have hC : ¬ entC l := fun h => hc h.2.1
              unfold entR
              have hcb : (get4 l ((l.length : Int) - 4) != crc (l.take (l.length - 4))) = true := by simpa using hc
              rw [if_neg hC, hcb, zeros_lit]
              simp
          | false =>
            have hC : ¬ entC l := fun h => by rw [h.2.2.2] at hE; exact absurd hE (by simp)
            unfold entR
            rw [if_neg hC, zeros_lit]
            simp
        · have hC : ¬ entC l := fun h => hend (by have := h.2.2.1.2; have := h.1; omega)
          have hb0 : ((opv l 2).2.2.2.2.2 + 4 == (l.length : Int)) = false := by simpa using hend
          unfold entR
          rw [if_neg hC, hb0, zeros_lit]
          simp
      · have hC : ¬ entC l := fun h => he (by have := h.2.2.1.2; have := h.1; omega)
        obtain ⟨v, a', h4⟩ := four_bad l (opv l 2).2.2.2.2.2 false hb hl' (by omega) (by omega) (fun _ => by omega)
        unfold F_impl_GetEnt entR
        rw [d0, if_neg hC]
        simp only [Option.bind_some]
        rw [d1]
        simp only [Option.bind_some]
        rw [h4]
        simp only [Option.bind_some, done_eq]
        rfl
    · rw [if_neg hk] at d1
      obtain ⟨a, ha0, ha1, d1⟩ := d1
      exact bad (w2 l 0) (2, noB, noB, 0, 1) a ha0 ha1 (fun h => hk h.2.2.1.1) d0 d1
  · have d0 : F_impl_reader_word (l, 0, false) = some (0, l, 0, true) := by
      rw [word_eq l 0 false hb hl' (by omega) (by omega), if_neg (by rintro ⟨_, h⟩; omega)]
    exact bad 0 (0, noB, noB, 0, 0) 0 (by omega) (by omega) (fun h => by have := h.1; omega) d0 (impl_op_bad l 0 hb hl' (by omega) (by omega))

/-! ### The law -/
end Go.Proofs.Ytmanmgafjbnakaa.Pl

/- An entry as bytes: both sides; there and back. No condition. -/
namespace Go.Proofs.Ytmanmgafjbnakaa.Pl
open Go.Proofs.Ytmanmgafjbnakaa.R Go.Proofs.Ytmanmgafjbnakaa.XV
set_option linter.unusedVariables false
set_option linter.unusedSimpArgs false

/-! ### Texts as bytes -/
theorem bytesL_len (s : ByteArray) : (bytesL s).length = s.size := by
  unfold bytesL
  rw [List.length_map, Array.length_toList]
  rfl
theorem bytesL_bytes (s : ByteArray) : isBytes (bytesL s) := by
  intro x hx
  unfold bytesL at hx
  obtain ⟨b, _, rfl⟩ := List.mem_map.1 hx
  have := b.toNat_lt
  omega
theorem textOf_bytesL (s : ByteArray) : textOf (bytesL s) = s := by
  unfold textOf bytesL
  rw [List.map_map]
  have : (List.map ((fun n : Int => UInt8.ofNat n.toNat) ∘ fun b : UInt8 => (b.toNat : Int)) s.data.toList) = s.data.toList := by
    conv => rhs; rw [← List.map_id s.data.toList]
    refine List.map_congr_left fun b _ => ?_
    simp
  rw [this]
theorem bytesL_textOf (l : List Int) (hb : isBytes l) : bytesL (textOf l) = l := by
  unfold textOf bytesL
  simp only [List.map_map]
  conv => rhs; rw [← List.map_id l]
  refine List.map_congr_left fun x hx => ?_
  have := hb x hx
  simp only [Function.comp, id]
  rw [UInt8.toNat_ofNat']
  omega
theorem two_bytes (x : Int) : isBytes (two x) := by
  intro y hy
  simp only [two, List.mem_cons, List.mem_nil_iff, or_false] at hy
  rcases hy with h | h <;> subst h <;> omega
def tx (s : ByteArray) : List Int := two (s.size : Int) ++ bytesL s
theorem tx_len (s : ByteArray) : (tx s).length = 2 + s.size := by
  unfold tx
  rw [List.length_append, bytesL_len]
  rfl
theorem tx_bytes (s : ByteArray) : isBytes (tx s) := isBytes_append (two_bytes _) (bytesL_bytes s)
theorem spec_PutText_eq (l : List Int) (s : ByteArray) (hl : l.length ≤ 1000000) (hs : s.size ≤ 60) : F_spec_PutText (l, s) = some (l ++ tx s) := by
  unfold F_spec_PutText
  simp only
  rw [show decide (((ByteArray.size s : Nat) : Int) > (60 : Int)) = false from decide_eq_false (by omega), cond_false, spec_PutW_eq l _ (by omega)]
  simp only [Option.bind_some]
  have h2 : (l ++ two (s.size : Int)).length = l.length + 2 := by rw [List.length_append]; rfl
  rw [if_pos (by rw [show List.length (bytesL s) = s.size from bytesL_len s]; omega), List.append_assoc]
  rfl
def body (q k : Int) (n t : ByteArray) (a b : Int) : List Int := two q ++ ([k % 256] ++ (tx n ++ (tx t ++ (two a ++ two b))))
def encE (q k : Int) (n t : ByteArray) (a b : Int) : List Int := body q k n t a b ++ four (crc (body q k n t a b))
theorem body_bytes (q k : Int) (n t : ByteArray) (a b : Int) : isBytes (body q k n t a b) := by
  refine isBytes_append (two_bytes _) (isBytes_append ?_ (isBytes_append (tx_bytes _) (isBytes_append (tx_bytes _) (isBytes_append (two_bytes _) (two_bytes _)))))
  intro y hy
  simp only [List.mem_cons, List.mem_nil_iff, or_false] at hy
  subst hy
  omega
theorem body_len (q k : Int) (n t : ByteArray) (a b : Int) : (body q k n t a b).length = 11 + n.size + t.size := by
  unfold body
  simp only [List.length_append, tx_len, two, List.length_cons, List.length_nil]
  omega
theorem encE_bytes (q k : Int) (n t : ByteArray) (a b : Int) : isBytes (encE q k n t a b) := isBytes_append (body_bytes _ _ _ _ _ _) (four_bytes _)
theorem encE_len (q k : Int) (n t : ByteArray) (a b : Int) : (encE q k n t a b).length = 15 + n.size + t.size := by
  unfold encE
  rw [List.length_append, body_len]
  simp only [four, List.length_cons, List.length_nil]
  omega
theorem spec_PutEnt_eq (q k : Int) (n t : ByteArray) (a b : Int) (hn : n.size ≤ 60) (ht : t.size ≤ 60) : F_spec_PutEnt (q, k, n, t, a, b) = some (if entOk q k n t a b = true then encE q k n t a b else []) := by
  unfold F_spec_PutEnt
  simp only [spec_EntOk_eq q k n t a b (size60 hn) (size60 ht), Option.bind_some]
  cases he : entOk q k n t a b with
  | false => rfl
  | true =>
    have ho : opOk k n t a b = true := by
      unfold entOk at he
      simp only [Bool.and_eq_true] at he
      exact he.2
    simp only [Bool.not_true, cond_false, if_true]
    rw [spec_PutW_eq [] q (by simp)]
    simp only [Option.bind_some, List.nil_append]
    have hO : F_spec_PutOp (two q, k, n, t, a, b) = some (body q k n t a b) := by
      unfold F_spec_PutOp
      simp only [spec_OpOk_eq k n t a b (size60 hn) (size60 ht), ho, Option.bind_some, Bool.not_true, cond_false, wrap_u8, List.nil_append]
      rw [if_pos (by simp [two]), if_pos (by simp [two]), spec_PutText_eq _ n (by simp [two]) hn]
      simp only [Option.bind_some]
      rw [spec_PutText_eq _ t (by simp [two, tx_len]; omega) ht]
      simp only [Option.bind_some]
      rw [spec_PutW_eq _ a (by simp [two, tx_len]; omega)]
      simp only [Option.bind_some]
      rw [spec_PutW_eq _ b (by simp [two, tx_len]; omega)]
      simp only [Option.bind_some, List.append_assoc]
      rfl
    rw [hO]
    simp only [Option.bind_some]
    rw [spec_Crc_eq _ (body_bytes _ _ _ _ _ _) (by rw [body_len]; omega)]
    simp only [Option.bind_some]
    rw [l17Four_eq _ _ (by rw [body_len]; omega)]
    rfl
/-! ### What lies where -/
theorem by_app (l m : List Int) (i : Int) (h : (l.length : Int) ≤ i) : by_ (l ++ m) i = by_ m (i - l.length) := by
  unfold by_
  rw [List.getD_eq_getElem?_getD, List.getD_eq_getElem?_getD, List.getElem?_append_right (by omega)]
  congr 2
  omega
theorem w2_app (l m : List Int) (i : Int) (h : (l.length : Int) ≤ i) : w2 (l ++ m) i = w2 m (i - l.length) := by
  unfold w2
  rw [by_app l m i h, by_app l m (i + 1) (by omega), show i + 1 - (l.length : Int) = i - l.length + 1 by omega]
theorem w2_two (x : Int) (m : List Int) (h0 : 0 ≤ x) (h1 : x < 65536) : w2 (two x ++ m) 0 = x := by
  show x / 256 % 256 * 256 + x % 256 = x
  omega
theorem getW_app (l m : List Int) (x : Int) (h0 : 0 ≤ x) (h1 : x < 65536) : getW (l ++ (two x ++ m)) (l.length : Int) = (x, (l.length : Int) + 2, true) := by
  have hl : (l ++ (two x ++ m)).length = l.length + (2 + m.length) := by
    simp only [List.length_append, two, List.length_cons, List.length_nil]
  unfold getW
  rw [if_pos ⟨by omega, by omega⟩, w2_app l _ _ (Int.le_refl _), Int.sub_self, w2_two x m h0 h1]
theorem getT_app (l m : List Int) (s : ByteArray) (hs : s.size ≤ 60) : getT (l ++ (tx s ++ m)) (l.length : Int) = (s, (l.length : Int) + 2 + s.size, true) := by
  have hl : (l ++ (tx s ++ m)).length = l.length + (2 + s.size + m.length) := by
    simp only [List.length_append, tx_len]
  have hw : w2 (l ++ (tx s ++ m)) (l.length : Int) = (s.size : Int) := by
    rw [w2_app l _ _ (Int.le_refl _), Int.sub_self]
    unfold tx
    rw [List.append_assoc]
    exact w2_two _ _ (by omega) (by omega)
  unfold getT
  rw [hw, if_pos ⟨by omega, by omega, by omega, by omega⟩]
  have e1 : ((l.length : Int) + 2 + (s.size : Int)).toNat = l.length + (2 + s.size) := by omega
  have e2 : ((l.length : Int) + 2).toNat = l.length + 2 := by omega
  have hcut : (List.take (l.length + (2 + s.size)) (l ++ (tx s ++ m))).drop (l.length + 2) = bytesL s := by
    rw [List.take_append, List.take_of_length_le (by omega), show l.length + (2 + s.size) - l.length = (tx s).length by rw [tx_len]; omega, List.take_left, List.drop_append, List.drop_of_length_le (by omega), List.nil_append, show l.length + 2 - l.length = (two (s.size : Int)).length by simp only [two, List.length_cons, List.length_nil]; omega]
    unfold tx
    exact List.drop_left
  rw [e1, e2, hcut, textOf_bytesL]
theorem dec_encE (q k : Int) (n t : ByteArray) (a b : Int) (hn : n.size ≤ 60) (ht : t.size ≤ 60) (h : entOk q k n t a b = true) : entC (encE q k n t a b) ∧ entR (encE q k n t a b) = (q, k, n, t, a, b, true) := by
  have h' := h
  unfold entOk opOk at h'
  simp only [Bool.and_eq_true, inR_iff, isW] at h'
  obtain ⟨⟨q0, q1⟩, ⟨⟨⟨⟨⟨⟨k0, k1⟩, _⟩, _⟩, ⟨a0, a1⟩⟩, ⟨b0, b1⟩⟩, _⟩⟩ := h'
  generalize hF : four (crc (body q k n t a b)) = F
  have hFl : F.length = 4 := by rw [← hF]; rfl
  have e0 : encE q k n t a b = two q ++ ([k % 256] ++ (tx n ++ (tx t ++ (two a ++ (two b ++ F))))) := by
    unfold encE
    rw [hF]
    unfold body
    simp only [List.append_assoc]
  have hlen := encE_len q k n t a b
  have w0 : w2 (encE q k n t a b) 0 = q := by rw [e0]; exact w2_two q _ (by omega) (by omega)
  have yk : by_ (encE q k n t a b) 2 = k := by
    rw [e0]
    show k % 256 = k
    omega
  have t1 : oT1 (encE q k n t a b) 2 = (n, (3 : Int) + 2 + (n.size : Int), true) := by
    have := getT_app (two q ++ [k % 256]) (tx t ++ (two a ++ (two b ++ F))) n hn
    rw [List.append_assoc, ← e0] at this
    exact this
  have t2 : oT2 (encE q k n t a b) 2 = (t, (3 : Int) + 2 + (n.size : Int) + 2 + (t.size : Int), true) := by
    unfold oT2
    rw [t1]
    have := getT_app (two q ++ ([k % 256] ++ tx n)) (two a ++ (two b ++ F)) t ht
    simp only [List.append_assoc] at this
    rw [← e0] at this
    have hl : (((two q ++ ([k % 256] ++ tx n)).length : Nat) : Int) = 3 + 2 + (n.size : Int) := by
      simp only [List.length_append, tx_len, two, List.length_cons, List.length_nil]
      omega
    rw [hl] at this
    exact this
  have w1 : oW1 (encE q k n t a b) 2 = (a, (3 : Int) + 2 + (n.size : Int) + 2 + (t.size : Int) + 2, true) := by
    unfold oW1
    rw [t2]
    have := getW_app (two q ++ ([k % 256] ++ (tx n ++ tx t))) (two b ++ F) a a0 (by omega)
    simp only [List.append_assoc] at this
    rw [← e0] at this
    have hl : (((two q ++ ([k % 256] ++ (tx n ++ tx t))).length : Nat) : Int) = 3 + 2 + (n.size : Int) + 2 + t.size := by
      simp only [List.length_append, tx_len, two, List.length_cons, List.length_nil]
      omega
    rw [hl] at this
    exact this
  have w2' : oW2 (encE q k n t a b) 2 = (b, (3 : Int) + 2 + (n.size : Int) + 2 + (t.size : Int) + 2 + 2, true) := by
    unfold oW2
    rw [w1]
    have := getW_app (two q ++ ([k % 256] ++ (tx n ++ (tx t ++ two a)))) F b b0 (by omega)
    simp only [List.append_assoc] at this
    rw [← e0] at this
    have hl : (((two q ++ ([k % 256] ++ (tx n ++ (tx t ++ two a)))).length : Nat) : Int) = 3 + 2 + (n.size : Int) + 2 + t.size + 2 := by
      simp only [List.length_append, tx_len, two, List.length_cons, List.length_nil]
      omega
    rw [hl] at this
    exact this
  have hv : opv (encE q k n t a b) 2 = (k, n, t, a, b, (3 : Int) + 2 + (n.size : Int) + 2 + (t.size : Int) + 2 + 2) := by
    unfold opv
    rw [t1, t2, w1, w2', yk]
  have ho : opOk k n t a b = true := by
    unfold entOk at h
    simp only [Bool.and_eq_true] at h
    exact h.2
  have hk : opk (encE q k n t a b) 2 = true := by
    unfold opk
    rw [t1, t2, w1, w2', yk]
    simp only [ho, Bool.and_true, decide_eq_true_eq]
    omega
  have hr := crc_range _ (body_bytes q k n t a b)
  have hbl := body_len q k n t a b
  have htake : (encE q k n t a b).take ((encE q k n t a b).length - 4) = body q k n t a b := by
    rw [hlen, show 15 + n.size + t.size - 4 = (body q k n t a b).length by rw [hbl]; omega]
    exact List.take_left
  have hg : get4 (encE q k n t a b) (((encE q k n t a b).length : Int) - 4) = crc (body q k n t a b) := by
    have hp : (((encE q k n t a b).length : Nat) : Int) - 4 = ((body q k n t a b).length : Int) := by rw [hlen, hbl]; omega
    rw [hp]
    unfold get4 encE
    rw [by_app _ _ _ (Int.le_refl _), by_app _ _ ((body q k n t a b).length + 1) (by omega), by_app _ _ ((body q k n t a b).length + 2) (by omega), by_app _ _ ((body q k n t a b).length + 3) (by omega),
      Int.sub_self, show ((body q k n t a b).length : Int) + 1 - (body q k n t a b).length = 1 by omega, show ((body q k n t a b).length : Int) + 2 - (body q k n t a b).length = 2 by omega, show ((body q k n t a b).length : Int) + 3 - (body q k n t a b).length = 3 by omega]
    show crc (body q k n t a b) / 16777216 % 256 * 16777216 + crc (body q k n t a b) / 65536 % 256 * 65536 + crc (body q k n t a b) / 256 % 256 * 256 + crc (body q k n t a b) % 256 = crc (body q k n t a b)
    omega
  have hC : entC (encE q k n t a b) := by
    refine ⟨by omega, by rw [hg, htake], ⟨hk, ?_⟩, ?_⟩
    · rw [hv, hlen]
      simp only
      omega
    · rw [hv, w0]
      exact h
  refine ⟨hC, ?_⟩
  unfold entR
  rw [if_pos hC, hv, w0]
end Go.Proofs.Ytmanmgafjbnakaa.Pl

