/- GetEnt, GetEnt2, GetEnt3. No condition. -/
import Derived.Test.YtmanmgafjbnakaaPEntDraw
/- An entry out of bytes, both sides. No condition. -/
namespace Go.Proofs.Ytmanmgafjbnakaa.Pl
open Go.Proofs.Ytmanmgafjbnakaa.R Go.Proofs.Ytmanmgafjbnakaa.XW
set_option linter.unusedVariables false
set_option linter.unusedSimpArgs false

/-! ### An operation out of bytes -/
def oT1 (l : List Int) (i : Int) := getT l (i + 1)
def oT2 (l : List Int) (i : Int) := getT l (oT1 l i).2.1
def oW1 (l : List Int) (i : Int) := getW l (oT2 l i).2.1
def oW2 (l : List Int) (i : Int) := getW l (oW1 l i).2.1
def opv (l : List Int) (i : Int) : Int × ByteArray × ByteArray × Int × Int × Int := (by_ l i, (oT1 l i).1, (oT2 l i).1, (oW1 l i).1, (oW2 l i).1, (oW2 l i).2.1)
def opv0 : Int × ByteArray × ByteArray × Int × Int × Int := (0, noB, noB, 0, 0, 0)
def opk (l : List Int) (i : Int) : Bool :=
  decide (i < l.length) && (oT1 l i).2.2 && (oT2 l i).2.2 && (oW1 l i).2.2 && (oW2 l i).2.2 && opOk (by_ l i) (oT1 l i).1 (oT2 l i).1 (oW1 l i).1 (oW2 l i).1
theorem getW_next (l : List Int) (i : Int) : 0 ≤ (getW l i).2.1 ∧ (getW l i).2.1 ≤ l.length := by
  unfold getW
  split
  · rename_i h
    exact ⟨by simp only; omega, h.2⟩
  · simp only
    omega
theorem size60 {s : ByteArray} (h : s.size ≤ 60) : s.size ≤ maxLen := by
  simp only [maxLen]
  omega
theorem spec_GetOp_eq (l : List Int) (i : Int) (hb : isBytes l) (hl : l.length ≤ 1099511627776) (h0 : 0 ≤ i) (h1 : i ≤ 2199023255552) : F_spec_GetOp (l, i) = some (if opk l i then ((opv l i).1, (opv l i).2.1, (opv l i).2.2.1, (opv l i).2.2.2.1, (opv l i).2.2.2.2.1, (opv l i).2.2.2.2.2, true) else (0, noB, noB, 0, 0, 0, false)) := by
  have n1 := getT_next l (i + 1) hb
  have n2 := getT_next l (oT1 l i).2.1 hb
  have n3 := getW_next l (oT2 l i).2.1
  have e1 : F_spec_GetText (l, i + 1) = some (oT1 l i) := spec_GetText_eq l (i + 1) hb hl (by omega) (by omega)
  have e2 : F_spec_GetText (l, (oT1 l i).2.1) = some (oT2 l i) := spec_GetText_eq l _ hb hl (by unfold oT1; omega) (by unfold oT1; omega)
  have e3 : F_spec_GetW (l, (oT2 l i).2.1) = some (oW1 l i) := spec_GetW_eq l _ hb hl (by unfold oT2; omega) (by unfold oT2; omega)
  have e4 : F_spec_GetW (l, (oW1 l i).2.1) = some (oW2 l i) := spec_GetW_eq l _ hb hl (by unfold oW1; omega) (by unfold oW1; omega)
  have s1 : (oT1 l i).1.size ≤ maxLen := size60 (getT_size l (i + 1) hb)
  have s2 : (oT2 l i).1.size ≤ maxLen := size60 (getT_size l _ hb)
  unfold F_spec_GetOp opk opv
  simp only [l1In_eq, Option.bind_some, Bool.cond_eq_ite, rd_by, w64_by hb]
  rw [w64 (n := (l.length : Int) - 1) (by omega) (by omega), w64 (n := i + 1) (by omega) (by omega)]
  by_cases hi : i < l.length
  · have hin : inR i 0 ((l.length : Int) - 1) = true := inR_iff.2 ⟨h0, by omega⟩
    rw [hin, if_neg (by simp), if_pos h0, if_pos hi, e1, Option.bind_some, e2, Option.bind_some, e3, Option.bind_some, e4]
    simp only [Option.bind_some, spec_OpOk_eq _ _ _ _ _ s1 s2, hi, decide_true, Bool.true_and]
    generalize opOk (by_ l i) (oT1 l i).1 (oT2 l i).1 (oW1 l i).1 (oW2 l i).1 = b0
    cases (oT1 l i).2.2 <;> cases (oT2 l i).2.2 <;> cases (oW1 l i).2.2 <;> cases (oW2 l i).2.2 <;> cases b0 <;> rfl
  · have hin : inR i 0 ((l.length : Int) - 1) = false := by
      cases hc : inR i 0 ((l.length : Int) - 1) with
      | false => rfl
      | true => exact absurd (inR_iff.1 hc).2 (by omega)
    rw [hin, if_pos (by simp)]
    simp only [hi, decide_false, Bool.false_and]
    rfl
theorem bad_tail (l : List Int) (a : Int) (hb : isBytes l) (hl : l.length ≤ 1099511627776) (h0 : 0 ≤ a) (h1 : a ≤ 2199023255552) :
    F_impl_reader_text (l, a, true) = some (noB, l, a, true) ∧ F_impl_reader_word (l, a, true) = some (0, l, a, true) := by
  constructor
  · rw [text_eq l a true hb hl h0 h1]
    simp
  · rw [word_eq l a true hb hl h0 h1]
    simp
def opBad (l : List Int) (a : Int) : Int × ByteArray × ByteArray × Int × Int × List Int × Int × Bool := (0, noB, noB, 0, 0, l, a, true)
theorem impl_op_bad (l : List Int) (i : Int) (hb : isBytes l) (hl : l.length ≤ 1099511627776) (h0 : 0 ≤ i) (h1 : i ≤ 2199023255552) : F_impl_reader_op (l, i, true) = some (opBad l i) := by
  obtain ⟨t, w⟩ := bad_tail l i hb hl h0 h1
  unfold F_impl_reader_op opBad
  rw [one_eq l i true hb hl h0 h1]
  simp only [Option.bind_some, Bool.cond_eq_ite, t, w, if_true, if_false, false_and, Bool.true_eq_false]
  rfl
theorem impl_op_eq (l : List Int) (i : Int) (hb : isBytes l) (hl : l.length ≤ 1099511627776) (h0 : 0 ≤ i) (h1 : i ≤ 1099511627776) :
    if opk l i then F_impl_reader_op (l, i, false) = some ((opv l i).1, (opv l i).2.1, (opv l i).2.2.1, (opv l i).2.2.2.1, (opv l i).2.2.2.2.1, l, (opv l i).2.2.2.2.2, false)
    else ∃ a : Int, 0 ≤ a ∧ a ≤ 1099511627777 ∧ F_impl_reader_op (l, i, false) = some (opBad l a) := by
  have n1 := getT_next l (i + 1) hb
  have n2 := getT_next l (oT1 l i).2.1 hb
  have n3 := getW_next l (oT2 l i).2.1
  have n4 := getW_next l (oW1 l i).2.1
  have c1 : 0 ≤ (oT1 l i).2.1 ∧ (oT1 l i).2.1 ≤ l.length := n1
  have c2 : 0 ≤ (oT2 l i).2.1 ∧ (oT2 l i).2.1 ≤ l.length := n2
  have c3 : 0 ≤ (oW1 l i).2.1 ∧ (oW1 l i).2.1 ≤ l.length := n3
  have s1 : (oT1 l i).1.size ≤ maxLen := size60 (getT_size l (i + 1) hb)
  have s2 : (oT2 l i).1.size ≤ maxLen := size60 (getT_size l _ hb)
  have d0 := one_eq l i false hb hl h0 (by omega)
  have d1 : F_impl_reader_text (l, i + 1, false) = some (if false = false ∧ (oT1 l i).2.2 = true then ((oT1 l i).1, l, (oT1 l i).2.1, false) else (noB, l, i + 1, true)) := text_eq l (i + 1) false hb hl (by omega) (by omega)
  have d2 : F_impl_reader_text (l, (oT1 l i).2.1, false) = some (if false = false ∧ (oT2 l i).2.2 = true then ((oT2 l i).1, l, (oT2 l i).2.1, false) else (noB, l, (oT1 l i).2.1, true)) := text_eq l _ false hb hl (by omega) (by omega)
  have wq : ∀ (j : Int), 0 ≤ j → j ≤ 2199023255552 → F_impl_reader_word (l, j, false) = some (if (getW l j).2.2 = true then ((getW l j).1, l, (getW l j).2.1, false) else (0, l, j, true)) := by
    intro j hj0 hj1
    rw [word_eq l j false hb hl hj0 hj1]
    by_cases h : j + 2 ≤ l.length
    · have eW : getW l j = (w2 l j, j + 2, true) := if_pos ⟨hj0, h⟩
      rw [eW]
      simp [h]
    · have eW : getW l j = (0, 0, false) := if_neg (by rintro ⟨_, h2⟩; exact h h2)
      rw [eW]
      simp [h]
  have d3 : F_impl_reader_word (l, (oT2 l i).2.1, false) = some (if (oW1 l i).2.2 = true then ((oW1 l i).1, l, (oW1 l i).2.1, false) else (0, l, (oT2 l i).2.1, true)) := wq _ (by omega) (by omega)
  have d4 : F_impl_reader_word (l, (oW1 l i).2.1, false) = some (if (oW2 l i).2.2 = true then ((oW2 l i).1, l, (oW2 l i).2.1, false) else (0, l, (oW1 l i).2.1, true)) := wq _ (by omega) (by omega)
  unfold opk opv
  by_cases hi : i < l.length
  · simp only [hi, and_self, if_true] at d0
    simp only [true_and] at d1 d2
    cases k1 : (oT1 l i).2.2 with
    | false =>
      obtain ⟨t, w⟩ := bad_tail l (i + 1) hb hl (by omega) (by omega)
      rw [if_neg (by simp)]
      refine ⟨i + 1, by omega, by omega, ?_⟩
      rw [k1] at d1
      unfold F_impl_reader_op
      simp only [d0, d1, t, w, Option.bind_some, Bool.cond_eq_ite, if_true, if_false, Bool.false_eq_true]
      rfl
    | true =>
      rw [k1] at d1
      cases k2 : (oT2 l i).2.2 with
      | false =>
        obtain ⟨t, w⟩ := bad_tail l (oT1 l i).2.1 hb hl (by omega) (by omega)
        rw [if_neg (by simp)]
        refine ⟨(oT1 l i).2.1, by omega, by omega, ?_⟩
        rw [k2] at d2
        unfold F_impl_reader_op
        simp only [d0, d1, d2, t, w, Option.bind_some, Bool.cond_eq_ite, if_true, if_false, Bool.false_eq_true]
        rfl
      | true =>
        rw [k2] at d2
        cases k3 : (oW1 l i).2.2 with
        | false =>
          obtain ⟨t, w⟩ := bad_tail l (oT2 l i).2.1 hb hl (by omega) (by omega)
          rw [if_neg (by simp)]
          refine ⟨(oT2 l i).2.1, by omega, by omega, ?_⟩
          rw [k3] at d3
          unfold F_impl_reader_op
          simp only [d0, d1, d2, d3, t, w, Option.bind_some, Bool.cond_eq_ite, if_true, if_false, Bool.false_eq_true]
          rfl
        | true =>
          rw [k3] at d3
          cases k4 : (oW2 l i).2.2 with
          | false =>
            rw [if_neg (by simp)]
            refine ⟨(oW1 l i).2.1, by omega, by omega, ?_⟩
            rw [k4] at d4
            unfold F_impl_reader_op
            simp only [d0, d1, d2, d3, d4, Option.bind_some, Bool.cond_eq_ite, if_true, if_false, Bool.false_eq_true]
            rfl
          | true =>
            rw [k4] at d4
            have c4 : 0 ≤ (oW2 l i).2.1 ∧ (oW2 l i).2.1 ≤ l.length := n4
            cases k5 : opOk (by_ l i) (oT1 l i).1 (oT2 l i).1 (oW1 l i).1 (oW2 l i).1 with
            | false =>
              rw [if_neg (by simp)]
              refine ⟨(oW2 l i).2.1, by omega, by omega, ?_⟩
              unfold F_impl_reader_op
              simp only [d0, d1, d2, d3, d4, impl_OpOk_eq _ _ _ _ _ s1 s2, k5, Option.bind_some, Bool.cond_eq_ite, if_true, if_false, Bool.false_eq_true]
              rfl
            | true =>
              rw [if_pos (by simp [hi])]
              unfold F_impl_reader_op
              simp only [d0, d1, d2, d3, d4, impl_OpOk_eq _ _ _ _ _ s1 s2, k5, Option.bind_some, Bool.cond_eq_ite, if_true, if_false, Bool.false_eq_true]
              rfl
  · have d0' : F_impl_reader_one (l, i, false) = some (0, l, i, true) := by
      rw [d0, if_neg (by rintro ⟨_, h⟩; exact hi h)]
    obtain ⟨t, w⟩ := bad_tail l i hb hl (by omega) (by omega)
    rw [if_neg (by simp [hi])]
    refine ⟨i, by omega, by omega, ?_⟩
    unfold F_impl_reader_op
    simp only [d0', t, w, Option.bind_some, Bool.cond_eq_ite, if_true, if_false, Bool.false_eq_true]
    rfl
end Go.Proofs.Ytmanmgafjbnakaa.Pl

/- An entry out of bytes: a shorter list. No condition. -/
namespace Go.Proofs.Ytmanmgafjbnakaa.Pl
open Go.Proofs.Ytmanmgafjbnakaa.R Go.Proofs.Ytmanmgafjbnakaa.XW
set_option linter.unusedVariables false
set_option linter.unusedSimpArgs false

/-! ### A shorter list -/
theorem w2_take {l : List Int} {n : Nat} {i : Int} (h0 : 0 ≤ i) (hi : i + 2 ≤ n) : w2 (l.take n) i = w2 l i := by
  unfold w2
  rw [by_take (by omega), by_take (by omega)]
theorem getW_take {l : List Int} {n : Nat} (hn : n ≤ l.length) (i : Int) : ((getW (l.take n) i).2.2 = true → getW l i = getW (l.take n) i ∧ (getW (l.take n) i).2.1 ≤ n) ∧ ((getW l i).2.2 = true → (getW l i).2.1 ≤ n → getW (l.take n) i = getW l i) := by
  have hlen : (l.take n).length = n := by simp; omega
  constructor
  · intro h
    by_cases hc : 0 ≤ i ∧ i + 2 ≤ (l.take n).length
    · have e1 : getW (l.take n) i = (w2 (l.take n) i, i + 2, true) := if_pos hc
      rw [hlen] at hc
      have e2 : getW l i = (w2 l i, i + 2, true) := if_pos ⟨hc.1, by omega⟩
      rw [e1, e2, w2_take hc.1 hc.2]
      exact ⟨rfl, hc.2⟩
    · have e1 : getW (l.take n) i = (0, 0, false) := if_neg hc
      rw [e1] at h
      exact absurd h (by simp)
  · intro h hle
    by_cases hc : 0 ≤ i ∧ i + 2 ≤ l.length
    · have e2 : getW l i = (w2 l i, i + 2, true) := if_pos hc
      rw [e2] at hle
      simp only at hle
      have e1 : getW (l.take n) i = (w2 (l.take n) i, i + 2, true) := if_pos ⟨hc.1, by rw [hlen]; exact hle⟩
      rw [e1, e2, w2_take hc.1 hle]
    · have e2 : getW l i = (0, 0, false) := if_neg hc
      rw [e2] at h
      exact absurd h (by simp)
theorem getT_take {l : List Int} {n : Nat} (hb : isBytes l) (hn : n ≤ l.length) (i : Int) : ((getT (l.take n) i).2.2 = true → getT l i = getT (l.take n) i ∧ (getT (l.take n) i).2.1 ≤ n) ∧ ((getT l i).2.2 = true → (getT l i).2.1 ≤ n → getT (l.take n) i = getT l i) := by
  have hlen : (l.take n).length = n := by simp; omega
  have hr := w2_range hb i
  have same : 0 ≤ i → i + 2 + w2 l i ≤ n → (l.take n).take (i + 2 + w2 l i).toNat = l.take (i + 2 + w2 l i).toNat := by
    intro h0 h
    rw [List.take_take, Nat.min_eq_left (by omega)]
  constructor
  · intro h
    by_cases hc : 0 ≤ i ∧ i + 2 ≤ (l.take n).length ∧ w2 (l.take n) i ≤ 60 ∧ i + 2 + w2 (l.take n) i ≤ (l.take n).length
    · have e1 : getT (l.take n) i = (textOf (((l.take n).take (i + 2 + w2 (l.take n) i).toNat).drop (i + 2).toNat), i + 2 + w2 (l.take n) i, true) := if_pos hc
      rw [hlen] at hc
      have ew : w2 (l.take n) i = w2 l i := w2_take hc.1 hc.2.1
      rw [ew] at hc e1
      have e2 : getT l i = (textOf ((l.take (i + 2 + w2 l i).toNat).drop (i + 2).toNat), i + 2 + w2 l i, true) := if_pos ⟨hc.1, by omega, hc.2.2.1, by omega⟩
      rw [e1, e2, same hc.1 hc.2.2.2]
      exact ⟨rfl, hc.2.2.2⟩
    · have e1 : getT (l.take n) i = (noB, 0, false) := if_neg hc
      rw [e1] at h
      exact absurd h (by simp)
  · intro h hle
    by_cases hc : 0 ≤ i ∧ i + 2 ≤ l.length ∧ w2 l i ≤ 60 ∧ i + 2 + w2 l i ≤ l.length
    · have e2 : getT l i = (textOf ((l.take (i + 2 + w2 l i).toNat).drop (i + 2).toNat), i + 2 + w2 l i, true) := if_pos hc
      rw [e2] at hle
      simp only at hle
      have ew : w2 (l.take n) i = w2 l i := w2_take hc.1 (by omega)
      have e1 : getT (l.take n) i = (textOf (((l.take n).take (i + 2 + w2 (l.take n) i).toNat).drop (i + 2).toNat), i + 2 + w2 (l.take n) i, true) := if_pos ⟨hc.1, by rw [hlen]; omega, by rw [ew]; exact hc.2.2.1, by rw [hlen, ew]; omega⟩
      rw [e1, e2, ew, same hc.1 hle]
    · have e2 : getT l i = (noB, 0, false) := if_neg hc
      rw [e2] at h
      exact absurd h (by simp)
theorem op_next {l : List Int} (hb : isBytes l) {i : Int} (hk : opk l i = true) : (oT1 l i).2.1 ≤ (oT2 l i).2.1 ∧ (oT2 l i).2.1 ≤ (oW1 l i).2.1 ∧ (oW1 l i).2.1 ≤ (oW2 l i).2.1 ∧ i < (oT1 l i).2.1 := by
  have tn : ∀ j, (getT l j).2.2 = true → j + 2 ≤ (getT l j).2.1 := by
    intro j h
    have := w2_range hb j
    by_cases hc : 0 ≤ j ∧ j + 2 ≤ l.length ∧ w2 l j ≤ 60 ∧ j + 2 + w2 l j ≤ l.length
    · have e2 : getT l j = (textOf ((l.take (j + 2 + w2 l j).toNat).drop (j + 2).toNat), j + 2 + w2 l j, true) := if_pos hc
      rw [e2]
      simp only
      omega
    · have e2 : getT l j = (noB, 0, false) := if_neg hc
      rw [e2] at h
      exact absurd h (by simp)
  have wn : ∀ j, (getW l j).2.2 = true → j + 2 ≤ (getW l j).2.1 := by
    intro j h
    by_cases hc : 0 ≤ j ∧ j + 2 ≤ l.length
    · have e2 : getW l j = (w2 l j, j + 2, true) := if_pos hc
      rw [e2]
      exact Int.le_refl _
    · have e2 : getW l j = (0, 0, false) := if_neg hc
      rw [e2] at h
      exact absurd h (by simp)
  unfold opk at hk
  simp only [Bool.and_eq_true, decide_eq_true_eq] at hk
  obtain ⟨⟨⟨⟨⟨_, k1⟩, k2⟩, k3⟩, k4⟩, _⟩ := hk
  have a1 : i + 1 + 2 ≤ (oT1 l i).2.1 := tn _ k1
  have a2 : (oT1 l i).2.1 + 2 ≤ (oT2 l i).2.1 := tn _ k2
  have a3 : (oT2 l i).2.1 + 2 ≤ (oW1 l i).2.1 := wn _ k3
  have a4 : (oW1 l i).2.1 + 2 ≤ (oW2 l i).2.1 := wn _ k4
  omega
theorem op_take {l : List Int} {n : Nat} (hb : isBytes l) (hn : n ≤ l.length) {i : Int} (h0 : 0 ≤ i) :
    (opk (l.take n) i = true ∧ (opv (l.take n) i).2.2.2.2.2 = n ↔ opk l i = true ∧ (opv l i).2.2.2.2.2 = n) ∧ (opk l i = true → (opv l i).2.2.2.2.2 = n → opv (l.take n) i = opv l i) := by
  have hlen : (l.take n).length = n := by simp; omega
  have core : opk l i = true → (opv l i).2.2.2.2.2 ≤ n → opk (l.take n) i = true ∧ opv (l.take n) i = opv l i := by
    intro hk hv
    have hnx := op_next hb hk
    have hk' := hk
    unfold opk at hk
    simp only [Bool.and_eq_true, decide_eq_true_eq] at hk
    obtain ⟨⟨⟨⟨⟨ki, k1⟩, k2⟩, k3⟩, k4⟩, k5⟩ := hk
    have hv' : (oW2 l i).2.1 ≤ n := hv
    have e1 : oT1 (l.take n) i = oT1 l i := (getT_take hb hn (i + 1)).2 k1 (by show (oT1 l i).2.1 ≤ n; omega)
    have e2 : oT2 (l.take n) i = oT2 l i := by
      unfold oT2
      rw [e1]
      exact (getT_take hb hn _).2 k2 (by show (oT2 l i).2.1 ≤ n; omega)
    have e3 : oW1 (l.take n) i = oW1 l i := by
      unfold oW1
      rw [e2]
      exact (getW_take hn _).2 k3 (by show (oW1 l i).2.1 ≤ n; omega)
    have e4 : oW2 (l.take n) i = oW2 l i := by
      unfold oW2
      rw [e3]
      exact (getW_take hn _).2 k4 (by show (oW2 l i).2.1 ≤ n; omega)
    have e0 : by_ (l.take n) i = by_ l i := by_take (by omega)
    unfold opk opv
    rw [e0, e1, e2, e3, e4, hlen]
    refine ⟨?_, rfl⟩
    simp only [Bool.and_eq_true, decide_eq_true_eq]
    exact ⟨⟨⟨⟨⟨by omega, k1⟩, k2⟩, k3⟩, k4⟩, k5⟩
  have back : opk (l.take n) i = true → opk l i = true ∧ opv (l.take n) i = opv l i := by
    intro hk
    unfold opk at hk
    simp only [Bool.and_eq_true, decide_eq_true_eq] at hk
    obtain ⟨⟨⟨⟨⟨ki, k1⟩, k2⟩, k3⟩, k4⟩, k5⟩ := hk
    rw [hlen] at ki
    have e1 : oT1 l i = oT1 (l.take n) i := ((getT_take hb hn (i + 1)).1 k1).1
    have e2 : oT2 l i = oT2 (l.take n) i := by
      unfold oT2
      rw [e1]
      exact ((getT_take hb hn _).1 k2).1
    have e3 : oW1 l i = oW1 (l.take n) i := by
      unfold oW1
      rw [e2]
      exact ((getW_take hn _).1 k3).1
    have e4 : oW2 l i = oW2 (l.take n) i := by
      unfold oW2
      rw [e3]
      exact ((getW_take hn _).1 k4).1
    have e0 : by_ (l.take n) i = by_ l i := by_take (by omega)
    unfold opk opv
    rw [e1, e2, e3, e4, ← e0]
    refine ⟨?_, rfl⟩
    simp only [Bool.and_eq_true, decide_eq_true_eq]
    exact ⟨⟨⟨⟨⟨by omega, k1⟩, k2⟩, k3⟩, k4⟩, k5⟩
  refine ⟨⟨fun h => ?_, fun h => ?_⟩, fun hk hv => (core hk (by omega)).2⟩
  · have := back h.1
    rw [← this.2]
    exact ⟨this.1, h.2⟩
  · have := core h.1 (by omega)
    rw [this.2]
    exact ⟨this.1, h.2⟩
end Go.Proofs.Ytmanmgafjbnakaa.Pl

/- An entry out of bytes: the two answers, and the law. No condition. -/
namespace Go.Proofs.Ytmanmgafjbnakaa.Pl
open Go.Proofs.Ytmanmgafjbnakaa.R Go.Proofs.Ytmanmgafjbnakaa.XW
set_option linter.unusedVariables false
set_option linter.unusedSimpArgs false

def entC (l : List Int) : Prop := 6 ≤ l.length ∧ get4 l ((l.length : Int) - 4) = crc (l.take (l.length - 4)) ∧ (opk l 2 = true ∧ (opv l 2).2.2.2.2.2 = (l.length - 4 : Nat)) ∧ entOk (w2 l 0) (opv l 2).1 (opv l 2).2.1 (opv l 2).2.2.1 (opv l 2).2.2.2.1 (opv l 2).2.2.2.2.1 = true
noncomputable instance (l : List Int) : Decidable (entC l) := Classical.propDecidable _
noncomputable def entR (l : List Int) : Int × Int × ByteArray × ByteArray × Int × Int × Bool :=
  if entC l then (w2 l 0, (opv l 2).1, (opv l 2).2.1, (opv l 2).2.2.1, (opv l 2).2.2.2.1, (opv l 2).2.2.2.2.1, true) else (0, 0, noB, noB, 0, 0, false)
theorem opv_sizes (l : List Int) (i : Int) (hb : isBytes l) : (opv l i).2.1.size ≤ maxLen ∧ (opv l i).2.2.1.size ≤ maxLen :=
  ⟨size60 (getT_size l (i + 1) hb), size60 (getT_size l _ hb)⟩
theorem noB_lit : ({ data := #[] } : ByteArray) = noB := rfl
theorem zeros_lit : ((0 : Int), (0 : Int), ({ data := #[] } : ByteArray), ({ data := #[] } : ByteArray), (0 : Int), (0 : Int), false) = (0, 0, noB, noB, 0, 0, false) := rfl
theorem spec_GetEnt_eq (l : List Int) (hb : isBytes l) (hl : l.length ≤ 1073741824) : F_spec_GetEnt l = some (entR l) := by
  have hl' : l.length ≤ 1099511627776 := by omega
  unfold F_spec_GetEnt
  simp only [Bool.cond_eq_ite, decide_eq_true_eq]
  rw [w64 (n := (l.length : Int) - 4) (by omega) (by omega)]
  by_cases h6 : 6 ≤ l.length
  · have hn : l.length - 4 ≤ l.length := by omega
    have en : ((l.length : Int) - 4).toNat = l.length - 4 := by omega
    have en' : (l.length : Int) - 4 = ((l.length - 4 : Nat) : Int) := by omega
    have hbt := isBytes_take hb (l.length - 4)
    have hlt : (l.take (l.length - 4)).length ≤ 1099511627776 := by simp; omega
    rw [if_neg (by omega)]
    have p1 : (0 : Int) ≤ (l.length : Int) - 4 := by omega
    have p2 : (l.length : Int) - 4 ≤ (l.length : Int) := by omega
    simp only [Int.le_refl, if_true, p1, p2, l17Get_eq l _ hb hl' p1 (by omega), en, Option.bind_some, Int.toNat_zero, List.drop_zero, spec_Crc_eq _ hbt hlt]
    by_cases hc : get4 l ((l.length : Int) - 4) = crc (l.take (l.length - 4))
    · rw [if_neg (by rw [hc]; simp), spec_GetW_eq l 0 hb hl' (by omega) (by omega)]
      have eW : getW l 0 = (w2 l 0, 2, true) := if_pos ⟨Int.le_refl _, by omega⟩
      rw [eW]
      simp only [Option.bind_some]
      rw [spec_GetOp_eq _ 2 hbt hlt (by omega) (by omega)]
      obtain ⟨tk, te⟩ := op_take (i := 2) hb hn (by omega)
      obtain ⟨s1, s2⟩ := opv_sizes (l.take (l.length - 4)) 2 hbt
      by_cases hk : opk (l.take (l.length - 4)) 2 = true
      · rw [if_pos hk]
        simp only [Option.bind_some]
        by_cases he : (opv (l.take (l.length - 4)) 2).2.2.2.2.2 = ((l.length - 4 : Nat) : Int)
        · have hk' := tk.1 ⟨hk, he⟩
          have ee := te hk'.1 hk'.2
          rw [ee] at s1 s2
          rw [ee, spec_EntOk_eq _ _ _ _ _ _ s1 s2]
          simp only [Option.bind_some]
          cases hE : entOk (w2 l 0) (opv l 2).1 (opv l 2).2.1 (opv l 2).2.2.1 (opv l 2).2.2.2.1 (opv l 2).2.2.2.2.1 with
          | true =>
            have hC : entC l := ⟨h6, hc, hk', hE⟩
            have hne : ((opv l 2).2.2.2.2.2 != (l.length : Int) - 4) = false := by
              rw [hk'.2, ← en']
              simp
            rw [hne]
            unfold entR
            rw [if_pos hC]
            simp
          | false =>
            have hC : ¬ entC l := fun h => by rw [h.2.2.2] at hE; exact absurd hE (by simp)
            unfold entR
            rw [if_neg hC, zeros_lit]
            simp
        · have hC : ¬ entC l := fun h => he (tk.2 h.2.2.1).2
          have hne : ((opv (l.take (l.length - 4)) 2).2.2.2.2.2 != (l.length : Int) - 4) = true := by
            rw [en']
            simpa using he
          rw [hne]
          unfold entR
          rw [if_neg hC, zeros_lit]
          simp
      · have hC : ¬ entC l := fun h => hk (tk.2 h.2.2.1).1
        rw [if_neg hk]
        unfold entR
        rw [if_neg hC, zeros_lit]
        simp
    · have hC : ¬ entC l := fun h => hc h.2.1
      unfold entR
      rw [if_pos (by simpa using hc), if_neg hC]
      rfl
  · have hC : ¬ entC l := fun h => h6 h.1
    unfold entR
    rw [if_pos (by omega), if_neg hC]
    rfl
theorem impl_GetEnt_eq (l : List Int) (hb : isBytes l) (hl : l.length ≤ 1073741824) : F_impl_GetEnt l = some (entR l) := by
  have hl' : l.length ≤ 1099511627776 := by omega
  have bad : ∀ (q : Int) (o : Int × ByteArray × ByteArray × Int × Int) (a : Int), 0 ≤ a → a ≤ 1099511627777 → ¬ entC l → F_impl_reader_word (l, 0, false) = some (q, l, o.1, o.2.2.2.2 == 0) → F_impl_reader_op (l, o.1, o.2.2.2.2 == 0) = some (opBad l a) → F_impl_GetEnt l = some (entR l) := by
    intro q o a ha0 ha1 hC h1 h2
    obtain ⟨v, a', h4⟩ := four_bad l a true hb hl' ha0 ha1 (by simp)
    unfold F_impl_GetEnt entR
    rw [h1, if_neg hC]
    simp only [Option.bind_some]
    rw [h2]
    unfold opBad
    simp only [Option.bind_some]
    rw [h4]
    simp only [Option.bind_some, done_eq]
    rfl
  by_cases h2 : 2 ≤ l.length
  · have d0 : F_impl_reader_word (l, 0, false) = some (w2 l 0, l, 2, false) := by
      rw [word_eq l 0 false hb hl' (by omega) (by omega), if_pos ⟨rfl, by omega⟩]
      rfl
    have d1 := impl_op_eq l 2 hb hl' (by omega) (by omega)
    obtain ⟨s1, s2⟩ := opv_sizes l 2 hb
    by_cases hk : opk l 2 = true
    · rw [if_pos hk] at d1
      have hnx := op_next hb hk
      have hlast : 0 ≤ (oW2 l 2).2.1 ∧ (oW2 l 2).2.1 ≤ l.length := getW_next l _
      have hv : (opv l 2).2.2.2.2.2 = (oW2 l 2).2.1 := rfl
      by_cases he : (opv l 2).2.2.2.2.2 + 4 ≤ l.length
      · have d4 := four_eq l (opv l 2).2.2.2.2.2 hb hl' (by omega) he
        unfold F_impl_GetEnt
        rw [d0]
        simp only [Option.bind_some]
        rw [d1]
        simp only [Option.bind_some]
        rw [d4]
        simp only [Option.bind_some, done_eq, impl_EntOk_eq _ _ _ _ _ _ s1 s2, Bool.cond_eq_ite]
        by_cases hend : (opv l 2).2.2.2.2.2 + 4 = (l.length : Int)
        · have en : (opv l 2).2.2.2.2.2.toNat = l.length - 4 := by omega
          have en' : (opv l 2).2.2.2.2.2 = ((l.length - 4 : Nat) : Int) := by omega
          have en2 : (opv l 2).2.2.2.2.2 = (l.length : Int) - 4 := by omega
          have hbt := isBytes_take hb (l.length - 4)
          have hlt : (l.take (l.length - 4)).length ≤ 1099511627776 := by simp; omega
          have p1 : (0 : Int) ≤ (opv l 2).2.2.2.2.2 := by omega
          have p2 : (opv l 2).2.2.2.2.2 ≤ (l.length : Int) := by omega
          simp only [Int.le_refl, p1, p2, if_true, en, Int.toNat_zero, List.drop_zero, impl_Crc_eq _ hbt hlt, hend, Option.bind_some]
          rw [en2]
          cases hE : entOk (w2 l 0) (opv l 2).1 (opv l 2).2.1 (opv l 2).2.2.1 (opv l 2).2.2.2.1 (opv l 2).2.2.2.2.1 with
          | true =>
            by_cases hc : get4 l ((l.length : Int) - 4) = crc (l.take (l.length - 4))
            · have hC : entC l := ⟨by omega, hc, ⟨hk, en'⟩, hE⟩
              unfold entR
              rw [if_pos hC, hc]
              simp
            · have hC : ¬ entC l := fun h => hc h.2.1
              unfold entR
              have hcb : (get4 l ((l.length : Int) - 4) != crc (l.take (l.length - 4))) = true := by simpa using hc
              rw [if_neg hC, hcb, zeros_lit]
              simp
          | false =>
            have hC : ¬ entC l := fun h => by rw [h.2.2.2] at hE; exact absurd hE (by simp)
            unfold entR
            rw [if_neg hC, zeros_lit]
            simp
        · have hC : ¬ entC l := fun h => hend (by have := h.2.2.1.2; have := h.1; omega)
          have hb0 : ((opv l 2).2.2.2.2.2 + 4 == (l.length : Int)) = false := by simpa using hend
          unfold entR
          rw [if_neg hC, hb0, zeros_lit]
          simp
      · have hC : ¬ entC l := fun h => he (by have := h.2.2.1.2; have := h.1; omega)
        obtain ⟨v, a', h4⟩ := four_bad l (opv l 2).2.2.2.2.2 false hb hl' (by omega) (by omega) (fun _ => by omega)
        unfold F_impl_GetEnt entR
        rw [d0, if_neg hC]
        simp only [Option.bind_some]
        rw [d1]
        simp only [Option.bind_some]
        rw [h4]
        simp only [Option.bind_some, done_eq]
        rfl
    · rw [if_neg hk] at d1
      obtain ⟨a, ha0, ha1, d1⟩ := d1
      exact bad (w2 l 0) (2, noB, noB, 0, 1) a ha0 ha1 (fun h => hk h.2.2.1.1) d0 d1
  · have d0 : F_impl_reader_word (l, 0, false) = some (0, l, 0, true) := by
      rw [word_eq l 0 false hb hl' (by omega) (by omega), if_neg (by rintro ⟨_, h⟩; omega)]
    exact bad 0 (0, noB, noB, 0, 0) 0 (by omega) (by omega) (fun h => by have := h.1; omega) d0 (impl_op_bad l 0 hb hl' (by omega) (by omega))

/-! ### The law -/
end Go.Proofs.Ytmanmgafjbnakaa.Pl

