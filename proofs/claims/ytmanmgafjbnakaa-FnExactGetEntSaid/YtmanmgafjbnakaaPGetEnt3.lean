/- An entry out of bytes: the two answers, and the law. No condition. -/
import Derived.Test.YtmanmgafjbnakaaPGetEnt2
namespace Go.Proofs.Ytmanmgafjbnakaa.Pl
open Go.Proofs.Ytmanmgafjbnakaa.R Go.Proofs.Ytmanmgafjbnakaa.XT
set_option linter.unusedVariables false
set_option linter.unusedSimpArgs false

def entC (l : List Int) : Prop := 6 ≤ l.length ∧ get4 l ((l.length : Int) - 4) = crc (l.take (l.length - 4)) ∧ (opk l 2 = true ∧ (opv l 2).2.2.2.2.2 = (l.length - 4 : Nat)) ∧ entOk (w2 l 0) (opv l 2).1 (opv l 2).2.1 (opv l 2).2.2.1 (opv l 2).2.2.2.1 (opv l 2).2.2.2.2.1 = true
noncomputable instance (l : List Int) : Decidable (entC l) := Classical.propDecidable _
noncomputable def entR (l : List Int) : Int × Int × ByteArray × ByteArray × Int × Int × Bool :=
  if entC l then (w2 l 0, (opv l 2).1, (opv l 2).2.1, (opv l 2).2.2.1, (opv l 2).2.2.2.1, (opv l 2).2.2.2.2.1, true) else (0, 0, noB, noB, 0, 0, false)
theorem opv_sizes (l : List Int) (i : Int) (hb : isBytes l) : (opv l i).2.1.size ≤ maxLen ∧ (opv l i).2.2.1.size ≤ maxLen :=
  ⟨size60 (getT_size l (i + 1) hb), size60 (getT_size l _ hb)⟩
theorem noB_lit : ({ data := #[] } : ByteArray) = noB := rfl
theorem zeros_lit : ((0 : Int), (0 : Int), ({ data := #[] } : ByteArray), ({ data := #[] } : ByteArray), (0 : Int), (0 : Int), false) = (0, 0, noB, noB, 0, 0, false) := rfl
theorem spec_GetEnt_eq (l : List Int) (hb : isBytes l) (hl : l.length ≤ 1073741824) : F_spec_GetEnt l = some (entR l) := by
  have hl' : l.length ≤ 1099511627776 := by omega
  unfold F_spec_GetEnt
  simp only [Bool.cond_eq_ite, decide_eq_true_eq]
  rw [w64 (n := (l.length : Int) - 4) (by omega) (by omega)]
  by_cases h6 : 6 ≤ l.length
  · have hn : l.length - 4 ≤ l.length := by omega
    have en : ((l.length : Int) - 4).toNat = l.length - 4 := by omega
    have en' : (l.length : Int) - 4 = ((l.length - 4 : Nat) : Int) := by omega
    have hbt := isBytes_take hb (l.length - 4)
    have hlt : (l.take (l.length - 4)).length ≤ 1099511627776 := by simp; omega
    rw [if_neg (by omega)]
    have p1 : (0 : Int) ≤ (l.length : Int) - 4 := by omega
    have p2 : (l.length : Int) - 4 ≤ (l.length : Int) := by omega
    simp only [Int.le_refl, if_true, p1, p2, l17Get_eq l _ hb hl' p1 (by omega), en, Option.bind_some, Int.toNat_zero, List.drop_zero, spec_Crc_eq _ hbt hlt]
    by_cases hc : get4 l ((l.length : Int) - 4) = crc (l.take (l.length - 4))
    · rw [if_neg (by rw [hc]; simp), spec_GetW_eq l 0 hb hl' (by omega) (by omega)]
      have eW : getW l 0 = (w2 l 0, 2, true) := if_pos ⟨Int.le_refl _, by omega⟩
      rw [eW]
      simp only [Option.bind_some]
      rw [spec_GetOp_eq _ 2 hbt hlt (by omega) (by omega)]
      obtain ⟨tk, te⟩ := op_take (i := 2) hb hn (by omega)
      obtain ⟨s1, s2⟩ := opv_sizes (l.take (l.length - 4)) 2 hbt
      by_cases hk : opk (l.take (l.length - 4)) 2 = true
      · rw [if_pos hk]
        simp only [Option.bind_some]
        by_cases he : (opv (l.take (l.length - 4)) 2).2.2.2.2.2 = ((l.length - 4 : Nat) : Int)
        · have hk' := tk.1 ⟨hk, he⟩
          have ee := te hk'.1 hk'.2
          rw [ee] at s1 s2
          rw [ee, spec_EntOk_eq _ _ _ _ _ _ s1 s2]
          simp only [Option.bind_some]
          cases hE : entOk (w2 l 0) (opv l 2).1 (opv l 2).2.1 (opv l 2).2.2.1 (opv l 2).2.2.2.1 (opv l 2).2.2.2.2.1 with
          | true =>
            have hC : entC l := ⟨h6, hc, hk', hE⟩
            have hne : ((opv l 2).2.2.2.2.2 != (l.length : Int) - 4) = false := by
              rw [hk'.2, ← en']
              simp
            rw [hne]
            unfold entR
            rw [if_pos hC]
            simp
          | false =>
            have hC : ¬ entC l := fun h => by rw [h.2.2.2] at hE; exact absurd hE (by simp)
            unfold entR
            rw [if_neg hC, zeros_lit]
            simp
        · have hC : ¬ entC l := fun h => he (tk.2 h.2.2.1).2
          have hne : ((opv (l.take (l.length - 4)) 2).2.2.2.2.2 != (l.length : Int) - 4) = true := by
            rw [en']
            simpa using he
          rw [hne]
          unfold entR
          rw [if_neg hC, zeros_lit]
          simp
      · have hC : ¬ entC l := fun h => hk (tk.2 h.2.2.1).1
        rw [if_neg hk]
        unfold entR
        rw [if_neg hC, zeros_lit]
        simp
    · have hC : ¬ entC l := fun h => hc h.2.1
      unfold entR
      rw [if_pos (by simpa using hc), if_neg hC]
      rfl
  · have hC : ¬ entC l := fun h => h6 h.1
    unfold entR
    rw [if_pos (by omega), if_neg hC]
    rfl
theorem impl_GetEnt_eq (l : List Int) (hb : isBytes l) (hl : l.length ≤ 1073741824) : F_impl_GetEnt l = some (entR l) := by
  have hl' : l.length ≤ 1099511627776 := by omega
  have bad : ∀ (q : Int) (o : Int × ByteArray × ByteArray × Int × Int) (a : Int), 0 ≤ a → a ≤ 1099511627777 → ¬ entC l → F_impl_reader_word (l, 0, false) = some (q, l, o.1, o.2.2.2.2 == 0) → F_impl_reader_op (l, o.1, o.2.2.2.2 == 0) = some (opBad l a) → F_impl_GetEnt l = some (entR l) := by
    intro q o a ha0 ha1 hC h1 h2
    obtain ⟨v, a', h4⟩ := four_bad l a true hb hl' ha0 ha1 (by simp)
    unfold F_impl_GetEnt entR
    rw [h1, if_neg hC]
    simp only [Option.bind_some]
    rw [h2]
    unfold opBad
    simp only [Option.bind_some]
    rw [h4]
    simp only [Option.bind_some, done_eq]
    rfl
  by_cases h2 : 2 ≤ l.length
  · have d0 : F_impl_reader_word (l, 0, false) = some (w2 l 0, l, 2, false) := by
      rw [word_eq l 0 false hb hl' (by omega) (by omega), if_pos ⟨rfl, by omega⟩]
      rfl
    have d1 := impl_op_eq l 2 hb hl' (by omega) (by omega)
    obtain ⟨s1, s2⟩ := opv_sizes l 2 hb
    by_cases hk : opk l 2 = true
    · rw [if_pos hk] at d1
      have hnx := op_next hb hk
      have hlast : 0 ≤ (oW2 l 2).2.1 ∧ (oW2 l 2).2.1 ≤ l.length := getW_next l _
      have hv : (opv l 2).2.2.2.2.2 = (oW2 l 2).2.1 := rfl
      by_cases he : (opv l 2).2.2.2.2.2 + 4 ≤ l.length
      · have d4 := four_eq l (opv l 2).2.2.2.2.2 hb hl' (by omega) he
        unfold F_impl_GetEnt
        rw [d0]
        simp only [Option.bind_some]
        rw [d1]
        simp only [Option.bind_some]
        rw [d4]
        simp only [Option.bind_some, done_eq, impl_EntOk_eq _ _ _ _ _ _ s1 s2, Bool.cond_eq_ite]
        by_cases hend : (opv l 2).2.2.2.2.2 + 4 = (l.length : Int)
        · have en : (opv l 2).2.2.2.2.2.toNat = l.length - 4 := by omega
          have en' : (opv l 2).2.2.2.2.2 = ((l.length - 4 : Nat) : Int) := by omega
          have en2 : (opv l 2).2.2.2.2.2 = (l.length : Int) - 4 := by omega
          have hbt := isBytes_take hb (l.length - 4)
          have hlt : (l.take (l.length - 4)).length ≤ 1099511627776 := by simp; omega
          have p1 : (0 : Int) ≤ (opv l 2).2.2.2.2.2 := by omega
          have p2 : (opv l 2).2.2.2.2.2 ≤ (l.length : Int) := by omega
          simp only [Int.le_refl, p1, p2, if_true, en, Int.toNat_zero, List.drop_zero, impl_Crc_eq _ hbt hlt, hend, Option.bind_some]
          rw [en2]
          cases hE : entOk (w2 l 0) (opv l 2).1 (opv l 2).2.1 (opv l 2).2.2.1 (opv l 2).2.2.2.1 (opv l 2).2.2.2.2.1 with
          | true =>
            by_cases hc : get4 l ((l.length : Int) - 4) = crc (l.take (l.length - 4))
            · have hC : entC l := ⟨by omega, hc, ⟨hk, en'⟩, hE⟩
              unfold entR
              rw [if_pos hC, hc]
              simp
            · have hC : ¬ entC l := fun h => hc h.2.1
              unfold entR
              have hcb : (get4 l ((l.length : Int) - 4) != crc (l.take (l.length - 4))) = true := by simpa using hc
              rw [if_neg hC, hcb, zeros_lit]
              simp
          | false =>
            have hC : ¬ entC l := fun h => by rw [h.2.2.2] at hE; exact absurd hE (by simp)
            unfold entR
            rw [if_neg hC, zeros_lit]
            simp
        · have hC : ¬ entC l := fun h => hend (by have := h.2.2.1.2; have := h.1; omega)
          have hb0 : ((opv l 2).2.2.2.2.2 + 4 == (l.length : Int)) = false := by simpa using hend
          unfold entR
          rw [if_neg hC, hb0, zeros_lit]
          simp
      · have hC : ¬ entC l := fun h => he (by have := h.2.2.1.2; have := h.1; omega)
        obtain ⟨v, a', h4⟩ := four_bad l (opv l 2).2.2.2.2.2 false hb hl' (by omega) (by omega) (fun _ => by omega)
        unfold F_impl_GetEnt entR
        rw [d0, if_neg hC]
        simp only [Option.bind_some]
        rw [d1]
        simp only [Option.bind_some]
        rw [h4]
        simp only [Option.bind_some, done_eq]
        rfl
    · rw [if_neg hk] at d1
      obtain ⟨a, ha0, ha1, d1⟩ := d1
      exact bad (w2 l 0) (2, noB, noB, 0, 1) a ha0 ha1 (fun h => hk h.2.2.1.1) d0 d1
  · have d0 : F_impl_reader_word (l, 0, false) = some (0, l, 0, true) := by
      rw [word_eq l 0 false hb hl' (by omega) (by omega), if_neg (by rintro ⟨_, h⟩; omega)]
    exact bad 0 (0, noB, noB, 0, 0) 0 (by omega) (by omega) (fun h => by have := h.1; omega) d0 (impl_op_bad l 0 hb hl' (by omega) (by omega))

/-! ### The law -/
theorem eqOp_refl (k : Int) (n t : ByteArray) (a b : Int) : F_laws_eqOp (k, n, t, a, b, k, n, t, a, b) = some true := by
  unfold F_laws_eqOp
  simp
theorem eqEnt_refl (q k : Int) (n t : ByteArray) (a b : Int) : F_laws_eqEnt (q, k, n, t, a, b, q, k, n, t, a, b) = some true := by
  unfold F_laws_eqEnt
  simp [eqOp_refl]
theorem law_GetEnt (l : List Int) (hb : isBytes l) : F_laws_FnExactGetEnt l = some true := by
  unfold F_laws_FnExactGetEnt
  simp only [Bool.cond_eq_ite, decide_eq_true_eq]
  by_cases h : (l.length : Int) > 1048576
  · rw [if_pos h]
  · have hl : l.length ≤ 1099511627776 := by omega
    rw [if_neg h, toByteS_eq l hl]
    simp only [Option.bind_some]
    rw [spec_GetEnt_eq l hb (by omega)]
    simp only [Option.bind_some]
    rw [impl_GetEnt_eq l hb (by omega)]
    simp only [Option.bind_some]
    rw [eqEnt_refl]
    simp only [Option.bind_some]
    rw [eqByteS_refl l hl]
    simp
end Go.Proofs.Ytmanmgafjbnakaa.Pl
