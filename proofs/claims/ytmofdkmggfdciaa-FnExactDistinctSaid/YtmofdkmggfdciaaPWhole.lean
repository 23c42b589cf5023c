/- Whole pools: sizes, copies, comparisons. No condition. -/
import Derived.Test.YtmofdkmggfdciaaPTree
namespace Go.Proofs.Ytmofdkmggfdciaa.Pl
open Go.Proofs.Ytmofdkmggfdciaa.R Go.Proofs.Ytmofdkmggfdciaa.XQ
set_option linter.unusedVariables false
set_option linter.unusedSimpArgs false

theorem szStep (o : Option Int) (n w : Int) (k : Int → Option Int) (h : szOk n w o) : (Option.bind o fun r => bif (decide (r < (0 : Int))) then some (-1 : Int) else k r) = some (-1) ∨ (0 ≤ n - w ∧ (Option.bind o fun r => bif (decide (r < (0 : Int))) then some (-1 : Int) else k r) = k (n - w)) := by
  obtain ⟨r, rfl, hc⟩ := h
  simp only [Option.bind_some, Bool.cond_eq_ite, decide_eq_true_eq]
  rcases hc with hc | ⟨h0, h1⟩
  · exact .inl (if_pos hc)
  · subst h1
    exact .inr ⟨h0, if_neg (by omega)⟩
def small (is : List E_i64) (ns : List E_LNode) (ags : List E_LAge) (cs : List E_LCell) (vs : List E_LVol) : Prop :=
  is.length ≤ 1048576 ∧ ns.length ≤ 1048576 ∧ sumW wSets ns ≤ 1048576 ∧ ags.length ≤ 1048576 ∧ cs.length ≤ 1048576 ∧ vs.length ≤ 1048576
theorem szPool_ok (is : List E_i64) (ns : List E_LNode) (ags : List E_LAge) (cs : List E_LCell) (vs : List E_LVol) (z : Int) (hi : is.length ≤ maxLen) (hn : ns.length ≤ maxLen) (hnn : ∀ a ∈ ns, List.length a ≤ maxLen ∧ ∀ b ∈ (show List E_s_LKey from a), List.length b ≤ maxLen)
    (ha : ags.length ≤ maxLen) (hc : cs.length ≤ maxLen) (hv : vs.length ≤ maxLen) (hvv : ∀ a ∈ vs, ByteArray.size a.1 ≤ maxLen) : ∃ r, F_laws_szPool (is, ns, ags, cs, vs, z, 1048576) = some r ∧ (r < 0 ∨ small is ns ags cs vs) := by
  have hT : F_laws_szTree (is, ns, 1048576) = some (-1) ∨ ∃ r, F_laws_szTree (is, ns, 1048576) = some r ∧ 0 ≤ r ∧ r ≤ 1048576 ∧ is.length ≤ 1048576 ∧ ns.length ≤ 1048576 ∧ sumW wSets ns ≤ 1048576 := by
    unfold F_laws_szTree
    rcases szStep _ _ _ (fun r1 => Option.bind (F_laws_szNodeS (ns, r1)) fun r2 => bif (decide (r2 < (0 : Int))) then some (-1 : Int) else some r2) (szIntS_ok is hi 1048576 (by omega) (by omega)) with h | ⟨h0, h⟩
    · exact .inl h
    · have hw := sumW_nonneg wSets_nonneg ns
      rcases szStep _ _ _ (fun r2 => some r2) (szNodeS_ok ns hn hnn (1048576 - (is.length : Int)) h0 (by omega)) with h' | ⟨h0', h'⟩
      · exact .inl (h.trans h')
      · refine .inr ⟨_, h.trans h', h0', by omega, by omega, by omega, by omega⟩
  unfold F_laws_szPool
  rcases hT with hT | ⟨r, hT, r0, r1, i1, n1, n2⟩
  · rw [hT]
    exact ⟨-1, rfl, .inl (by omega)⟩
  · simp only [hT, Option.bind_some]
    rw [Bool.cond_eq_ite, if_neg (by simp; omega)]
    rcases szStep _ _ _ (fun r2 => Option.bind (F_laws_szCellS (cs, r2)) fun r3 => bif (decide (r3 < (0 : Int))) then some (-1 : Int) else Option.bind (F_laws_szVolS (vs, r3)) fun r4 => bif (decide (r4 < (0 : Int))) then some (-1 : Int) else some r4) (szAgeS_ok ags ha r r0 r1) with h | ⟨h0, h⟩
    · exact ⟨-1, h, .inl (by omega)⟩
    · rcases szStep _ _ _ (fun r3 => Option.bind (F_laws_szVolS (vs, r3)) fun r4 => bif (decide (r4 < (0 : Int))) then some (-1 : Int) else some r4) (szCellS_ok cs hc (r - (ags.length : Nat)) h0 (by omega)) with h' | ⟨h0', h'⟩
      · exact ⟨-1, h.trans h', .inl (by omega)⟩
      · have hw := sumW_nonneg (w := fun a : E_LVol => (ByteArray.size a.1 : Int)) (fun a => Int.natCast_nonneg _) vs
        rcases szStep _ _ _ (fun r4 => some r4) (szVolS_ok vs hv hvv (r - (ags.length : Nat) - (cs.length : Nat)) h0' (by omega)) with h'' | ⟨h0'', h''⟩
        · exact ⟨-1, h.trans (h'.trans h''), .inl (by omega)⟩
        · exact ⟨_, h.trans (h'.trans h''), .inr ⟨i1, n1, n2, by omega, by omega, by omega⟩⟩
theorem node_small {ns : List E_LNode} (h : sumW wSets ns ≤ 1048576) {n : List E_s_LKey} (hn : n ∈ ns) : n.length ≤ 1048576 ∧ ∀ s ∈ n, List.length s ≤ 1048576 := by
  have h1 := (sumW_mem wSets_nonneg hn).1
  have h2 := sumW_nonneg lenK_nonneg n
  have h3 : wSets n = (List.length n : Int) + sumW lenK n := rfl
  refine ⟨by omega, fun s hs => ?_⟩
  have h4 := (sumW_mem lenK_nonneg hs).1
  have h5 : lenK s = (List.length s : Int) := rfl
  omega
theorem toPool_eq (is : List E_i64) (ns : List E_LNode) (ags : List E_LAge) (cs : List E_LCell) (vs : List E_LVol) (z : Int) (h : small is ns ags cs vs) : F_laws_toPool (is, ns, ags, cs, vs, z) = some (is, ns, ags, cs, vs, z) := by
  obtain ⟨h1, h2, h3, h4, h5, h6⟩ := h
  have hN : F_laws_toNodeS ns = some ns := toNodeS_eq ns h2 fun a ha => by
    have hs := node_small h3 ha
    unfold F_laws_toNode
    rw [toKeySS_eq a hs.1 fun b hb => toKeyS_eq b (hs.2 b hb)]
    rfl
  unfold F_laws_toPool F_laws_toTree
  simp only [toIntS_eq is h1, hN, toAgeS_eq ags h4, toCellS_eq cs h5, toVolS_eq vs h6, Option.bind_some]
theorem eqPool_refl (is : List E_i64) (ns : List E_LNode) (ags : List E_LAge) (cs : List E_LCell) (vs : List E_LVol) (z : Int) (h : small is ns ags cs vs) : F_laws_eqPool (is, ns, ags, cs, vs, z, is, ns, ags, cs, vs, z) = some true := by
  obtain ⟨h1, h2, h3, h4, h5, h6⟩ := h
  have hN : F_laws_eqNodeS (ns, ns) = some true := eqNodeS_refl ns h2 fun a ha => by
    have hs := node_small h3 ha
    unfold F_laws_eqNode
    rw [eqKeySS_refl a hs.1 fun b hb => eqKeyS_refl b (hs.2 b hb)]
    rfl
  unfold F_laws_eqPool F_laws_eqTree
  simp only [eqIntS_refl is h1, hN, eqAgeS_refl ags h4, eqCellS_refl cs h5, eqVolS_refl vs h6, Option.bind_some, Bool.not_true, cond_false, bne_self_eq_false]
end Go.Proofs.Ytmofdkmggfdciaa.Pl
