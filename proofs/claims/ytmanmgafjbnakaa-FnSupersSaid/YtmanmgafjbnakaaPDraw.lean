/- What is drawn: the cursor's steps never fail. No condition. -/
import Derived.Test.YtmanmgafjbnakaaPLoops
import Derived.Test.YtmanmgafjbnakaaPRng
namespace Go.Proofs.Ytmanmgafjbnakaa.Pl
open Go.Proofs.Ytmanmgafjbnakaa.R Go.Proofs.Ytmanmgafjbnakaa.XU
set_option linter.unusedVariables false
set_option linter.unusedSimpArgs false

/-- A cursor's place. -/
def curOk (c : List Int) (p : Int) : Prop := c.length ≤ 1099511627776 ∧ 0 ≤ p ∧ p ≤ c.length
/-- A step: it gives something, the code stays, the place stays right. -/
def gives {A : Type} (o : Option (A × List Int × Int × Int)) (c : List Int) (Q : A → Prop) : Prop := ∃ v p s, o = some (v, c, p, s) ∧ curOk c p ∧ Q v
theorem Byte_ok (c : List Int) (p s : Int) (h : curOk c p) : gives (F_spec_l1Byte (c, p, s)) c (fun v => 0 ≤ v ∧ v < 256) := by
  obtain ⟨h1, h2, h3⟩ := h
  unfold F_spec_l1Byte
  simp only [Bool.cond_eq_ite, decide_eq_true_eq, and255]
  by_cases hp : p < (c.length : Int)
  · rw [if_pos hp, if_pos h2, if_pos hp]
    refine ⟨_, _, _, rfl, ⟨h1, ?_, ?_⟩, by omega⟩
    · rw [w64 (by omega) (by omega)]
      omega
    · rw [w64 (by omega) (by omega)]
      omega
  · rw [if_neg hp]
    exact ⟨_, _, _, rfl, ⟨h1, h2, h3⟩, by omega⟩
theorem Below_ok (c : List Int) (p s n : Int) (h : curOk c p) : gives (F_spec_l1Below (c, p, s, n)) c (fun v => 0 ≤ v ∧ (0 < n → v < n)) := by
  unfold F_spec_l1Below
  simp only [Bool.cond_eq_ite, decide_eq_true_eq]
  by_cases hn : n ≤ 0
  · rw [if_pos hn]
    exact ⟨_, _, _, rfl, h, Int.le_refl _, fun hh => by omega⟩
  · rw [if_neg hn]
    obtain ⟨v1, p1, s1, e1, h1, q1⟩ := Byte_ok c p s h
    obtain ⟨v2, p2, s2, e2, h2, q2⟩ := Byte_ok c p1 s1 h1
    obtain ⟨v3, p3, s3, e3, h3, q3⟩ := Byte_ok c p2 s2 h2
    rw [e1]
    simp only [Option.bind_some]
    have mod : ∀ v : Int, 0 ≤ v → 0 ≤ Int.tmod v n ∧ (0 < n → Int.tmod v n < n) := fun v hv => by
      rw [Int.tmod_eq_emod_of_nonneg hv]
      exact ⟨Int.emod_nonneg _ (by omega), fun hh => Int.emod_lt_of_pos _ hh⟩
    by_cases h6 : n ≤ 256
    · rw [if_pos h6, if_neg (by omega)]
      exact ⟨_, _, _, rfl, h1, mod _ q1.1⟩
    · rw [if_neg h6, e2]
      simp only [Option.bind_some]
      rw [e3]
      simp only [Option.bind_some]
      rw [if_neg (by omega)]
      rw [w64 (n := v1 * 65536) (by omega) (by omega), w64 (n := v2 * 256) (by omega) (by omega), w64 (n := v1 * 65536 + v2 * 256) (by omega) (by omega), w64 (n := v1 * 65536 + v2 * 256 + v3) (by omega) (by omega)]
      exact ⟨_, _, _, rfl, h3, mod _ (by omega)⟩
theorem Int_ok (c : List Int) (p s : Int) (L : List Int) (hL : 0 < L.length) (hL2 : L.length ≤ 1048576) (h : curOk c p) : gives (F_spec_l1Int (c, p, s, L)) c (fun v => v ∈ L) := by
  obtain ⟨v, p1, s1, e1, h1, q1⟩ := Below_ok c p s (L.length : Int) h
  have := q1.2 (by omega)
  unfold F_spec_l1Int
  rw [e1]
  simp only [Option.bind_some]
  rw [if_pos q1.1, if_pos this]
  exact ⟨_, _, _, rfl, h1, getD_mem z_i64 L v q1.1 this⟩
theorem Once_ok (c : List Int) (p s n : Int) (h : curOk c p) : gives (F_spec_l1Once (c, p, s, n)) c (fun _ => True) := by
  obtain ⟨v, p1, s1, e1, h1, q1⟩ := Below_ok c p s n h
  unfold F_spec_l1Once
  rw [e1]
  exact ⟨_, _, _, rfl, h1, trivial⟩
theorem New_ok (c : List Int) (hc : c.length ≤ 1099511627776) : ∃ s, F_spec_l1New c = some (c, 0, s) := by
  have key := loop_prop (step := S_spec_l1New_3 (fun x2 : List Int × Int => some (x2.1, (0 : Int), x2.2))) (fun t : List Int × Int × Int => c.length - t.2.2.toNat) (fun t => t.1 = c ∧ 0 ≤ t.2.2 ∧ t.2.2 ≤ c.length) (fun _ res => ∃ s, res = some (c, 0, s)) ?_ (c, (Go.IntKind.wrap .i64 ((941941 : Int) + ((List.length c : Nat) : Int))), (0 : Int)) ⟨rfl, Int.le_refl _, by simp⟩ (by simp; omega)
  · exact key
  · rintro again ⟨c', s, i⟩ ⟨rfl, h0, h1⟩ hag
    simp only at h0 h1
    unfold S_spec_l1New_3
    simp only [Bool.cond_eq_ite, decide_eq_true_eq]
    by_cases hi : i < (c'.length : Int)
    · rw [if_pos hi]
      simp only [Option.bind_some, decide_eq_true_eq]
      by_cases h4 : i < 4000
      · rw [if_pos h4, if_pos h0, if_pos hi]
        have hw : Go.IntKind.wrap .i64 (i + 1) = i + 1 := w64 (by omega) (by omega)
        rw [hw]
        exact hag _ ⟨rfl, by simp only; omega, by simp only; omega⟩ (by simp only; omega)
      · rw [if_neg h4]
        exact ⟨_, rfl⟩
    · rw [if_neg hi]
      exact ⟨_, rfl⟩
end Go.Proofs.Ytmanmgafjbnakaa.Pl
