/- Draw, TxtDraw, Texts. No condition. -/
import Derived.Test.YtkjpediopepbkaaDoorPParse2
/- What is drawn: the cursor's steps never fail. No condition. -/
namespace Go.Proofs.YtkjpediopepbkaaDoor.Pl
open Go.Proofs.YtkjpediopepbkaaDoor.R Go.Proofs.YtkjpediopepbkaaDoor.XH
set_option linter.unusedVariables false
set_option linter.unusedSimpArgs false

/-- A cursor's place. -/
def curOk (c : List Int) (p : Int) : Prop := c.length ≤ 1099511627776 ∧ 0 ≤ p ∧ p ≤ c.length
/-- A step: it gives something, the code stays, the place stays right. -/
def gives {A : Type} (o : Option (A × List Int × Int × Int)) (c : List Int) (Q : A → Prop) : Prop := ∃ v p s, o = some (v, c, p, s) ∧ curOk c p ∧ Q v
theorem Byte_ok (c : List Int) (p s : Int) (h : curOk c p) : gives (F_spec_l1Byte (c, p, s)) c (fun v => 0 ≤ v ∧ v < 256) := by
  obtain ⟨h1, h2, h3⟩ := h
  unfold F_spec_l1Byte
  simp only [Bool.cond_eq_ite, decide_eq_true_eq, and255]
  by_cases hp : p < (c.length : Int)
  · rw [if_pos hp, if_pos h2, if_pos hp]
    refine ⟨_, _, _, rfl, ⟨h1, ?_, ?_⟩, by omega⟩
    · rw [w64 (by omega) (by omega)]
      omega
    · rw [w64 (by omega) (by omega)]
      omega
  · rw [if_neg hp]
    exact ⟨_, _, _, rfl, ⟨h1, h2, h3⟩, by omega⟩
theorem Below_ok (c : List Int) (p s n : Int) (h : curOk c p) : gives (F_spec_l1Below (c, p, s, n)) c (fun v => 0 ≤ v ∧ (0 < n → v < n)) := by
  unfold F_spec_l1Below
  simp only [Bool.cond_eq_ite, decide_eq_true_eq]
  by_cases hn : n ≤ 0
  · rw [if_pos hn]
    exact ⟨_, _, _, rfl, h, Int.le_refl _, fun hh => by omega⟩
  · rw [if_neg hn]
    obtain ⟨v1, p1, s1, e1, h1, q1⟩ := Byte_ok c p s h
    obtain ⟨v2, p2, s2, e2, h2, q2⟩ := Byte_ok c p1 s1 h1
    obtain ⟨v3, p3, s3, e3, h3, q3⟩ := Byte_ok c p2 s2 h2
    rw [e1]
    simp only [Option.bind_some]
    have mod : ∀ v : Int, 0 ≤ v → 0 ≤ Int.tmod v n ∧ (0 < n → Int.tmod v n < n) := fun v hv => by
      rw [Int.tmod_eq_emod_of_nonneg hv]
      exact ⟨Int.emod_nonneg _ (by omega), fun hh => Int.emod_lt_of_pos _ hh⟩
    by_cases h6 : n ≤ 256
    · rw [if_pos h6, if_neg (by omega)]
      exact ⟨_, _, _, rfl, h1, mod _ q1.1⟩
    · rw [if_neg h6, e2]
      simp only [Option.bind_some]
      rw [e3]
      simp only [Option.bind_some]
      rw [if_neg (by omega)]
      rw [w64 (n := v1 * 65536) (by omega) (by omega), w64 (n := v2 * 256) (by omega) (by omega), w64 (n := v1 * 65536 + v2 * 256) (by omega) (by omega), w64 (n := v1 * 65536 + v2 * 256 + v3) (by omega) (by omega)]
      exact ⟨_, _, _, rfl, h3, mod _ (by omega)⟩
theorem Int_ok (c : List Int) (p s : Int) (L : List Int) (hL : 0 < L.length) (hL2 : L.length ≤ 1048576) (h : curOk c p) : gives (F_spec_l1Int (c, p, s, L)) c (fun v => v ∈ L) := by
  obtain ⟨v, p1, s1, e1, h1, q1⟩ := Below_ok c p s (L.length : Int) h
  have := q1.2 (by omega)
  unfold F_spec_l1Int
  rw [e1]
  simp only [Option.bind_some]
  rw [if_pos q1.1, if_pos this]
  exact ⟨_, _, _, rfl, h1, getD_mem z_i64 L v q1.1 this⟩
theorem Once_ok (c : List Int) (p s n : Int) (h : curOk c p) : gives (F_spec_l1Once (c, p, s, n)) c (fun _ => True) := by
  obtain ⟨v, p1, s1, e1, h1, q1⟩ := Below_ok c p s n h
  unfold F_spec_l1Once
  rw [e1]
  exact ⟨_, _, _, rfl, h1, trivial⟩
theorem New_ok (c : List Int) (hc : c.length ≤ 1099511627776) : ∃ s, F_spec_l1New c = some (c, 0, s) := by
  have key := loop_prop (step := S_spec_l1New_3 (fun x2 : List Int × Int => some (x2.1, (0 : Int), x2.2))) (fun t : List Int × Int × Int => c.length - t.2.2.toNat) (fun t => t.1 = c ∧ 0 ≤ t.2.2 ∧ t.2.2 ≤ c.length) (fun _ res => ∃ s, res = some (c, 0, s)) ?_ (c, (Go.IntKind.wrap .i64 ((941941 : Int) + ((List.length c : Nat) : Int))), (0 : Int)) ⟨rfl, Int.le_refl _, by simp⟩ (by simp; omega)
  · exact key
  · rintro again ⟨c', s, i⟩ ⟨rfl, h0, h1⟩ hag
    simp only at h0 h1
    unfold S_spec_l1New_3
    simp only [Bool.cond_eq_ite, decide_eq_true_eq]
    by_cases hi : i < (c'.length : Int)
    · rw [if_pos hi]
      simp only [Option.bind_some, decide_eq_true_eq]
      by_cases h4 : i < 4000
      · rw [if_pos h4, if_pos h0, if_pos hi]
        have hw : Go.IntKind.wrap .i64 (i + 1) = i + 1 := w64 (by omega) (by omega)
        rw [hw]
        exact hag _ ⟨rfl, by simp only; omega, by simp only; omega⟩ (by simp only; omega)
      · rw [if_neg h4]
        exact ⟨_, rfl⟩
    · rw [if_neg hi]
      exact ⟨_, rfl⟩
end Go.Proofs.YtkjpediopepbkaaDoor.Pl

/- What is drawn for the texts. No condition. -/
namespace Go.Proofs.YtkjpediopepbkaaDoor.Pl
open Go.Proofs.YtkjpediopepbkaaDoor.R Go.Proofs.YtkjpediopepbkaaDoor.XH
set_option linter.unusedVariables false
set_option linter.unusedSimpArgs false

theorem StrIn_ok (c : List Int) (p s : Int) (L : List ByteArray) (hL : 0 < L.length) (hL2 : L.length ≤ 1048576) (h : curOk c p) : gives (F_spec_l1Str (c, p, s, L)) c (fun v => v ∈ L) := by
  obtain ⟨v, p1, s1, e1, h1, q1⟩ := Below_ok c p s (L.length : Int) h
  have := q1.2 (by omega)
  unfold F_spec_l1Str
  rw [e1]
  simp only [Option.bind_some]
  rw [if_pos q1.1, if_pos this]
  exact ⟨_, _, _, rfl, h1, getD_mem z_string L v q1.1 this⟩
theorem NameIn_ok (c : List Int) (p s : Int) (h : curOk c p) : gives (F_spec_l1Name (c, p, s)) c (fun v => v.size ≤ 60) := by
  obtain ⟨v, p1, s1, e1, h1, q1⟩ := StrIn_ok c p s [{ data := #[97] }, { data := #[98] }, { data := #[99] }, { data := #[100] }, { data := #[101, 53] }] (by simp) (by simp) h
  unfold F_spec_l1Name
  rw [e1]
  refine ⟨_, _, _, rfl, h1, ?_⟩
  simp only [List.mem_cons, List.not_mem_nil, or_false] at q1
  show v.size ≤ 60
  rcases q1 with rfl | rfl | rfl | rfl | rfl <;> decide
theorem mem_i64r {L : List Int} (h : ∀ x ∈ L, i64r x) {v : Int} (hv : v ∈ L) : i64r v := h v hv
theorem NumIn_ok (c : List Int) (p s : Int) (h : curOk c p) : gives (F_spec_l1Num (c, p, s)) c (fun v => i64r v) := by
  obtain ⟨v, p1, s1, e1, h1, q1⟩ := Int_ok c p s [0, 1, 7, 255, 256, 4660, 65535, 65536, -1, 9223372036854775807, -9223372036854775808] (by simp) (by simp) h
  unfold F_spec_l1Num
  rw [e1]
  refine ⟨_, _, _, rfl, h1, ?_⟩
  simp only [List.mem_cons, List.not_mem_nil, or_false] at q1
  show i64r v
  unfold i64r
  rcases q1 with rfl | rfl | rfl | rfl | rfl | rfl | rfl | rfl | rfl | rfl | rfl <;> exact ⟨by decide, by decide⟩
/-- A key that is drawn: its numbers are small. -/
def small (v : Int) : Prop := -10 ≤ v ∧ v ≤ 2000
theorem small_r {v : Int} (h : small v) : i64r v := ⟨by have := h.1; omega, by have := h.2; omega⟩
def givesK (o : Option (Int × Int × Int × Int × Int × List Int × Int × Int)) (c : List Int) : Prop := ∃ a b k d g p s, o = some (a, b, k, d, g, c, p, s) ∧ curOk c p ∧ small a ∧ small b ∧ small d
theorem l3Draw_ok (c : List Int) (p s : Int) (h : curOk c p) : givesK (F_spec_l3Draw (c, p, s)) c := by
  obtain ⟨v1, p1, s1, e1, h1, q1⟩ := Below_ok c p s 4 h
  obtain ⟨v2, p2, s2, e2, h2, q2⟩ := Below_ok c p1 s1 5 h1
  obtain ⟨v3, p3, s3, e3, h3, q3⟩ := Int_ok c p2 s2 [0, 1, 1, 1, 2] (by simp) (by simp) h2
  obtain ⟨v4, p4, s4, e4, h4, q4⟩ := Below_ok c p3 s3 24 h3
  obtain ⟨v5, p5, s5, e5, h5, q5⟩ := Int_ok c p4 s4 [0, 1, 256, 999] (by simp) (by simp) h4
  have b1 := q1.2 (by omega)
  have b2 := q2.2 (by omega)
  have b4 := q4.2 (by omega)
  unfold F_spec_l3Draw
  rw [e1]
  simp only [Option.bind_some]
  rw [e2]
  simp only [Option.bind_some]
  rw [e3]
  simp only [Option.bind_some, Bool.cond_eq_ite]
  rw [w64 (n := 1 + v2) (by omega) (by omega)]
  split
  · rw [e4]
    simp only [Option.bind_some]
    rw [e5]
    exact ⟨_, _, _, _, _, _, _, rfl, h5, ⟨by omega, by omega⟩, ⟨by omega, by omega⟩, ⟨by omega, by omega⟩⟩
  · exact ⟨_, _, _, _, _, _, _, rfl, h3, ⟨by omega, by omega⟩, ⟨by omega, by omega⟩, ⟨by omega, by omega⟩⟩
theorem l3Any_ok (c : List Int) (p s : Int) (h : curOk c p) : givesK (F_spec_l3Any (c, p, s)) c := by
  obtain ⟨a, b, k, d, g, p1, s1, e1, h1, qa, qb, qd⟩ := l3Draw_ok c p s h
  obtain ⟨v2, p2, s2, e2, h2, q2⟩ := Below_ok c p1 s1 12 h1
  obtain ⟨v3, p3, s3, e3, h3, q3⟩ := Int_ok c p2 s2 [-1, 15, 16] (by simp) (by simp) h2
  obtain ⟨v4, p4, s4, e4, h4, q4⟩ := Int_ok c p2 s2 [0, 60, 61] (by simp) (by simp) h2
  obtain ⟨v5, p5, s5, e5, h5, q5⟩ := Int_ok c p2 s2 [-1, 3] (by simp) (by simp) h2
  obtain ⟨v6, p6, s6, e6, h6, q6⟩ := Int_ok c p2 s2 [-1, 1, 23, 24] (by simp) (by simp) h2
  obtain ⟨v7, p7, s7, e7, h7, q7⟩ := Int_ok c p2 s2 [-1, 1, 999, 1000] (by simp) (by simp) h2
  simp only [List.mem_cons, List.not_mem_nil, or_false] at q3 q4 q5 q6 q7
  unfold F_spec_l3Any
  rw [e1]
  simp only [Option.bind_some]
  rw [e2]
  simp only [Option.bind_some, Bool.cond_eq_ite]
  split
  · rw [e3]
    exact ⟨_, _, _, _, _, _, _, rfl, h3, ⟨by omega, by omega⟩, qb, qd⟩
  · split
    · rw [e4]
      exact ⟨_, _, _, _, _, _, _, rfl, h4, qa, ⟨by omega, by omega⟩, qd⟩
    · split
      · rw [e5]
        exact ⟨_, _, _, _, _, _, _, rfl, h5, qa, qb, qd⟩
      · split
        · rw [e6]
          exact ⟨_, _, _, _, _, _, _, rfl, h6, qa, qb, ⟨by omega, by omega⟩⟩
        · split
          · rw [e7]
            exact ⟨_, _, _, _, _, _, _, rfl, h7, qa, qb, qd⟩
          · exact ⟨_, _, _, _, _, _, _, rfl, h2, qa, qb, qd⟩
theorem cur0 {c : List Int} (hc : c.length ≤ 1048576) : curOk c 0 := ⟨by omega, by omega, by omega⟩
theorem DrawKey_ok (c : List Int) (hc : c.length ≤ 1048576) : ∃ a b k d g, F_spec_DrawKeyText c = some (a, b, k, d, g) ∧ i64r a ∧ i64r b ∧ i64r d := by
  obtain ⟨s, e0⟩ := New_ok c (by omega)
  obtain ⟨a, b, k, d, g, p1, s1, e1, h1, qa, qb, qd⟩ := l3Any_ok c 0 s (cur0 hc)
  unfold F_spec_DrawKeyText
  rw [e0]
  simp only [Option.bind_some]
  rw [e1]
  exact ⟨a, b, k, d, g, rfl, small_r qa, small_r qb, small_r qd⟩
theorem DrawNum_ok (c : List Int) (hc : c.length ≤ 1048576) : ∃ v, F_spec_DrawNumText c = some v ∧ i64r v := by
  obtain ⟨s, e0⟩ := New_ok c (by omega)
  obtain ⟨v, p1, s1, e1, h1, q1⟩ := NumIn_ok c 0 s (cur0 hc)
  unfold F_spec_DrawNumText
  rw [e0]
  simp only [Option.bind_some]
  rw [e1]
  exact ⟨v, rfl, q1⟩
theorem DrawCode_ok (c : List Int) (hc : c.length ≤ 1048576) : ∃ v, F_spec_DrawCodeText c = some v ∧ -1 ≤ v ∧ v ≤ 8 := by
  obtain ⟨s, e0⟩ := New_ok c (by omega)
  obtain ⟨v, p1, s1, e1, h1, q1⟩ := Below_ok c 0 s 10 (cur0 hc)
  have := q1.2 (by omega)
  unfold F_spec_DrawCodeText
  rw [e0]
  simp only [Option.bind_some]
  rw [e1]
  simp only [Option.bind_some]
  rw [w64 (n := v - 1) (by omega) (by omega)]
  exact ⟨_, rfl, by omega, by omega⟩
theorem DrawParse_ok (c : List Int) (hc : c.length ≤ 1048576) : ∃ s, F_spec_DrawParseNum c = some s ∧ s.size ≤ 60 := by
  obtain ⟨s, e0⟩ := New_ok c (by omega)
  obtain ⟨v1, p1, s1, e1, h1, q1⟩ := Once_ok c 0 s 3 (cur0 hc)
  unfold F_spec_DrawParseNum
  rw [e0]
  simp only [Option.bind_some]
  rw [e1]
  simp only [Option.bind_some, Bool.cond_eq_ite]
  split
  · obtain ⟨v, p2, s2, e2, h2, q2⟩ := StrIn_ok c p1 s1 [{ data := #[] }, { data := #[48, 48] }, { data := #[48, 49] }, { data := #[120] }, { data := #[45, 49] }, { data := #[54, 53, 53, 51, 53] }, { data := #[54, 53, 53, 51, 54] }, { data := #[49, 48, 48, 48, 48, 48] }, { data := #[49, 32] }] (by simp) (by simp) h1
    rw [e2]
    refine ⟨_, rfl, ?_⟩
    simp only [List.mem_cons, List.not_mem_nil, or_false] at q2
    show v.size ≤ 60
    rcases q2 with rfl | rfl | rfl | rfl | rfl | rfl | rfl | rfl | rfl <;> decide
  · obtain ⟨v, p2, s2, e2, h2, q2⟩ := Below_ok c p1 s1 70000 h1
    have := q2.2 (by omega)
    rw [e2]
    simp only [Option.bind_some]
    have hr : i64r v := ⟨by omega, by omega⟩
    rw [NumText_eq v hr.1 hr.2]
    refine ⟨_, rfl, ?_⟩
    have := itoaB_size v hr.1 hr.2
    omega
theorem DrawMap_ok (c : List Int) (hc : c.length ≤ 1048576) : ∃ nm fx L, F_spec_DrawMapText c = some (nm, fx, L) ∧ nm.size ≤ 60 ∧ L.length ≤ 8 ∧ ∀ x ∈ L, i64r x := by
  obtain ⟨s, e0⟩ := New_ok c (by omega)
  obtain ⟨nm, p1, s1, e1, h1, q1⟩ := NameIn_ok c 0 s (cur0 hc)
  obtain ⟨fx, p2, s2, e2, h2, _⟩ := Once_ok c p1 s1 2 h1
  obtain ⟨n, p3, s3, e3, h3, q3⟩ := Below_ok c p2 s2 5 h2
  have hn := q3.2 (by omega)
  unfold F_spec_DrawMapText
  rw [e0]
  simp only [Option.bind_some]
  rw [e1]
  simp only [Option.bind_some]
  rw [e2]
  simp only [Option.bind_some]
  rw [e3]
  simp only [Option.bind_some]
  unfold L_spec_DrawMapText_4
  have key := loop_prop (step := S_spec_DrawMapText_4 (R := ByteArray × Bool × List Int) (fun x7 => some (x7.2.2.1, x7.2.2.2, ([] : List E_i64))) (fun x8 => some (x8.2.2.1, x8.2.2.2.1, x8.2.2.2.2)))
    (fun t => match t with
      | .inl t => t.1.toNat
      | .inr t => t.1.toNat)
    (fun t => match t with
      | .inl t => 0 ≤ t.1 ∧ t.1 ≤ 5 ∧ t.2.2.2.1 = c ∧ curOk c t.2.2.2.2.1 ∧ t.2.2.2.2.2.2.1 = nm ∧ t.2.2.2.2.2.2.2 = fx
      | .inr t => 0 ≤ t.1 ∧ (t.2.2.2.2.2.2.2.2.length : Int) + t.1 ≤ 5 ∧ t.2.2.2.1 = c ∧ curOk c t.2.2.2.2.1 ∧ t.2.2.2.2.2.2.1 = nm ∧ t.2.2.2.2.2.2.2.1 = fx ∧ ∀ x ∈ t.2.2.2.2.2.2.2.2, i64r x)
    (fun _ res => ∃ L, res = some (nm, fx, L) ∧ L.length ≤ 8 ∧ ∀ x ∈ L, i64r x) ?_ (Sum.inl (n, (⟨#[]⟩ : ByteArray), false, c, p3, s3, nm, fx)) ⟨q3.1, by omega, rfl, h3, rfl, rfl⟩ (by simp only; omega)
  · obtain ⟨L, e, hl, hr⟩ := key
    exact ⟨nm, fx, L, e, q1, hl, hr⟩
  · rintro again (⟨i, z1, z2, c', p, s, nm', fx'⟩ | ⟨i, z1, z2, c', p, s, nm', fx', L⟩) hinv hag
    · obtain ⟨h0, h5, rfl, hp, rfl, rfl⟩ := hinv
      simp only at h0 h5 hp
      unfold S_spec_DrawMapText_4
      simp only [Bool.cond_eq_ite, decide_eq_true_eq]
      by_cases hi : i > 0
      · obtain ⟨v, p1, s1, e1, h1, q1⟩ := NumIn_ok c' p s hp
        rw [if_pos hi, e1]
        simp only [Option.bind_some]
        rw [if_pos (by simp), w64 (n := i - 1) (by omega) (by omega)]
        exact hag (Sum.inr _) ⟨by simp only; omega, by simp only [List.length_cons, List.length_nil]; omega, rfl, h1, rfl, rfl, by simpa using q1⟩ (by simp only; omega)
      · rw [if_neg hi]
        exact ⟨[], rfl, by simp, by simp⟩
    · obtain ⟨h0, h5, rfl, hp, rfl, rfl, hL⟩ := hinv
      simp only at h0 h5 hp hL
      unfold S_spec_DrawMapText_4
      simp only [Bool.cond_eq_ite, decide_eq_true_eq]
      by_cases hi : i > 0
      · obtain ⟨v, p1, s1, e1, h1, q1⟩ := NumIn_ok c' p s hp
        rw [if_pos hi, e1]
        simp only [Option.bind_some]
        rw [if_pos (by simp only [List.length_cons, List.length_nil]; omega), w64 (n := i - 1) (by omega) (by omega)]
        refine hag (Sum.inr _) ⟨by simp only; omega, by simp only [List.length_append, List.length_cons, List.length_nil]; omega, rfl, h1, rfl, rfl, fun x hx => ?_⟩ (by simp only; omega)
        rcases List.mem_append.1 hx with hx | hx
        · exact hL x hx
        · have : x = v := by simpa using hx
          rw [this]
          exact q1
      · rw [if_neg hi]
        exact ⟨L, rfl, by omega, hL⟩
end Go.Proofs.YtkjpediopepbkaaDoor.Pl

/- FnTexts, plain. No condition. -/
namespace Go.Proofs.YtkjpediopepbkaaDoor.Pl
open Go.Proofs.YtkjpediopepbkaaDoor.R Go.Proofs.YtkjpediopepbkaaDoor.XH
set_option linter.unusedVariables false
set_option linter.unusedSimpArgs false

theorem atT_ok (x : List Int) (i : Int) (hb : isBytes x) (hx : x.length ≤ 1048576) (h0 : 0 ≤ i) (h1 : i ≤ 1000) : ∃ v, F_laws_at (x, i) = some v ∧ 0 ≤ v ∧ v < 256 := by
  unfold F_laws_at
  simp only [Bool.cond_eq_ite, decide_eq_true_eq]
  by_cases h : i < (x.length : Int)
  · have hr := by_range hb i
    rw [if_pos h, if_pos h0, if_pos h, show rd_u8 x i = by_ x i from rfl, w64 (n := by_ x i) (by omega) (by omega)]
    exact ⟨_, rfl, hr⟩
  · rw [if_neg h, w64 (n := i * 31) (by omega) (by omega), w64 (n := (x.length : Int) * 7) (by omega) (by omega), w64 (n := i * 31 + (x.length : Int) * 7) (by omega) (by omega), Int.tmod_eq_emod_of_nonneg (by omega)]
    exact ⟨_, rfl, by omega, by omega⟩
theorem parse_itoa (v : Int) (h0 : 0 ≤ v) (h1 : v ≤ 65535) : parseB (itoaB v) = (v, true) := by
  have hd : (itoaB v).data.toList = Lib.decDigits v.toNat := by
    unfold itoaB Lib.itoa
    rw [if_neg (by omega)]
  have hlen : (Lib.decDigits v.toNat).length ≤ 5 := by
    rw [Lib.decDigits_length]
    exact nDigits_le 4 _ (by omega)
  have hpos : 1 ≤ (Lib.decDigits v.toNat).length := List.length_pos_iff.2 (dec_ne _)
  unfold parseB
  rw [hd, atoi_dec ⟨hpos, by omega⟩ (dec_val _)]
  simp only
  rw [if_pos ⟨by omega, by omega, by rw [Lib.itoa, if_neg (by omega), Int.toNat_natCast]⟩, show ((v.toNat : Nat) : Int) = v by omega]
theorem parse_true (s : ByteArray) (h : (parseB s).2 = true) : 0 ≤ (parseB s).1 ∧ (parseB s).1 ≤ 65535 ∧ itoaB (parseB s).1 = s := by
  unfold parseB at h ⊢
  split at h
  · rename_i v hv
    split at h
    · rename_i hc
      rw [if_pos hc]
      refine ⟨hc.1, hc.2.1, ?_⟩
      apply ByteArray.ext
      apply Array.ext'
      simpa [itoaB] using hc.2.2
    · cases h
  · cases h
theorem CodeText_eq (v : Int) (h0 : -1 ≤ v) (h1 : v ≤ 8) : ∃ s, F_impl_CodeText v = some s ∧ F_spec_CodeText v = some s := by
  have : v = -1 ∨ v = 0 ∨ v = 1 ∨ v = 2 ∨ v = 3 ∨ v = 4 ∨ v = 5 ∨ v = 6 ∨ v = 7 ∨ v = 8 := by omega
  unfold F_impl_CodeText F_spec_CodeText
  simp only [within_eq, l1In_eq, Option.bind_some]
  rcases this with rfl | rfl | rfl | rfl | rfl | rfl | rfl | rfl | rfl | rfl <;> exact ⟨_, rfl, rfl⟩
theorem law_Texts (x : List Int) (hb : isBytes x) : F_laws_FnTexts x = some true := by
  unfold F_laws_FnTexts F_laws_big
  simp only [Option.bind_some]
  by_cases hx : (x.length : Int) > 1048576
  · rw [decide_eq_true hx]
    rfl
  · rw [decide_eq_false hx, cond_false]
    have hl : x.length ≤ 1048576 := by omega
    obtain ⟨a, ea, a0, a1⟩ := atT_ok x 2 hb hl (by omega) (by omega)
    obtain ⟨b, eb, b0, b1⟩ := atT_ok x 3 hb hl (by omega) (by omega)
    obtain ⟨s, es, hs⟩ := DrawParse_ok x hl
    obtain ⟨nm, fx, L, em, m1, m2, m3⟩ := DrawMap_ok x hl
    obtain ⟨k1, k2, k3, k4, k5, ek, r1, r2, r4⟩ := DrawKey_ok x hl
    obtain ⟨c, ec, c0, c1⟩ := DrawCode_ok x hl
    obtain ⟨n, en, hn⟩ := DrawNum_ok x hl
    obtain ⟨t1, f1, f2⟩ := MapText_ok nm fx L (by omega) (by omega) m3
    obtain ⟨t2, g1, g2⟩ := KeyText_ok k1 k2 k3 k4 k5 r1 r2 r4
    obtain ⟨t3, i1, i2⟩ := CodeText_eq c c0 c1
    have hv : Go.IntKind.wrap .i64 (Go.IntKind.wrap .i64 (a * 256) + b) = a * 256 + b := by rw [w64 (n := a * 256) (by omega) (by omega), w64 (by omega) (by omega)]
    have hz := itoaB_size (a * 256 + b) (by omega) (by omega)
    have e1 : F_impl_ParseNum (itoaB (a * 256 + b)) = some (a * 256 + b, true) := by
      unfold F_impl_ParseNum
      rw [if_pos (by omega), parse_itoa _ (by omega) (by omega)]
    have e2 : F_impl_ParseNum s = some (parseB s) := by
      unfold F_impl_ParseNum
      rw [if_pos (by omega)]
    have e3 : F_spec_ParseNum s = some (parseB s) := by rw [spec_Parse_eq s (by omega), specP_eq]
    rw [ea]
    simp only [Option.bind_some]
    rw [eb]
    simp only [Option.bind_some, hv]
    rw [implNum_eq _ (by omega) (by omega)]
    simp only [Option.bind_some]
    rw [e1]
    simp only [Option.bind_some]
    rw [es]
    simp only [Option.bind_some]
    rw [e2, e3]
    simp only [Option.bind_some]
    rw [em]
    simp only [Option.bind_some]
    rw [ek]
    simp only [Option.bind_some]
    rw [ec]
    simp only [Option.bind_some]
    rw [en]
    simp only [Option.bind_some, beq_self_eq_true, cond_true]
    rw [f1, f2, g1, g2, i1, i2, NumText_eq n hn.1 hn.2, implNum_eq n hn.1 hn.2]
    simp only [Option.bind_some, beq_self_eq_true]
    cases hp : (parseB s).2 with
    | false => simp only [Bool.not_false, cond_true, Option.bind_some]
    | true =>
      obtain ⟨p0, p1, p2⟩ := parse_true s hp
      rw [implNum_eq _ (by omega) (by omega), p2]
      simp only [Bool.not_true, cond_false, Option.bind_some, beq_self_eq_true, cond_true]
end Go.Proofs.YtkjpediopepbkaaDoor.Pl

