/- TailDraw, TailDraw2. No condition. -/
import Derived.Test.YtmanmgafjbnakaaPPutEnt
/- What is drawn: devices. No condition. -/
namespace Go.Proofs.Ytmanmgafjbnakaa.Pl
open Go.Proofs.Ytmanmgafjbnakaa.R Go.Proofs.Ytmanmgafjbnakaa.XV
set_option linter.unusedVariables false
set_option linter.unusedSimpArgs false

def devB (s : List E_s_u8) (c : List E_Wr) : Prop := (∀ a ∈ s, isBytes a ∧ List.length a ≤ 1000) ∧ (∀ w ∈ c, isBytes w.2 ∧ List.length w.2 ≤ 1000) ∧ s.length ≤ 60 ∧ c.length ≤ 70
def devR (s : List E_s_u8) (c : List E_Wr) : Prop := (∀ w ∈ c, 0 ≤ w.1 ∧ w.1 < s.length) ∧ c.length ≤ 60 ∧ 0 < s.length
theorem DevNew_ok (n : Int) (h0 : 1 ≤ n) (h1 : n ≤ 60) : ∃ s z b, F_spec_DevNew n = some (s, [], z, b) ∧ (s.length : Int) = n ∧ ∀ a ∈ s, a = [] := by
  unfold F_spec_DevNew
  rw [l1In_eq, show inR n 1 60 = true from inR_iff.2 ⟨h0, h1⟩]
  simp only [Option.bind_some, Bool.not_true, cond_false]
  unfold L_spec_DevNew_5
  refine loop_prop (step := S_spec_DevNew_5 _ _) (fun t => match t with | .inl _ => 100 | .inr t => (n - t.2.1).toNat) (fun t => match t with | .inl t => t.1 = n ∧ t.2.1 = 0 | .inr t => t.1 = n ∧ 1 ≤ t.2.1 ∧ t.2.1 ≤ n ∧ (t.2.2.2.2.2.2.length : Int) = t.2.1 ∧ ∀ a ∈ t.2.2.2.2.2.2, a = []) (fun _ res => ∃ (s : List E_s_u8) (z : Int) (b : Bool), res = some (s, ([] : List E_Wr), z, b) ∧ (s.length : Int) = n ∧ ∀ a ∈ s, a = []) ?_ (Sum.inl (n, 0, 0, false, -1, false)) ⟨rfl, rfl⟩ (show 100 < 18446744073709551616 by decide)
  rintro again (⟨a, i, r⟩ | ⟨a, i, e1, e2, e3, e4, l⟩) hinv hag
  · obtain ⟨rfl, rfl⟩ := hinv
    unfold S_spec_DevNew_5
    simp only []
    rw [decide_eq_true (show (0 : Int) < a by omega), cond_true, if_pos (by decide), w64 (n := 0 + 1) (by omega) (by omega)]
    exact hag _ ⟨rfl, by simp only; omega, by simp only; omega, rfl, by simp⟩ (by simp only; omega)
  · obtain ⟨rfl, i0, i1, hl, hall⟩ := hinv
    simp only at i0 i1 hl hall
    unfold S_spec_DevNew_5
    simp only []
    by_cases hi : i < a
    · rw [decide_eq_true hi, cond_true, if_pos (by simp only [List.length_cons, List.length_nil]; omega), w64 (n := i + 1) (by omega) (by omega)]
      refine hag _ ⟨rfl, by simp only; omega, by simp only; omega, ?_, ?_⟩ (by simp only; omega)
      · simp only [List.length_append, List.length_cons, List.length_nil]
        omega
      · intro x hx
        simp only [List.mem_append, List.mem_cons, List.mem_nil_iff, or_false] at hx
        exact hx.elim (hall x) id
    · rw [decide_eq_false hi, cond_false]
      exact ⟨l, _, _, rfl, by omega, hall⟩
/-- A step that gives a device out of a device. -/
def givesD (o : Option (List E_s_u8 × List E_Wr × Int × Bool)) (s0 : List E_s_u8) : Prop := ∃ s c z b, o = some (s, c, z, b) ∧ devB s c ∧ devR s c ∧ s.length = s0.length
theorem Opd_ok (s : List E_s_u8) (c : List E_Wr) (z : Int) (b : Bool) : ∃ r z' b', F_spec_l2Op (s, c, z, b) = some (r, s, c, z', b') := by
  unfold F_spec_l2Op
  simp only []
  cases (z == (0 : Int))
  · cases decide (z > 0)
    · exact ⟨_, _, _, rfl⟩
    · exact ⟨_, _, _, rfl⟩
  · exact ⟨_, _, _, rfl⟩
theorem Write_ok (s : List E_s_u8) (c : List E_Wr) (z : Int) (b : Bool) (n : Int) (l : List Int) (hB : devB s c) (hR : devR s c) (hl : isBytes l) : givesD (F_spec_l2Write (s, c, z, b, n, l)) s := by
  obtain ⟨b1, b2, b3, b4⟩ := hB
  obtain ⟨r1, r2, r3⟩ := hR
  have same : ∀ z' b', givesD (some (s, c, z', b')) s := fun z' b' => ⟨s, c, z', b', rfl, ⟨b1, b2, b3, b4⟩, ⟨r1, r2, r3⟩, rfl⟩
  unfold F_spec_l2Write
  simp only [l1In_eq]
  rw [w64 (n := (s.length : Int) - 1) (by omega) (by omega)]
  cases b with
  | true => exact same _ _
  | false =>
    simp only [cond_false, Option.bind_some]
    cases hin : inR n 0 ((s.length : Int) - 1) with
    | false => exact same _ _
    | true =>
      simp only [Bool.not_true, cond_false, Option.bind_some]
      by_cases h80 : (l.length : Int) > 80
      · rw [decide_eq_true h80]
        exact same _ _
      · rw [decide_eq_false h80]
        simp only [cond_false, Option.bind_some]
        by_cases h60 : (c.length : Int) ≥ 60
        · rw [decide_eq_true h60]
          exact same _ _
        · rw [decide_eq_false h60]
          simp only [cond_false]
          obtain ⟨r, z', b', e⟩ := Opd_ok s c z false
          rw [e]
          simp only [Option.bind_some]
          cases r with
          | false => exact same _ _
          | true =>
            have hn := inR_iff.1 hin
            simp only [Bool.not_true, cond_false, List.nil_append, List.length_nil, List.length_cons]
            rw [if_pos (by omega), if_pos (by omega)]
            refine ⟨s, c ++ [(n, l)], z', b', rfl, ⟨b1, ?_, b3, ?_⟩, ⟨?_, ?_, r3⟩, rfl⟩
            · intro w hw
              simp only [List.mem_append, List.mem_cons, List.mem_nil_iff, or_false] at hw
              rcases hw with hw | rfl
              · exact b2 w hw
              · exact ⟨hl, by show l.length ≤ 1000; omega⟩
            · simp only [List.length_append, List.length_cons, List.length_nil]
              omega
            · intro w hw
              simp only [List.mem_append, List.mem_cons, List.mem_nil_iff, or_false] at hw
              rcases hw with hw | rfl
              · exact r1 w hw
              · exact ⟨hn.1, by show n < (s.length : Int); omega⟩
            · simp only [List.length_append, List.length_cons, List.length_nil]
              omega
theorem Flush_ok (s : List E_s_u8) (c : List E_Wr) (z : Int) (b : Bool) (hB : devB s c) (hR : devR s c) : givesD (F_spec_l2Flush (s, c, z, b)) s := by
  obtain ⟨b1, b2, b3, b4⟩ := hB
  obtain ⟨r1, r2, r3⟩ := hR
  have same : ∀ z' b', givesD (some (s, c, z', b')) s := fun z' b' => ⟨s, c, z', b', rfl, ⟨b1, b2, b3, b4⟩, ⟨r1, r2, r3⟩, rfl⟩
  unfold F_spec_l2Flush
  simp only []
  cases b with
  | true => exact same _ _
  | false =>
    simp only [cond_false]
    obtain ⟨r, z', b', e⟩ := Opd_ok s c z false
    rw [e]
    simp only [Option.bind_some]
    cases r with
    | false => exact same _ _
    | true =>
      simp only [Bool.not_true, cond_false]
      unfold L_spec_l2Flush_2
      refine loop_prop (step := S_spec_l2Flush_2 _) (fun t : Int × Int × Bool × List E_s_u8 × List E_Wr => c.length - t.1.toNat) (fun t => t.2.2.2.2 = c ∧ 0 ≤ t.1 ∧ t.1 ≤ c.length ∧ t.2.2.2.1.length = s.length ∧ ∀ a ∈ t.2.2.2.1, isBytes a ∧ List.length a ≤ 1000) (fun _ res => givesD res s) ?_ _ ⟨rfl, Int.le_refl _, by simp, rfl, b1⟩ (by simp; omega)
      rintro again ⟨i, z2, b2', s2, c2⟩ ⟨rfl, i0, i1, hl, hs⟩ hag
      simp only at i0 i1 hl hs b2 b4 r1 r2 hag
      unfold S_spec_l2Flush_2
      simp only []
      by_cases hi : i < (c2.length : Int)
      · have hm := getD_mem z_Wr c2 i i0 hi
        have hw := r1 _ hm
        have hwb := b2 _ hm
        rw [decide_eq_true hi, cond_true, if_pos i0, if_pos hi, if_pos i0, if_pos hi, if_pos (show (0 : Int) ≤ (rd_Wr c2 i).1 from hw.1), if_pos (show (rd_Wr c2 i).1 < (s2.length : Int) by rw [hl]; exact hw.2), w64 (n := i + 1) (by omega) (by omega)]
        refine hag _ ⟨rfl, by simp only; omega, by simp only; omega, by simp only [List.length_set]; exact hl, fun a ha => ?_⟩ (by simp only; omega)
        rcases List.mem_or_eq_of_mem_set ha with h | rfl
        · exact hs a h
        · exact hwb
      · rw [decide_eq_false hi, cond_false]
        refine ⟨s2, [], _, _, rfl, ⟨hs, by simp, by omega, by simp⟩, ⟨by simp, by simp, by omega⟩, hl⟩
end Go.Proofs.Ytmanmgafjbnakaa.Pl

/- What is drawn: devices, tails. No condition. -/
namespace Go.Proofs.Ytmanmgafjbnakaa.Pl
open Go.Proofs.Ytmanmgafjbnakaa.R Go.Proofs.Ytmanmgafjbnakaa.XV
set_option linter.unusedVariables false
set_option linter.unusedSimpArgs false

theorem Bytes_ok (x : List Int) (p s n : Int) (h : curOk x p) (hn : n ≤ 900) : gives (F_spec_l1Bytes (x, p, s, n)) x (fun l => isBytes l ∧ l.length ≤ 1000) := by
  unfold F_spec_l1Bytes L_spec_l1Bytes_3
  refine loop_prop (step := S_spec_l1Bytes_3 _) (fun t : Int × Int × List Int × Int × Int × List Int => (900 - t.2.1).toNat) (fun t => t.1 = n ∧ 0 ≤ t.2.1 ∧ t.2.1 ≤ 900 ∧ t.2.2.1 = x ∧ curOk x t.2.2.2.1 ∧ isBytes t.2.2.2.2.2 ∧ (t.2.2.2.2.2.length : Int) = t.2.1) (fun _ res => gives res x (fun l => isBytes l ∧ l.length ≤ 1000)) ?_ _ ⟨rfl, Int.le_refl _, by simp, rfl, h, fun y hy => by simp at hy, rfl⟩ (by simp)
  rintro again ⟨n', i, x', p', s', l⟩ ⟨rfl, i0, i1, rfl, hc, hb, hl⟩ hag
  simp only at i0 i1 hc hb hl
  unfold S_spec_l1Bytes_3
  simp only []
  by_cases hi : i < n'
  · obtain ⟨v, p1, s1, e1, h1, q1⟩ := Byte_ok x' p' s' hc
    rw [decide_eq_true hi, cond_true, e1]
    simp only [Option.bind_some, List.length_cons, List.length_nil]
    rw [if_pos (by omega), w64 (n := i + 1) (by omega) (by omega)]
    have rw' := wrap_u8_range v
    refine hag _ ⟨rfl, by simp only; omega, by simp only; omega, rfl, h1, ?_, ?_⟩ (by simp only; omega)
    · refine isBytes_append hb fun y hy => ?_
      simp only [List.mem_cons, List.mem_nil_iff, or_false] at hy
      subst hy
      exact rw'
    · simp only [List.length_append, List.length_cons, List.length_nil]
      omega
  · rw [decide_eq_false hi, cond_false]
    exact ⟨l, _, _, rfl, hc, hb, by omega⟩
/-- A step that gives a device and the cursor. -/
def givesDC (o : Option (List E_s_u8 × List E_Wr × Int × Bool × List Int × Int × Int)) (x : List Int) : Prop := ∃ s c z b p sd, o = some (s, c, z, b, x, p, sd) ∧ devB s c ∧ 0 < s.length ∧ curOk x p ∧ c.length ≤ 60
theorem DevDraw_ok (x : List Int) (p sd : Int) (h : curOk x p) : givesDC (F_spec_l2Draw (x, p, sd)) x := by
  obtain ⟨v1, p1, s1, e1, h1, q1⟩ := Below_ok x p sd 6 h
  have := q1.2 (by omega)
  obtain ⟨s, z, b, e2, hs, hall⟩ := DevNew_ok (2 + v1) (by omega) (by omega)
  obtain ⟨v3, p3, s3, e3, h3, q3⟩ := Below_ok x p1 s1 8 h1
  have q3' := q3.2 (by omega)
  unfold F_spec_l2Draw
  rw [e1]
  simp only [Option.bind_some]
  rw [w64 (n := 2 + v1) (by omega) (by omega), e2]
  simp only [Option.bind_some]
  rw [e3]
  simp only [Option.bind_some]
  unfold L_spec_l2Draw_3
  have hB0 : devB s [] := ⟨fun a ha => by rw [hall a ha]; exact ⟨fun y hy => by simp at hy, by simp⟩, by simp, by omega, by simp⟩
  have hR0 : devR s [] := ⟨by simp, by simp, by omega⟩
  refine loop_prop (step := S_spec_l2Draw_3 _) (fun t : Int × List Int × Int × Int × Int × Bool × Int × Bool × List E_s_u8 × List E_Wr => t.1.toNat) (fun t => 0 ≤ t.1 ∧ t.1 ≤ 8 ∧ t.2.1 = x ∧ curOk x t.2.2.1 ∧ devB t.2.2.2.2.2.2.2.2.1 t.2.2.2.2.2.2.2.2.2 ∧ devR t.2.2.2.2.2.2.2.2.1 t.2.2.2.2.2.2.2.2.2) (fun _ res => givesDC res x) ?_ _ ⟨q3.1, by simp only; omega, rfl, h3, hB0, hR0⟩ (by simp only; omega)
  rintro again ⟨i, x', p', sd', d1, d2, z', b', s', c'⟩ ⟨i0, i1, rfl, hc, hB, hR⟩ hag
  simp only at i0 i1 hc hB hR
  unfold S_spec_l2Draw_3
  simp only []
  by_cases hi : i > 0
  · rw [decide_eq_true hi, cond_true]
    obtain ⟨v4, p4, s4, e4, h4, _⟩ := Once_ok x' p' sd' 4 hc
    rw [e4]
    simp only [Option.bind_some]
    rw [w64 (n := i - 1) (by omega) (by omega)]
    cases v4 with
    | true =>
      obtain ⟨s5, c5, z5, b5, e5, hB5, hR5, _⟩ := Flush_ok s' c' z' b' hB hR
      rw [cond_true, e5]
      exact hag _ ⟨by simp only; omega, by simp only; omega, rfl, h4, hB5, hR5⟩ (by simp only; omega)
    | false =>
      rw [cond_false]
      obtain ⟨v6, p6, s6, e6, h6, _⟩ := Below_ok x' p4 s4 (s'.length : Int) h4
      obtain ⟨v7, p7, s7, e7, h7, q7⟩ := Below_ok x' p6 s6 4 h6
      have := q7.2 (by omega)
      obtain ⟨l8, p8, s8, e8, h8, q8⟩ := Bytes_ok x' p7 s7 v7 h7 (by omega)
      obtain ⟨s9, c9, z9, b9, e9, hB9, hR9, _⟩ := Write_ok s' c' z' b' v6 l8 hB hR q8.1
      rw [e6]
      simp only [Option.bind_some]
      rw [e7]
      simp only [Option.bind_some]
      rw [e8]
      simp only [Option.bind_some]
      rw [e9]
      exact hag _ ⟨by simp only; omega, by simp only; omega, rfl, h8, hB9, hR9⟩ (by simp only; omega)
  · rw [decide_eq_false hi, cond_false]
    exact ⟨_, _, _, _, _, _, rfl, hB, hR.2.2, hc, hR.2.1⟩
theorem DevAny_ok (x : List Int) (p sd : Int) (h : curOk x p) : ∃ s c z b p' sd', F_spec_l2Any (x, p, sd) = some (s, c, z, b, x, p', sd') ∧ devB s c ∧ curOk x p' := by
  obtain ⟨s, c, z, b, p1, s1, e1, hB, hs0, h1, hc60⟩ := DevDraw_ok x p sd h
  obtain ⟨v2, p2, s2, e2, h2, _⟩ := Below_ok x p1 s1 12 h1
  obtain ⟨b1, b2, b3, b4⟩ := hB
  unfold F_spec_l2Any
  rw [e1]
  simp only [Option.bind_some]
  rw [e2]
  simp only [Option.bind_some]
  cases (v2 == (0 : Int)) with
  | true =>
    rw [cond_true]
    obtain ⟨v3, p3, s3, e3, h3, q3⟩ := Below_ok x p2 s2 2 h2
    have := q3.2 (by omega)
    rw [e3]
    simp only [Option.bind_some]
    rw [w64 (n := 80 + v3) (by omega) (by omega), if_pos (by omega), if_pos (by omega), if_pos (by omega), if_pos (by omega), if_pos (by omega)]
    refine ⟨_, _, _, _, _, _, rfl, ⟨fun a ha => ?_, b2, by simp only [List.length_set]; exact b3, b4⟩, h3⟩
    rcases List.mem_or_eq_of_mem_set ha with h | rfl
    · exact b1 a h
    · refine ⟨fun y hy => ?_, by rw [List.length_replicate]; omega⟩
      rw [List.eq_of_mem_replicate hy]
      exact ⟨Int.le_refl 0, by show (0 : Int) < 256; omega⟩
  | false =>
    rw [cond_false]
    cases (v2 == (1 : Int)) with
    | true =>
      rw [cond_true]
      obtain ⟨v3, p3, s3, e3, h3, _⟩ := Int_ok x p2 s2 [-1, 0, 99] (by simp) (by simp) h2
      obtain ⟨l4, p4, s4, e4, h4, q4⟩ := Bytes_ok x p3 s3 2 h3 (by omega)
      rw [e3]
      simp only [Option.bind_some]
      rw [e4]
      simp only [Option.bind_some, List.length_cons, List.length_nil]
      rw [if_pos (by omega)]
      refine ⟨_, _, _, _, _, _, rfl, ⟨b1, fun w hw => ?_, b3, by simp only [List.length_append, List.length_cons, List.length_nil]; omega⟩, h4⟩
      simp only [List.mem_append, List.mem_cons, List.mem_nil_iff, or_false] at hw
      rcases hw with hw | rfl
      · exact b2 w hw
      · exact q4
    | false =>
      rw [cond_false]
      cases (v2 == (2 : Int)) with
      | true =>
        rw [cond_true]
        unfold L_spec_l2Any_8
        refine loop_prop (step := S_spec_l2Any_8 _) (fun t : List Int × Int × Int × Int × Bool × Int × Bool × List E_s_u8 × List E_Wr => 100 - t.2.2.2.2.2.2.2.2.length) (fun t => t.1 = x ∧ curOk x t.2.1 ∧ t.2.2.2.2.2.2.2.1 = s ∧ t.2.2.2.2.2.2.2.2.length ≤ 62 ∧ ∀ w ∈ t.2.2.2.2.2.2.2.2, isBytes w.2 ∧ List.length w.2 ≤ 1000) (fun _ res => ∃ s c z b p' sd', res = some (s, c, z, b, x, p', sd') ∧ devB s c ∧ curOk x p') ?_ _ ⟨rfl, h2, rfl, by simp only; omega, b2⟩ (by simp only; omega)
        rintro again ⟨x', p', sd', d1, d2, z', b', s', c'⟩ ⟨rfl, hc, rfl, hl, hw⟩ hag
        simp only at hc hl hw b1 b3 hs0
        obtain ⟨v3, p3, s3, e3, h3, q3⟩ := Below_ok x' p' sd' 3 hc
        have := q3.2 (by omega)
        unfold S_spec_l2Any_8
        simp only []
        rw [e3]
        simp only [Option.bind_some]
        rw [w64 (n := 59 + v3) (by omega) (by omega)]
        by_cases hlt : (c'.length : Int) < 59 + v3
        · rw [decide_eq_true hlt, cond_true]
          simp only [List.length_cons, List.length_nil]
          rw [if_pos (by omega)]
          refine hag _ ⟨rfl, h3, rfl, by simp only [List.length_append, List.length_cons, List.length_nil]; omega, fun w hw' => ?_⟩ (by simp only [List.length_append, List.length_cons, List.length_nil]; omega)
          simp only [List.mem_append, List.mem_cons, List.mem_nil_iff, or_false] at hw'
          rcases hw' with hw' | rfl
          · exact hw w hw'
          · exact ⟨fun y hy => by simp at hy, by simp⟩
        · rw [decide_eq_false hlt, cond_false]
          exact ⟨_, _, _, _, _, _, rfl, ⟨b1, hw, b3, by omega⟩, h3⟩
      | false =>
        rw [cond_false]
        cases (v2 == (3 : Int)) with
        | true =>
          obtain ⟨v3, p3, s3, e3, h3, _⟩ := Int_ok x p2 s2 [0, 1, 5, -2, 1001] (by simp) (by simp) h2
          rw [cond_true, e3]
          exact ⟨_, _, _, _, _, _, rfl, ⟨b1, b2, b3, b4⟩, h3⟩
        | false =>
          rw [cond_false]
          cases (v2 == (4 : Int)) with
          | true => exact ⟨_, _, _, _, _, _, rfl, ⟨b1, b2, b3, b4⟩, h2⟩
          | false =>
            rw [cond_false]
            cases (v2 == (5 : Int)) with
            | true => exact ⟨_, _, _, _, _, _, rfl, ⟨b1, b2, b3, b4⟩, h2⟩
            | false => exact ⟨_, _, _, _, _, _, rfl, ⟨b1, b2, b3, b4⟩, h2⟩
theorem SlotOf_some (x : Int) : ∃ v, F_spec_SlotOf x = some v := by
  unfold F_spec_SlotOf
  cases decide (x < 0)
  · exact ⟨_, rfl⟩
  · exact ⟨_, rfl⟩
theorem DrawTailOf_ok (x : List Int) (hx : x.length ≤ 1099511627776) : ∃ s c z b q, F_spec_DrawTailOf x = some (s, c, z, b, q) ∧ devB s c ∧ -1 ≤ q ∧ q ≤ 60000 := by
  obtain ⟨sd, e0⟩ := New_ok x hx
  obtain ⟨s, z, b, e2, hs, hall⟩ := DevNew_ok 60 (by omega) (by omega)
  obtain ⟨v3, p3, s3, e3, h3, q3⟩ := Below_ok x 0 sd 20 (cur0 x hx)
  obtain ⟨v4, p4, s4, e4, h4, q4⟩ := Below_ok x p3 s3 8 h3
  have q3' := q3.2 (by omega)
  have q4' := q4.2 (by omega)
  unfold F_spec_DrawTailOf
  rw [e0]
  simp only [Option.bind_some]
  rw [e2]
  simp only [Option.bind_some]
  rw [e3]
  simp only [Option.bind_some]
  rw [e4]
  simp only [Option.bind_some]
  rw [w64 (n := 1 + v3) (by omega) (by omega)]
  unfold L_spec_DrawTailOf_5
  have hB0 : devB s [] := ⟨fun a ha => by rw [hall a ha]; exact ⟨fun y hy => by simp at hy, by simp⟩, by simp, by omega, by simp⟩
  have hR0 : devR s [] := ⟨by simp, by simp, by omega⟩
  refine loop_prop (step := S_spec_DrawTailOf_5 _) (fun t : Int × Int × Int × Bool × List Int × Int × Int × Int × Bool × List E_s_u8 × List E_Wr => t.2.1.toNat) (fun t => 1 ≤ t.1 ∧ t.1 ≤ 20 ∧ 0 ≤ t.2.1 ∧ t.2.1 ≤ 8 ∧ t.2.2.2.2.1 = x ∧ curOk x t.2.2.2.2.2.1 ∧ devB t.2.2.2.2.2.2.2.2.2.1 t.2.2.2.2.2.2.2.2.2.2 ∧ devR t.2.2.2.2.2.2.2.2.2.1 t.2.2.2.2.2.2.2.2.2.2) (fun _ res => ∃ s c z b q, res = some (s, c, z, b, q) ∧ devB s c ∧ -1 ≤ q ∧ q ≤ 60000) ?_ _ ⟨by simp only; omega, by simp only; omega, q4.1, by simp only; omega, rfl, h4, hB0, hR0⟩ (by simp only; omega)
  rintro again ⟨q, i, d1, d2, x', p', sd', z', b', s', c'⟩ ⟨r0, r1, i0, i1, rfl, hc, hB, hR⟩ hag
  simp only at r0 r1 i0 i1 hc hB hR
  unfold S_spec_DrawTailOf_5
  simp only []
  by_cases hi : i > 0
  · rw [decide_eq_true hi, cond_true]
    obtain ⟨v5, p5, s5, e5, h5, q5⟩ := Below_ok x' p' sd' 7 hc
    have := q5.2 (by omega)
    obtain ⟨sv, e6⟩ := SlotOf_some (q + v5)
    obtain ⟨k, n, t, a, bb, p7, s7, e7, h7, hn, ht⟩ := Op_ok x' p5 s5 h5
    rw [e5]
    simp only [Option.bind_some]
    rw [w64 (n := q + v5) (by omega) (by omega), e6]
    simp only [Option.bind_some]
    rw [e7]
    simp only [Option.bind_some]
    rw [spec_PutEnt_eq (q + v5) k n t a bb hn ht]
    simp only [Option.bind_some]
    have hbl : isBytes (if entOk (q + v5) k n t a bb = true then encE (q + v5) k n t a bb else []) := by
      split
      · exact encE_bytes _ _ _ _ _ _
      · intro y hy
        simp at hy
    obtain ⟨s9, c9, z9, b9, e9, hB9, hR9, _⟩ := Write_ok s' c' z' b' sv _ hB hR hbl
    rw [e9, w64 (n := i - 1) (by omega) (by omega)]
    exact hag _ ⟨r0, r1, by simp only; omega, by simp only; omega, rfl, h7, hB9, hR9⟩ (by simp only; omega)
  · rw [decide_eq_false hi, cond_false]
    obtain ⟨v5, p5, s5, e5, h5, _⟩ := Once_ok x' p' sd' 8 hc
    rw [e5]
    simp only [Option.bind_some]
    cases v5 with
    | true =>
      obtain ⟨s6, c6, z6, b6, p6, sd6, e6, hB6, _⟩ := DevAny_ok x' p5 s5 h5
      rw [cond_true, e6]
      exact ⟨_, _, _, _, _, rfl, hB6, by omega, by omega⟩
    | false =>
      rw [cond_false, w64 (n := q + 1) (by omega) (by omega)]
      obtain ⟨v6, p6, s6, e6, h6, q6⟩ := Int_ok x' p5 s5 [q, q, q, q + 1, 0, -1, 60000] (by simp) (by simp) h5
      rw [e6]
      simp only [List.mem_cons, List.mem_nil_iff, or_false] at q6
      exact ⟨_, _, _, _, _, rfl, hB, by omega, by omega⟩
end Go.Proofs.Ytmanmgafjbnakaa.Pl

