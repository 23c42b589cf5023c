/- What spec.ParseNum gives. No condition. -/
import Derived.Test.YtmanmgafjbnakaaDoorPParse
import Derived.Test.YtmanmgafjbnakaaDoorPNames
namespace Go.Proofs.YtmanmgafjbnakaaDoor.Pl
open Go.Proofs.YtmanmgafjbnakaaDoor.R Go.Proofs.YtmanmgafjbnakaaDoor.XP
set_option linter.unusedVariables false
set_option linter.unusedSimpArgs false

theorem digit_in (c : UInt8) : (∃ d, Lib.digitVal c = some d ∧ inR (c.toNat : Int) 48 57 = true ∧ (c.toNat : Int) - 48 = (d : Int) ∧ d < 10) ∨ (Lib.digitVal c = none ∧ inR (c.toNat : Int) 48 57 = false) := by
  unfold Lib.digitVal inR
  by_cases h : 48 ≤ c.toNat ∧ c.toNat ≤ 57
  · rw [if_pos h]
    exact .inl ⟨_, rfl, by simp; omega, by omega, by omega⟩
  · rw [if_neg h]
    refine .inr ⟨rfl, ?_⟩
    simp only [Bool.and_eq_false_iff, decide_eq_false_iff_not]
    omega
theorem head_is (l : List UInt8) (h : 0 < l.length) : (((l[0].toNat : Nat) : Int) == 48) = true ↔ l.head? = some 48 := by
  cases l with
  | nil => simp at h
  | cons b r =>
    simp only [List.getElem_cons_zero, List.head?_cons, Option.some.injEq, beq_iff_eq]
    constructor
    · intro e
      apply UInt8.toNat_inj.1
      show b.toNat = 48
      omega
    · intro e
      rw [e]
      rfl
theorem pow6 {i : Nat} (h : i ≤ 6) : 10 ^ i ≤ 1000000 := by
  have := Nat.pow_le_pow_right (show 0 < 10 by decide) h
  omega
theorem parse_loop (k0 : ByteArray × Int × Bool × Int → Option (Int × Bool)) (k1 : ByteArray × Int → Option (Int × Bool)) (z : Option (Int × Bool)) (s : ByteArray) (hs : s.size ≤ 1048576) (hk : ∀ n, k0 (s, 0, false, n) = z) :
    L_spec_ParseNum_3 k0 k1 (s, 0, 0) = match Lib.decFrom 0 (s.data.toList.take 6) with
      | none => z
      | some v => k1 (s, (v : Int)) := by
  have hlen : s.data.toList.length = s.size := by rw [Array.length_toList]; rfl
  unfold L_spec_ParseNum_3
  rw [loop_fuel (fun t : ByteArray × Int × Int => 6 - t.2.2.toNat) (fun t => t.1 = s ∧ 0 ≤ t.2.2 ∧ t.2.2 ≤ 6 ∧ t.2.2 ≤ s.size ∧ 0 ≤ t.2.1 ∧ t.2.1.toNat < 10 ^ t.2.2.toNat) (fun t => match Lib.decFrom t.2.1.toNat ((s.data.toList.take 6).drop t.2.2.toNat) with
      | none => z
      | some v => k1 (s, (v : Int))) ?_ (s, 0, 0) ⟨rfl, by simp, by simp, by simp, by simp, by simp⟩ (by simp only; omega)]
  · rfl
  · rintro again ⟨s', a, i⟩ ⟨rfl, h0, h6, h1, ha, hp⟩ hag
    simp only at h0 h6 h1 ha hp hs hk hlen ⊢
    have hp6 := pow6 (i := i.toNat) (by omega)
    unfold S_spec_ParseNum_3
    simp only [Bool.cond_eq_ite, decide_eq_true_eq]
    by_cases hi : i < (s'.size : Int) ∧ i < 6
    · have hn : i.toNat < s'.size := by omega
      have hdr : (s'.data.toList.take 6).drop i.toNat = ByteArray.get s' i.toNat hn :: (s'.data.toList.take 6).drop (i.toNat + 1) := by
        rw [get_byte, List.drop_eq_getElem_cons (by rw [List.length_take]; omega), List.getElem_take]
      rw [if_pos hi.1, Option.bind_some]
      simp only [hi.2, decide_true, if_true, l1In_eq, Option.bind_some, if_pos h0, dif_pos hn, w64_byte]
      rw [hdr]
      simp only [Lib.decFrom]
      rcases digit_in (ByteArray.get s' i.toNat hn) with ⟨d, e1, e2, e3, e4⟩ | ⟨e1, e2⟩
      · rw [e1, e2]
        simp only [Bool.not_true, Bool.false_eq_true, if_false]
        have hc := (ByteArray.get s' i.toNat hn).toNat_lt
        have w8 : Go.IntKind.wrap .u8 ((((ByteArray.get s' i.toNat hn).toNat : Nat) : Int) - 48) = (d : Int) := by
          rw [e3]
          have : d = 0 ∨ d = 1 ∨ d = 2 ∨ d = 3 ∨ d = 4 ∨ d = 5 ∨ d = 6 ∨ d = 7 ∨ d = 8 ∨ d = 9 := by omega
          rcases this with rfl | rfl | rfl | rfl | rfl | rfl | rfl | rfl | rfl | rfl <;> rfl
        have wd : Go.IntKind.wrap .i64 (d : Int) = d := w64 (by omega) (by omega)
        have wa : Go.IntKind.wrap .i64 (a * 10) = a * 10 := w64 (by omega) (by omega)
        have wb : Go.IntKind.wrap .i64 (a * 10 + d) = a * 10 + d := w64 (by omega) (by omega)
        have wi : Go.IntKind.wrap .i64 (i + 1) = i + 1 := w64 (by omega) (by omega)
        have t1 : (i + 1).toNat = i.toNat + 1 := by omega
        have t2 : (a * 10 + (d : Int)).toNat = a.toNat * 10 + d := by omega
        rw [w8, wd, wa, wb, wi]
        refine (hag (s', a * 10 + d, i + 1) ⟨rfl, by simp only; omega, by simp only; omega, by simp only; omega, by simp only; omega, by simp only [t1, t2, Nat.pow_succ]; omega⟩ (by simp only; omega)).trans ?_
        simp only [t1, t2]
      · rw [e1, e2]
        simp only [Bool.not_false, if_true]
        exact hk a
    · have hu : (if i < (s'.size : Int) then some (decide (i < 6)) else some false) = some false := by
        by_cases h : i < (s'.size : Int)
        · rw [if_pos h, show decide (i < 6) = false from decide_eq_false fun h' => hi ⟨h, h'⟩]
        · rw [if_neg h]
      rw [hu, Option.bind_some, if_neg (by simp), List.drop_of_length_le (by rw [List.length_take]; omega)]
      simp only [Lib.decFrom]
      rw [show ((a.toNat : Nat) : Int) = a by omega]
theorem spec_Parse_eq (s : ByteArray) (hs : s.size ≤ 1048576) : F_spec_ParseNum s = some (specP s.data.toList) := by
  have hlen : s.data.toList.length = s.size := by rw [Array.length_toList]; rfl
  unfold F_spec_ParseNum
  rw [parse_loop _ _ (some (0, false)) s hs (fun n => rfl)]
  unfold specP
  cases hd : Lib.decFrom 0 (s.data.toList.take 6) with
  | none => rfl
  | some v =>
    simp only [l1In_eq, Option.bind_some]
    have hr : inR (s.size : Int) 1 5 = true ↔ 1 ≤ s.data.toList.length ∧ s.data.toList.length ≤ 5 := by
      unfold inR
      simp only [Bool.and_eq_true, decide_eq_true_eq]
      omega
    have hh : ∀ h : 0 < s.size, (((ByteArray.get s 0 h).toNat : Int) == 48) = true ↔ s.data.toList.head? = some 48 := fun h => by
      rw [get_byte]
      exact head_is _ (by omega)
    by_cases h1 : inR (s.size : Int) 1 5 = true
    · rw [h1]
      have h5 := hr.1 h1
      simp only [Bool.not_true, cond_false, Int.toNat_zero, Int.le_refl, if_true]
      by_cases h2 : (s.size : Int) > 1
      · rw [show decide ((s.size : Int) > 1) = true from decide_eq_true h2]
        simp only [cond_true]
        rw [dif_pos (show 0 < s.size by omega)]
        simp only [Option.bind_some]
        by_cases h3 : (((ByteArray.get s 0 (show 0 < s.size by omega)).toNat : Int) == 48) = true
        · rw [h3]
          simp only [cond_true, Option.bind_some]
          rw [if_neg fun h => h.2.1 ⟨by omega, (hh _).1 h3⟩]
        · have h3' : (((ByteArray.get s 0 (show 0 < s.size by omega)).toNat : Int) == 48) = false := by simpa using h3
          rw [h3']
          simp only [cond_false, Option.bind_some]
          by_cases h4 : (v : Int) > 65535
          · rw [show decide ((v : Int) > 65535) = true from decide_eq_true h4]
            simp only [cond_true]
            rw [if_neg fun h => by omega]
          · rw [show decide ((v : Int) > 65535) = false from decide_eq_false h4]
            simp only [cond_false]
            rw [if_pos ⟨h5, fun h => h3 ((hh _).2 h.2), by omega⟩]
      · rw [show decide ((s.size : Int) > 1) = false from decide_eq_false h2]
        simp only [cond_false, Option.bind_some]
        by_cases h4 : (v : Int) > 65535
        · rw [show decide ((v : Int) > 65535) = true from decide_eq_true h4]
          simp only [cond_true]
          rw [if_neg fun h => by omega]
        · rw [show decide ((v : Int) > 65535) = false from decide_eq_false h4]
          simp only [cond_false]
          rw [if_pos ⟨h5, fun h => by omega, by omega⟩]
    · have h1' : inR (s.size : Int) 1 5 = false := by simpa using h1
      rw [h1']
      simp only [Bool.not_false, cond_true, Option.bind_some]
      rw [if_neg fun h => h1 (hr.2 h.1)]
end Go.Proofs.YtmanmgafjbnakaaDoor.Pl
