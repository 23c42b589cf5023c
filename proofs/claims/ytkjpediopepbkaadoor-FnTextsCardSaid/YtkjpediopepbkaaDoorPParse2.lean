/- Rng, Names, Parse, Parse2. No condition. -/
import Derived.Test.YtkjpediopepbkaaDoorPMapTxt
/- Ranges. No condition. -/
namespace Go.Proofs.YtkjpediopepbkaaDoor.Pl
open Go.Proofs.YtkjpediopepbkaaDoor.R Go.Proofs.YtkjpediopepbkaaDoor.XH
set_option linter.unusedVariables false
set_option linter.unusedSimpArgs false

theorem l1In_eq (x a b : Int) : F_spec_l1In (x, a, b) = some (inR x a b) := by
  unfold F_spec_l1In inR
  by_cases h : x ≥ a <;> simp [h]
theorem within_eq (x a b : Int) : F_impl_within (x, a, b) = some (inR x a b) := by
  unfold F_impl_within inR
  by_cases h : x ≥ a <;> simp [h]
theorem bi (x y : Int) : ((x == y) = true) = (x = y) := by simp
end Go.Proofs.YtkjpediopepbkaaDoor.Pl

/- Names: what they answer. No condition. -/
namespace Go.Proofs.YtkjpediopepbkaaDoor.Pl
open Go.Proofs.YtkjpediopepbkaaDoor.R Go.Proofs.YtkjpediopepbkaaDoor.XH
set_option linter.unusedVariables false
set_option linter.unusedSimpArgs false

def isW (n : Int) : Bool := inR n 0 65535
def nameByte (c : Int) : Bool := inR c 97 122 || inR c 48 57
def nameAll (l : List UInt8) : Bool := l.all fun c => nameByte (c.toNat : Int)
def nameOk (s : ByteArray) : Bool := nameAll s.data.toList && inR s.size 1 6
theorem w64_byte (c : UInt8) : Go.IntKind.wrap .i64 (c.toNat : Int) = c.toNat := by
  have := c.toNat_lt
  exact w64 (by omega) (by omega)
theorem get_byte (s : ByteArray) (i : Nat) (h : i < s.size) : ByteArray.get s i h = s.data.toList[i]'(by rw [Array.length_toList]; exact h) := by
  rw [Array.getElem_toList]
  rfl
theorem drop_byte (s : ByteArray) (i : Nat) (h : i < s.size) : s.data.toList.drop i = ByteArray.get s i h :: s.data.toList.drop (i + 1) := by
  rw [get_byte, ← List.drop_eq_getElem_cons]
end Go.Proofs.YtkjpediopepbkaaDoor.Pl

/- Words out of their numerals: alike on both sides. No condition. -/
namespace Go.Proofs.YtkjpediopepbkaaDoor.Pl
open Go.Proofs.YtkjpediopepbkaaDoor.R Go.Proofs.YtkjpediopepbkaaDoor.XH
set_option linter.unusedVariables false
set_option linter.unusedSimpArgs false

theorem decFrom_app : ∀ (l m : List UInt8) (a : Nat), Lib.decFrom a (l ++ m) = (Lib.decFrom a l).bind fun u => Lib.decFrom u m
  | [], m, a => rfl
  | b :: l, m, a => by
    simp only [List.cons_append, Lib.decFrom]
    cases Lib.digitVal b with
    | none => rfl
    | some d => exact decFrom_app l m _
theorem digitVal_of {d : Nat} (h : d < 10) : Lib.digitVal (UInt8.ofNat (48 + d)) = some d := by
  have : d = 0 ∨ d = 1 ∨ d = 2 ∨ d = 3 ∨ d = 4 ∨ d = 5 ∨ d = 6 ∨ d = 7 ∨ d = 8 ∨ d = 9 := by omega
  rcases this with rfl | rfl | rfl | rfl | rfl | rfl | rfl | rfl | rfl | rfl <;> rfl
theorem of_digitVal {b : UInt8} {d : Nat} (h : Lib.digitVal b = some d) : d < 10 ∧ b = UInt8.ofNat (48 + d) := by
  unfold Lib.digitVal at h
  split at h
  · injection h with h
    refine ⟨by omega, ?_⟩
    rw [← h, show 48 + (b.toNat - 48) = b.toNat by omega]
    simp
  · cases h
theorem dec_ne (u : Nat) : Lib.decDigits u ≠ [] := by
  rw [Lib.decDigits]
  split <;> simp
/-- The digits of u spell u. -/
theorem dec_val : ∀ u : Nat, Lib.decFrom 0 (Lib.decDigits u) = some u := by
  intro u
  induction u using Nat.strongRecOn with
  | ind u ih =>
    rw [Lib.decDigits]
    split
    · rename_i h
      simp only [Lib.decFrom, digitVal_of h, Nat.zero_mul, Nat.zero_add]
    · rename_i h
      rw [decFrom_app, ih (u / 10) (by omega), Option.bind_some]
      simp only [Lib.decFrom, digitVal_of (show u % 10 < 10 by omega)]
      congr 1
      omega
theorem dec_head : ∀ u : Nat, 1 ≤ u → (Lib.decDigits u).head? ≠ some 48 := by
  intro u
  induction u using Nat.strongRecOn with
  | ind u ih =>
    intro h1
    rw [Lib.decDigits]
    split
    · rename_i h
      have : u = 1 ∨ u = 2 ∨ u = 3 ∨ u = 4 ∨ u = 5 ∨ u = 6 ∨ u = 7 ∨ u = 8 ∨ u = 9 := by omega
      rcases this with rfl | rfl | rfl | rfl | rfl | rfl | rfl | rfl | rfl <;> decide
    · rename_i h
      have := ih (u / 10) (by omega) (by omega)
      cases hd : Lib.decDigits (u / 10) with
      | nil => exact absurd hd (dec_ne _)
      | cons b r =>
        rw [hd] at this
        exact this
theorem nDigits_le (f : Nat) : ∀ u : Nat, u < 10 ^ (f + 1) → Lib.nDigits u ≤ f + 1 := by
  induction f with
  | zero => intro u hu; rw [Lib.nDigits_small (by omega)]; omega
  | succ f ih =>
    intro u hu
    rw [Lib.nDigits]
    split
    · omega
    · have := ih (u / 10) (by rw [Nat.pow_succ] at hu; omega)
      omega
theorem decFrom_ge : ∀ (l : List UInt8) (a v : Nat), Lib.decFrom a l = some v → a ≤ v
  | [], a, v, h => by
    injection h with h
    omega
  | b :: l, a, v, h => by
    simp only [Lib.decFrom] at h
    cases hd : Lib.digitVal b with
    | none => rw [hd] at h; cases h
    | some d =>
      rw [hd] at h
      have := decFrom_ge l _ v h
      omega
/-- What begins with no nought, or is one digit, is the numeral of what it spells. -/
theorem dec_of : ∀ (n : Nat) (l : List UInt8) (v : Nat), l.length = n + 1 → Lib.decFrom 0 l = some v → (1 < l.length → l.head? ≠ some 48) → Lib.decDigits v = l := by
  intro n
  induction n with
  | zero =>
    intro l v hl h _
    match l, hl with
    | [b], _ =>
      simp only [Lib.decFrom] at h
      cases hd : Lib.digitVal b with
      | none => rw [hd] at h; cases h
      | some d =>
        rw [hd] at h
        obtain ⟨h10, rfl⟩ := of_digitVal hd
        injection h with h
        rw [Lib.decDigits, dif_pos (by omega)]
        congr 2
        omega
  | succ n ih =>
    intro l v hl h hh
    have hne : l ≠ [] := fun e => by rw [e] at hl; simp at hl
    obtain ⟨m, b, rfl⟩ : ∃ m b, l = m ++ [b] := ⟨l.dropLast, l.getLast hne, (List.dropLast_concat_getLast hne).symm⟩
    have hm : m.length = n + 1 := by simpa using hl
    rw [decFrom_app] at h
    obtain ⟨u, hu, h3⟩ := Option.bind_eq_some_iff.1 h
    simp only [Lib.decFrom] at h3
    cases hd : Lib.digitVal b with
    | none => rw [hd] at h3; cases h3
    | some d =>
      rw [hd] at h3
      obtain ⟨h10, rfl⟩ := of_digitVal hd
      injection h3 with h3
      have hhead : m.head? ≠ some 48 := fun e => by
        apply hh (by simp; omega)
        cases m with
        | nil => simp at hm
        | cons c m => simpa using e
      have hmu := ih m u hm hu (fun _ => hhead)
      have hu1 : 1 ≤ u := by
        by_cases h0 : u = 0
        · subst h0
          rw [Lib.decDigits, dif_pos (by omega)] at hmu
          exact absurd (by rw [← hmu]; rfl) hhead
        · omega
      rw [Lib.decDigits, dif_neg (by omega), show v / 10 = u by omega, show v % 10 = d by omega, hmu]
/-- What spec.ParseNum says of a text's bytes. -/
def specP (l : List UInt8) : Int × Bool := match Lib.decFrom 0 (l.take 6) with
  | none => (0, false)
  | some v => if (1 ≤ l.length ∧ l.length ≤ 5) ∧ ¬ (1 < l.length ∧ l.head? = some 48) ∧ v ≤ 65535 then ((v : Int), true) else (0, false)
theorem atoi_dec {l : List UInt8} {v : Nat} (hl : 1 ≤ l.length ∧ l.length ≤ 18) (h : Lib.decFrom 0 l = some v) : Lib.atoiAll l = .ok (v : Int) := by
  rw [Lib.atoiAll_short l hl.2]
  cases l with
  | nil => simp at hl
  | cons b r =>
    have hd : ∃ d, Lib.digitVal b = some d := by
      simp only [Lib.decFrom] at h
      cases hd : Lib.digitVal b with
      | none => rw [hd] at h; cases h
      | some d => exact ⟨d, rfl⟩
    obtain ⟨d, hd⟩ := hd
    have hb : 48 ≤ b.toNat := by
      unfold Lib.digitVal at hd
      split at hd
      · rename_i h; exact h.1
      · cases hd
    have e1 : (b == 45) = false := by
      rw [beq_eq_false_iff_ne]
      intro e
      subst e
      exact absurd hb (by decide)
    have e2 : (b == 43) = false := by
      rw [beq_eq_false_iff_ne]
      intro e
      subst e
      exact absurd hb (by decide)
    simp only [Lib.atoi, e1, e2, Bool.false_eq_true, if_false, Lib.decNat, List.isEmpty_cons, h]
    rfl
theorem specP_eq (s : ByteArray) : specP s.data.toList = parseB s := by
  generalize hl : s.data.toList = l
  have acc : ∀ v : Nat, Lib.decFrom 0 (l.take 6) = some v → (1 ≤ l.length ∧ l.length ≤ 5) ∧ ¬ (1 < l.length ∧ l.head? = some 48) ∧ v ≤ 65535 → parseB s = ((v : Int), true) := by
    rintro v hv ⟨h1, h2, h3⟩
    rw [List.take_of_length_le (by omega)] at hv
    have hd := dec_of (l.length - 1) l v (by omega) hv (fun h e => h2 ⟨h, e⟩)
    unfold parseB
    rw [hl, atoi_dec ⟨h1.1, by omega⟩ hv]
    simp only
    rw [if_pos ⟨by omega, by omega, by rw [Lib.itoa, if_neg (by omega)]; simpa using hd⟩]
  by_cases hp : ∃ v : Int, Lib.atoiAll l = .ok v ∧ 0 ≤ v ∧ v ≤ 65535 ∧ Lib.itoa v = l
  · obtain ⟨v, ha, h0, h1, hi⟩ := hp
    rw [Lib.itoa, if_neg (by omega)] at hi
    have hlen : l.length ≤ 5 := by
      rw [← hi, Lib.decDigits_length]
      exact nDigits_le 4 _ (by omega)
    have hv : Lib.decFrom 0 (l.take 6) = some v.toNat := by
      rw [List.take_of_length_le (by omega), ← hi]
      exact dec_val _
    have hc : (1 ≤ l.length ∧ l.length ≤ 5) ∧ ¬ (1 < l.length ∧ l.head? = some 48) ∧ v.toNat ≤ 65535 := by
      refine ⟨⟨?_, hlen⟩, ?_, by omega⟩
      · have := dec_ne v.toNat
        rw [hi] at this
        exact List.length_pos_iff.2 this
      · rintro ⟨h2, h3⟩
        by_cases hz : 1 ≤ v.toNat
        · have := dec_head v.toNat hz
          rw [hi] at this
          exact this h3
        · rw [← hi, show v.toNat = 0 by omega, Lib.decDigits_one (by omega)] at h2
          simp at h2
    rw [acc _ hv hc]
    unfold specP
    rw [hv]
    simp only
    rw [if_pos hc]
  · have hn : parseB s = (0, false) := by
      unfold parseB
      rw [hl]
      split
      · rename_i v hv
        rw [if_neg fun h => hp ⟨v, hv, h.1, h.2.1, h.2.2⟩]
      · rfl
    unfold specP
    split
    · exact hn.symm
    · rename_i v hv
      split
      · rename_i hc
        exact (acc v hv hc).symm
      · exact hn.symm
end Go.Proofs.YtkjpediopepbkaaDoor.Pl

/- What spec.ParseNum gives. No condition. -/
namespace Go.Proofs.YtkjpediopepbkaaDoor.Pl
open Go.Proofs.YtkjpediopepbkaaDoor.R Go.Proofs.YtkjpediopepbkaaDoor.XH
set_option linter.unusedVariables false
set_option linter.unusedSimpArgs false

theorem digit_in (c : UInt8) : (∃ d, Lib.digitVal c = some d ∧ inR (c.toNat : Int) 48 57 = true ∧ (c.toNat : Int) - 48 = (d : Int) ∧ d < 10) ∨ (Lib.digitVal c = none ∧ inR (c.toNat : Int) 48 57 = false) := by
  unfold Lib.digitVal inR
  by_cases h : 48 ≤ c.toNat ∧ c.toNat ≤ 57
  · rw [if_pos h]
    exact .inl ⟨_, rfl, by simp; omega, by omega, by omega⟩
  · rw [if_neg h]
    refine .inr ⟨rfl, ?_⟩
    simp only [Bool.and_eq_false_iff, decide_eq_false_iff_not]
    omega
theorem head_is (l : List UInt8) (h : 0 < l.length) : (((l[0].toNat : Nat) : Int) == 48) = true ↔ l.head? = some 48 := by
  cases l with
  | nil => simp at h
  | cons b r =>
    simp only [List.getElem_cons_zero, List.head?_cons, Option.some.injEq, beq_iff_eq]
    constructor
    · intro e
      apply UInt8.toNat_inj.1
      show b.toNat = 48
      omega
    · intro e
      rw [e]
      rfl
theorem pow6 {i : Nat} (h : i ≤ 6) : 10 ^ i ≤ 1000000 := by
  have := Nat.pow_le_pow_right (show 0 < 10 by decide) h
  omega
theorem parse_loop (k0 : ByteArray × Int × Bool × Int → Option (Int × Bool)) (k1 : ByteArray × Int → Option (Int × Bool)) (z : Option (Int × Bool)) (s : ByteArray) (hs : s.size ≤ 1048576) (hk : ∀ n, k0 (s, 0, false, n) = z) :
    L_spec_ParseNum_3 k0 k1 (s, 0, 0) = match Lib.decFrom 0 (s.data.toList.take 6) with
      | none => z
      | some v => k1 (s, (v : Int)) := by
  have hlen : s.data.toList.length = s.size := by rw [Array.length_toList]; rfl
  unfold L_spec_ParseNum_3
  rw [loop_fuel (fun t : ByteArray × Int × Int => 6 - t.2.2.toNat) (fun t => t.1 = s ∧ 0 ≤ t.2.2 ∧ t.2.2 ≤ 6 ∧ t.2.2 ≤ s.size ∧ 0 ≤ t.2.1 ∧ t.2.1.toNat < 10 ^ t.2.2.toNat) (fun t => match Lib.decFrom t.2.1.toNat ((s.data.toList.take 6).drop t.2.2.toNat) with
      | none => z
      | some v => k1 (s, (v : Int))) ?_ (s, 0, 0) ⟨rfl, by simp, by simp, by simp, by simp, by simp⟩ (by simp only; omega)]
  · rfl
  · rintro again ⟨s', a, i⟩ ⟨rfl, h0, h6, h1, ha, hp⟩ hag
    simp only at h0 h6 h1 ha hp hs hk hlen ⊢
    have hp6 := pow6 (i := i.toNat) (by omega)
    unfold S_spec_ParseNum_3
    simp only [Bool.cond_eq_ite, decide_eq_true_eq]
    by_cases hi : i < (s'.size : Int) ∧ i < 6
    · have hn : i.toNat < s'.size := by omega
      have hdr : (s'.data.toList.take 6).drop i.toNat = ByteArray.get s' i.toNat hn :: (s'.data.toList.take 6).drop (i.toNat + 1) := by
        rw [get_byte, List.drop_eq_getElem_cons (by rw [List.length_take]; omega), List.getElem_take]
      rw [if_pos hi.1, Option.bind_some]
      simp only [hi.2, decide_true, if_true, l1In_eq, Option.bind_some, if_pos h0, dif_pos hn, w64_byte]
      rw [hdr]
      simp only [Lib.decFrom]
      rcases digit_in (ByteArray.get s' i.toNat hn) with ⟨d, e1, e2, e3, e4⟩ | ⟨e1, e2⟩
      · rw [e1, e2]
        simp only [Bool.not_true, Bool.false_eq_true, if_false]
        have hc := (ByteArray.get s' i.toNat hn).toNat_lt
        have w8 : Go.IntKind.wrap .u8 ((((ByteArray.get s' i.toNat hn).toNat : Nat) : Int) - 48) = (d : Int) := by
          rw [e3]
          have : d = 0 ∨ d = 1 ∨ d = 2 ∨ d = 3 ∨ d = 4 ∨ d = 5 ∨ d = 6 ∨ d = 7 ∨ d = 8 ∨ d = 9 := by omega
          rcases this with rfl | rfl | rfl | rfl | rfl | rfl | rfl | rfl | rfl | rfl <;> rfl
        have wd : Go.IntKind.wrap .i64 (d : Int) = d := w64 (by omega) (by omega)
        have wa : Go.IntKind.wrap .i64 (a * 10) = a * 10 := w64 (by omega) (by omega)
        have wb : Go.IntKind.wrap .i64 (a * 10 + d) = a * 10 + d := w64 (by omega) (by omega)
        have wi : Go.IntKind.wrap .i64 (i + 1) = i + 1 := w64 (by omega) (by omega)
        have t1 : (i + 1).toNat = i.toNat + 1 := by omega
        have t2 : (a * 10 + (d : Int)).toNat = a.toNat * 10 + d := by omega
        rw [w8, wd, wa, wb, wi]
        refine (hag (s', a * 10 + d, i + 1) ⟨rfl, by simp only; omega, by simp only; omega, by simp only; omega, by simp only; omega, by simp only [t1, t2, Nat.pow_succ]; omega⟩ (by simp only; omega)).trans ?_
        simp only [t1, t2]
      · rw [e1, e2]
        simp only [Bool.not_false, if_true]
        exact hk a
    · have hu : (if i < (s'.size : Int) then some (decide (i < 6)) else some false) = some false := by
        by_cases h : i < (s'.size : Int)
        · rw [if_pos h, show decide (i < 6) = false from decide_eq_false fun h' => hi ⟨h, h'⟩]
        · rw [if_neg h]
      rw [hu, Option.bind_some, if_neg (by simp), List.drop_of_length_le (by rw [List.length_take]; omega)]
      simp only [Lib.decFrom]
      rw [show ((a.toNat : Nat) : Int) = a by omega]
theorem spec_Parse_eq (s : ByteArray) (hs : s.size ≤ 1048576) : F_spec_ParseNum s = some (specP s.data.toList) := by
  have hlen : s.data.toList.length = s.size := by rw [Array.length_toList]; rfl
  unfold F_spec_ParseNum
  rw [parse_loop _ _ (some (0, false)) s hs (fun n => rfl)]
  unfold specP
  cases hd : Lib.decFrom 0 (s.data.toList.take 6) with
  | none => rfl
  | some v =>
    simp only [l1In_eq, Option.bind_some]
    have hr : inR (s.size : Int) 1 5 = true ↔ 1 ≤ s.data.toList.length ∧ s.data.toList.length ≤ 5 := by
      unfold inR
      simp only [Bool.and_eq_true, decide_eq_true_eq]
      omega
    have hh : ∀ h : 0 < s.size, (((ByteArray.get s 0 h).toNat : Int) == 48) = true ↔ s.data.toList.head? = some 48 := fun h => by
      rw [get_byte]
      exact head_is _ (by omega)
    by_cases h1 : inR (s.size : Int) 1 5 = true
    · rw [h1]
      have h5 := hr.1 h1
      simp only [Bool.not_true, cond_false, Int.toNat_zero, Int.le_refl, if_true]
      by_cases h2 : (s.size : Int) > 1
      · rw [show decide ((s.size : Int) > 1) = true from decide_eq_true h2]
        simp only [cond_true]
        rw [dif_pos (show 0 < s.size by omega)]
        simp only [Option.bind_some]
        by_cases h3 : (((ByteArray.get s 0 (show 0 < s.size by omega)).toNat : Int) == 48) = true
        · rw [h3]
          simp only [cond_true, Option.bind_some]
          rw [if_neg fun h => h.2.1 ⟨by omega, (hh _).1 h3⟩]
        · have h3' : (((ByteArray.get s 0 (show 0 < s.size by omega)).toNat : Int) == 48) = false := by simpa using h3
          rw [h3']
          simp only [cond_false, Option.bind_some]
          by_cases h4 : (v : Int) > 65535
          · rw [show decide ((v : Int) > 65535) = true from decide_eq_true h4]
            simp only [cond_true]
            rw [if_neg fun h => by omega]
          · rw [show decide ((v : Int) > 65535) = false from decide_eq_false h4]
            simp only [cond_false]
            rw [if_pos ⟨h5, fun h => h3 ((hh _).2 h.2), by omega⟩]
      · rw [show decide ((s.size : Int) > 1) = false from decide_eq_false h2]
        simp only [cond_false, Option.bind_some]
        by_cases h4 : (v : Int) > 65535
        · rw [show decide ((v : Int) > 65535) = true from decide_eq_true h4]
          simp only [cond_true]
          rw [if_neg fun h => by omega]
        · rw [show decide ((v : Int) > 65535) = false from decide_eq_false h4]
          simp only [cond_false]
          rw [if_pos ⟨h5, fun h => by omega, by omega⟩]
    · have h1' : inR (s.size : Int) 1 5 = false := by simpa using h1
      rw [h1']
      simp only [Bool.not_false, cond_true, Option.bind_some]
      rw [if_neg fun h => h1 (hr.2 h.1)]
end Go.Proofs.YtkjpediopepbkaaDoor.Pl

