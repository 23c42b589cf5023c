/- Words out of their numerals: alike on both sides. No condition. -/
import Derived.Test.YtmanmgafjbnakaaDoorPLoops
namespace Go.Proofs.YtmanmgafjbnakaaDoor.Pl
open Go.Proofs.YtmanmgafjbnakaaDoor.R Go.Proofs.YtmanmgafjbnakaaDoor.XP
set_option linter.unusedVariables false
set_option linter.unusedSimpArgs false

theorem decFrom_app : ∀ (l m : List UInt8) (a : Nat), Lib.decFrom a (l ++ m) = (Lib.decFrom a l).bind fun u => Lib.decFrom u m
  | [], m, a => rfl
  | b :: l, m, a => by
    simp only [List.cons_append, Lib.decFrom]
    cases Lib.digitVal b with
    | none => rfl
    | some d => exact decFrom_app l m _
theorem digitVal_of {d : Nat} (h : d < 10) : Lib.digitVal (UInt8.ofNat (48 + d)) = some d := by
  have : d = 0 ∨ d = 1 ∨ d = 2 ∨ d = 3 ∨ d = 4 ∨ d = 5 ∨ d = 6 ∨ d = 7 ∨ d = 8 ∨ d = 9 := by omega
  rcases this with rfl | rfl | rfl | rfl | rfl | rfl | rfl | rfl | rfl | rfl <;> rfl
theorem of_digitVal {b : UInt8} {d : Nat} (h : Lib.digitVal b = some d) : d < 10 ∧ b = UInt8.ofNat (48 + d) := by
  unfold Lib.digitVal at h
  split at h
  · injection h with h
    refine ⟨by omega, ?_⟩
    rw [← h, show 48 + (b.toNat - 48) = b.toNat by omega]
    simp
  · cases h
theorem dec_ne (u : Nat) : Lib.decDigits u ≠ [] := by
  rw [Lib.decDigits]
  split <;> simp
/-- The digits of u spell u. -/
theorem dec_val : ∀ u : Nat, Lib.decFrom 0 (Lib.decDigits u) = some u := by
  intro u
  induction u using Nat.strongRecOn with
  | ind u ih =>
    rw [Lib.decDigits]
    split
    · rename_i h
      simp only [Lib.decFrom, digitVal_of h, Nat.zero_mul, Nat.zero_add]
    · rename_i h
      rw [decFrom_app, ih (u / 10) (by omega), Option.bind_some]
      simp only [Lib.decFrom, digitVal_of (show u % 10 < 10 by omega)]
      congr 1
      omega
theorem dec_head : ∀ u : Nat, 1 ≤ u → (Lib.decDigits u).head? ≠ some 48 := by
  intro u
  induction u using Nat.strongRecOn with
  | ind u ih =>
    intro h1
    rw [Lib.decDigits]
    split
    · rename_i h
      have : u = 1 ∨ u = 2 ∨ u = 3 ∨ u = 4 ∨ u = 5 ∨ u = 6 ∨ u = 7 ∨ u = 8 ∨ u = 9 := by omega
      rcases this with rfl | rfl | rfl | rfl | rfl | rfl | rfl | rfl | rfl <;> decide
    · rename_i h
      have := ih (u / 10) (by omega) (by omega)
      cases hd : Lib.decDigits (u / 10) with
      | nil => exact absurd hd (dec_ne _)
      | cons b r =>
        rw [hd] at this
        exact this
theorem nDigits_le (f : Nat) : ∀ u : Nat, u < 10 ^ (f + 1) → Lib.nDigits u ≤ f + 1 := by
  induction f with
  | zero => intro u hu; rw [Lib.nDigits_small (by omega)]; omega
  | succ f ih =>
    intro u hu
    rw [Lib.nDigits]
    split
    · omega
    · have := ih (u / 10) (by rw [Nat.pow_succ] at hu; omega)
      omega
theorem decFrom_ge : ∀ (l : List UInt8) (a v : Nat), Lib.decFrom a l = some v → a ≤ v
  | [], a, v, h => by
    injection h with h
    omega
  | b :: l, a, v, h => by
    simp only [Lib.decFrom] at h
    cases hd : Lib.digitVal b with
    | none => rw [hd] at h; cases h
    | some d =>
      rw [hd] at h
      have := decFrom_ge l _ v h
      omega
/-- What begins with no nought, or is one digit, is the numeral of what it spells. -/
theorem dec_of : ∀ (n : Nat) (l : List UInt8) (v : Nat), l.length = n + 1 → Lib.decFrom 0 l = some v → (1 < l.length → l.head? ≠ some 48) → Lib.decDigits v = l := by
  intro n
  induction n with
  | zero =>
    intro l v hl h _
    match l, hl with
    | [b], _ =>
      simp only [Lib.decFrom] at h
      cases hd : Lib.digitVal b with
      | none => rw [hd] at h; cases h
      | some d =>
        rw [hd] at h
        obtain ⟨h10, rfl⟩ := of_digitVal hd
        injection h with h
        rw [Lib.decDigits, dif_pos (by omega)]
        congr 2
        omega
  | succ n ih =>
    intro l v hl h hh
    have hne : l ≠ [] := fun e => by rw [e] at hl; simp at hl
    obtain ⟨m, b, rfl⟩ : ∃ m b, l = m ++ [b] := ⟨l.dropLast, l.getLast hne, (List.dropLast_concat_getLast hne).symm⟩
    have hm : m.length = n + 1 := by simpa using hl
    rw [decFrom_app] at h
    obtain ⟨u, hu, h3⟩ := Option.bind_eq_some_iff.1 h
    simp only [Lib.decFrom] at h3
    cases hd : Lib.digitVal b with
    | none => rw [hd] at h3; cases h3
    | some d =>
      rw [hd] at h3
      obtain ⟨h10, rfl⟩ := of_digitVal hd
      injection h3 with h3
      have hhead : m.head? ≠ some 48 := fun e => by
        apply hh (by simp; omega)
        cases m with
        | nil => simp at hm
        | cons c m => simpa using e
      have hmu := ih m u hm hu (fun _ => hhead)
      have hu1 : 1 ≤ u := by
        by_cases h0 : u = 0
        · subst h0
          rw [Lib.decDigits, dif_pos (by omega)] at hmu
          exact absurd (by rw [← hmu]; rfl) hhead
        · omega
      rw [Lib.decDigits, dif_neg (by omega), show v / 10 = u by omega, show v % 10 = d by omega, hmu]
/-- What spec.ParseNum says of a text's bytes. -/
def specP (l : List UInt8) : Int × Bool := match Lib.decFrom 0 (l.take 6) with
  | none => (0, false)
  | some v => if (1 ≤ l.length ∧ l.length ≤ 5) ∧ ¬ (1 < l.length ∧ l.head? = some 48) ∧ v ≤ 65535 then ((v : Int), true) else (0, false)
theorem atoi_dec {l : List UInt8} {v : Nat} (hl : 1 ≤ l.length ∧ l.length ≤ 18) (h : Lib.decFrom 0 l = some v) : Lib.atoiAll l = .ok (v : Int) := by
  rw [Lib.atoiAll_short l hl.2]
  cases l with
  | nil => simp at hl
  | cons b r =>
    have hd : ∃ d, Lib.digitVal b = some d := by
      simp only [Lib.decFrom] at h
      cases hd : Lib.digitVal b with
      | none => rw [hd] at h; cases h
      | some d => exact ⟨d, rfl⟩
    obtain ⟨d, hd⟩ := hd
    have hb : 48 ≤ b.toNat := by
      unfold Lib.digitVal at hd
      split at hd
      · rename_i h; exact h.1
      · cases hd
    have e1 : (b == 45) = false := by
      rw [beq_eq_false_iff_ne]
      intro e
      subst e
      exact absurd hb (by decide)
    have e2 : (b == 43) = false := by
      rw [beq_eq_false_iff_ne]
      intro e
      subst e
      exact absurd hb (by decide)
    simp only [Lib.atoi, e1, e2, Bool.false_eq_true, if_false, Lib.decNat, List.isEmpty_cons, h]
    rfl
theorem specP_eq (s : ByteArray) : specP s.data.toList = parseB s := by
  generalize hl : s.data.toList = l
  have acc : ∀ v : Nat, Lib.decFrom 0 (l.take 6) = some v → (1 ≤ l.length ∧ l.length ≤ 5) ∧ ¬ (1 < l.length ∧ l.head? = some 48) ∧ v ≤ 65535 → parseB s = ((v : Int), true) := by
    rintro v hv ⟨h1, h2, h3⟩
    rw [List.take_of_length_le (by omega)] at hv
    have hd := dec_of (l.length - 1) l v (by omega) hv (fun h e => h2 ⟨h, e⟩)
    unfold parseB
    rw [hl, atoi_dec ⟨h1.1, by omega⟩ hv]
    simp only
    rw [if_pos ⟨by omega, by omega, by rw [Lib.itoa, if_neg (by omega)]; simpa using hd⟩]
  by_cases hp : ∃ v : Int, Lib.atoiAll l = .ok v ∧ 0 ≤ v ∧ v ≤ 65535 ∧ Lib.itoa v = l
  · obtain ⟨v, ha, h0, h1, hi⟩ := hp
    rw [Lib.itoa, if_neg (by omega)] at hi
    have hlen : l.length ≤ 5 := by
      rw [← hi, Lib.decDigits_length]
      exact nDigits_le 4 _ (by omega)
    have hv : Lib.decFrom 0 (l.take 6) = some v.toNat := by
      rw [List.take_of_length_le (by omega), ← hi]
      exact dec_val _
    have hc : (1 ≤ l.length ∧ l.length ≤ 5) ∧ ¬ (1 < l.length ∧ l.head? = some 48) ∧ v.toNat ≤ 65535 := by
      refine ⟨⟨?_, hlen⟩, ?_, by omega⟩
      · have := dec_ne v.toNat
        rw [hi] at this
        exact List.length_pos_iff.2 this
      · rintro ⟨h2, h3⟩
        by_cases hz : 1 ≤ v.toNat
        · have := dec_head v.toNat hz
          rw [hi] at this
          exact this h3
        · rw [← hi, show v.toNat = 0 by omega, Lib.decDigits_one (by omega)] at h2
          simp at h2
    rw [acc _ hv hc]
    unfold specP
    rw [hv]
    simp only
    rw [if_pos hc]
  · have hn : parseB s = (0, false) := by
      unfold parseB
      rw [hl]
      split
      · rename_i v hv
        rw [if_neg fun h => hp ⟨v, hv, h.1, h.2.1, h.2.2⟩]
      · rfl
    unfold specP
    split
    · exact hn.symm
    · rename_i v hv
      split
      · rename_i hc
        exact (acc v hv hc).symm
      · exact hn.symm
end Go.Proofs.YtmanmgafjbnakaaDoor.Pl
