/- What the small functions compute: ranges, names, operations, the checksum. No condition. -/
import Derived.Test.YtmanmgafjbnakaaPBase
namespace Go.Proofs.Ytmanmgafjbnakaa.Pl
open Go.Proofs.Ytmanmgafjbnakaa.R Go.Proofs.Ytmanmgafjbnakaa.XT
set_option linter.unusedVariables false
set_option linter.unusedSimpArgs false

theorem l1In_eq (x a b : Int) : F_spec_l1In (x, a, b) = some (inR x a b) := by
  unfold F_spec_l1In inR
  by_cases h : x ≥ a <;> simp [h]
theorem within_eq (x a b : Int) : F_impl_within (x, a, b) = some (inR x a b) := by
  unfold F_impl_within inR
  by_cases h : x ≥ a <;> simp [h]
def isW (n : Int) : Bool := inR n 0 65535
theorem l1Word_eq (x : Int) : F_spec_l1Word x = some (isW x) := by unfold F_spec_l1Word; rw [l1In_eq]; rfl
theorem isWord_eq (x : Int) : F_impl_isWord x = some (isW x) := by unfold F_impl_isWord; rw [within_eq]; rfl

/-! ### Names -/
def nameByte (c : Int) : Bool := inR c 97 122 || inR c 48 57
def nameAll (l : List UInt8) : Bool := l.all fun c => nameByte (c.toNat : Int)
def nameOk (s : ByteArray) : Bool := nameAll s.data.toList && inR s.size 1 6
theorem w64_byte (c : UInt8) : Go.IntKind.wrap .i64 (c.toNat : Int) = c.toNat := by
  have := c.toNat_lt
  exact w64 (by omega) (by omega)
theorem get_byte (s : ByteArray) (i : Nat) (h : i < s.size) : ByteArray.get s i h = s.data.toList[i]'(by rw [Array.length_toList]; exact h) := by
  rw [Array.getElem_toList]
  rfl
theorem drop_byte (s : ByteArray) (i : Nat) (h : i < s.size) : s.data.toList.drop i = ByteArray.get s i h :: s.data.toList.drop (i + 1) := by
  rw [get_byte, ← List.drop_eq_getElem_cons]
theorem spec_NameOk_eq (s : ByteArray) (hs : s.size ≤ maxLen) : F_spec_NameOk s = some (nameOk s) := by
  have hm : (s.size : Int) ≤ 9223372036854775807 := by simp only [maxLen] at hs; omega
  unfold F_spec_NameOk L_spec_NameOk_2
  rw [loop_fuel (fun t : ByteArray × Int => t.1.size - t.2.toNat) (fun t => t.1 = s ∧ 0 ≤ t.2 ∧ t.2 ≤ s.size) (fun t => if nameAll (t.1.data.toList.drop t.2.toNat) then some (inR s.size 1 6) else some false) ?_ (s, 0) ⟨rfl, by simp, by simp⟩ (by simp only [maxLen] at hs; simp; omega)]
  · unfold nameOk
    cases h : nameAll s.data.toList <;> simp [h]
  · rintro again ⟨s', i⟩ ⟨rfl, h0, h1⟩ hag
    simp only at h0 h1 hs hm ⊢
    unfold S_spec_NameOk_2
    simp only [Bool.cond_eq_ite, decide_eq_true_eq]
    by_cases hi : i < (s'.size : Int)
    · have hn : i.toNat < s'.size := by omega
      rw [if_pos hi, if_pos h0, dif_pos hn]
      simp only [l1In_eq, Option.bind_some, if_pos h0, dif_pos hn, w64_byte]
      rw [drop_byte s' i.toNat hn]
      have hw : Go.IntKind.wrap .i64 (i + 1) = i + 1 := w64 (by omega) (by omega)
      have e1 : (i + 1).toNat = i.toNat + 1 := by omega
      have hag' := hag (s', i + 1) ⟨rfl, by simp only; omega, by simp only; omega⟩ (by simp only; omega)
      simp only [nameAll, List.all_cons, nameByte] at hag' ⊢
      rw [hw, hag', e1]
      obtain ⟨c, hc⟩ : ∃ c, ByteArray.get s' i.toNat hn = c := ⟨_, rfl⟩
      simp only [hc]
      cases inR (c.toNat : Int) 97 122 <;> cases inR (c.toNat : Int) 48 57 <;> simp
    · rw [if_neg hi, List.drop_of_length_le (by rw [Array.length_toList]; show s'.size ≤ _; omega)]
      simp [nameAll, l1In_eq]
theorem impl_NameOk_eq (s : ByteArray) (hs : s.size ≤ maxLen) : F_impl_NameOk s = some (nameOk s) := by
  have hm : (s.size : Int) ≤ 9223372036854775807 := by simp only [maxLen] at hs; omega
  unfold F_impl_NameOk L_impl_NameOk_2
  rw [loop_fuel (fun t : ByteArray × Int => t.1.size - t.2.toNat) (fun t => t.1 = s ∧ 0 ≤ t.2 ∧ t.2 ≤ s.size) (fun t => if nameAll (t.1.data.toList.drop t.2.toNat) then some (inR s.size 1 6) else some false) ?_ (s, 0) ⟨rfl, by simp, by simp⟩ (by simp only [maxLen] at hs; simp; omega)]
  · unfold nameOk
    cases h : nameAll s.data.toList <;> simp [h]
  · rintro again ⟨s', i⟩ ⟨rfl, h0, h1⟩ hag
    simp only at h0 h1 hs hm ⊢
    unfold S_impl_NameOk_2
    simp only [Bool.cond_eq_ite, decide_eq_true_eq]
    by_cases hi : i < (s'.size : Int)
    · have hn : i.toNat < s'.size := by omega
      rw [if_pos hi, if_pos h0, dif_pos hn]
      simp only [within_eq, Option.bind_some, if_pos h0, dif_pos hn, w64_byte]
      rw [drop_byte s' i.toNat hn]
      have hw : Go.IntKind.wrap .i64 (i + 1) = i + 1 := w64 (by omega) (by omega)
      have e1 : (i + 1).toNat = i.toNat + 1 := by omega
      have hag' := hag (s', i + 1) ⟨rfl, by simp only; omega, by simp only; omega⟩ (by simp only; omega)
      simp only [nameAll, List.all_cons, nameByte] at hag' ⊢
      rw [hw, hag', e1]
      obtain ⟨c, hc⟩ : ∃ c, ByteArray.get s' i.toNat hn = c := ⟨_, rfl⟩
      simp only [hc]
      cases inR (c.toNat : Int) 97 122 <;> cases inR (c.toNat : Int) 48 57 <;> simp
    · rw [if_neg hi, List.drop_of_length_le (by rw [Array.length_toList]; show s'.size ≤ _; omega)]
      simp [nameAll, within_eq]

/-! ### Operations -/
def opZero (kind a b : Int) : Bool :=
  if kind = 2 then decide (a = 0) && inR b 0 1 else if kind = 3 ∨ kind = 7 then decide (a = 0) && decide (b = 0) else if kind = 4 then true else decide (b = 0)
def noText (s : ByteArray) : Bool := s.toList == ([] : List UInt8)
def opOk (kind : Int) (name tt : ByteArray) (a b : Int) : Bool :=
  inR kind 1 9 && (if kind ≥ 7 then noText name else nameOk name) && (if kind = 2 then nameOk tt else noText tt) && isW a && isW b && opZero kind a b
def entOk (seq kind : Int) (name tt : ByteArray) (a b : Int) : Bool := inR seq 1 60000 && opOk kind name tt a b
theorem spec_l15Zero_eq (kind : Int) (name tt : ByteArray) (a b : Int) : F_spec_l15Zero (kind, name, tt, a, b) = some (opZero kind a b) := by
  unfold F_spec_l15Zero opZero
  simp only [Bool.cond_eq_ite, l1In_eq, Option.bind_some, beq_iff_eq]
  by_cases h2 : kind = 2 <;> by_cases h3 : kind = 3 <;> by_cases h7 : kind = 7 <;> by_cases h4 : kind = 4 <;> by_cases ha : a = 0 <;> by_cases hb : b = 0 <;> simp_all
theorem bi (x y : Int) : ((x == y) = true) = (x = y) := by simp
theorem toList_empty : (ByteArray.toList { data := #[] }) = [] := by
  unfold ByteArray.toList ByteArray.toList.loop
  rfl
theorem spec_OpOk_eq (kind : Int) (name tt : ByteArray) (a b : Int) (hn : name.size ≤ maxLen) (ht : tt.size ≤ maxLen) : F_spec_OpOk (kind, name, tt, a, b) = some (opOk kind name tt a b) := by
  unfold F_spec_OpOk opOk noText
  simp only [Bool.cond_eq_ite, spec_NameOk_eq _ hn, spec_NameOk_eq _ ht, l1In_eq, l1Word_eq, spec_l15Zero_eq, Option.bind_some, bi, toList_empty, decide_eq_true_eq]
  generalize (name.toList == ([] : List UInt8)) = n1
  generalize (tt.toList == ([] : List UInt8)) = n2
  generalize inR kind 1 9 = n3
  generalize opZero kind a b = n4
  by_cases h7 : kind ≥ 7 <;> by_cases h2 : kind = 2 <;> simp only [h7, h2, if_true, if_false, Option.bind_some] <;> cases n1 <;> cases n2 <;> cases n3 <;> cases n4 <;> cases nameOk name <;> cases nameOk tt <;> cases isW a <;> cases isW b <;> rfl
theorem impl_OpOk_eq (kind : Int) (name tt : ByteArray) (a b : Int) (hn : name.size ≤ maxLen) (ht : tt.size ≤ maxLen) : F_impl_OpOk (kind, name, tt, a, b) = some (opOk kind name tt a b) := by
  unfold F_impl_OpOk
  simp only [Bool.cond_eq_ite, impl_NameOk_eq _ hn, impl_NameOk_eq _ ht, within_eq, isWord_eq, Option.bind_some, bi, toList_empty, decide_eq_true_eq]
  unfold opOk noText
  generalize (name.toList == ([] : List UInt8)) = n1
  generalize (tt.toList == ([] : List UInt8)) = n2
  cases hwb : isW b with
  | false => cases inR kind 1 9 <;> cases isW a <;> simp
  | true =>
    obtain ⟨hb0, hb1⟩ := inR_iff.1 hwb
    have hb : inR b 0 1 = (decide (b ≤ 1)) := by simp [inR, hb0]
    unfold opZero
    rw [hb]
    generalize nameOk name = n3
    generalize nameOk tt = n4
    generalize isW a = n5
    generalize inR kind 1 9 = n6
    have ea : (a == 0) = decide (a = 0) := rfl
    have eb : (b == 0) = decide (b = 0) := rfl
    by_cases h7 : kind ≥ 7
    · have h6 : ¬ kind ≤ 6 := by omega
      have h2 : ¬ kind = 2 := by omega
      have h3 : ¬ kind = 3 := by omega
      have h4 : ¬ kind = 4 := by omega
      simp only [if_neg h6, if_pos h7, if_neg h2, if_neg h3, if_neg h4, h3, ea, eb, false_or, decide_eq_true_eq]
      by_cases h77 : kind = 7
      · simp only [if_pos h77]
        by_cases ha : a = 0 <;> by_cases hb' : b = 0 <;> simp only [ha, hb', if_true, if_false, decide_true, decide_false] <;> cases n1 <;> cases n2 <;> cases n5 <;> cases n6 <;> first | rfl | simp
      · simp only [if_neg h77]
        by_cases hb' : b = 0 <;> simp only [hb', if_true, if_false, decide_true, decide_false] <;> cases n1 <;> cases n2 <;> cases n5 <;> cases n6 <;> first | rfl | simp
    · have h6 : kind ≤ 6 := by omega
      have h77 : ¬ kind = 7 := by omega
      by_cases h2 : kind = 2 <;> by_cases h3 : kind = 3 <;> by_cases h4 : kind = 4 <;> simp only [h7, h6, h2, h3, h4, h77, ea, eb, if_true, if_false, or_true, or_false, decide_eq_true_eq] <;> first | (exfalso; omega) | skip
      all_goals by_cases ha : a = 0 <;> by_cases hb' : b = 0 <;> simp only [ha, hb', if_true, if_false, decide_true, decide_false] <;> cases n1 <;> cases n2 <;> cases n3 <;> cases n4 <;> cases n5 <;> cases n6 <;> first | rfl | simp
theorem spec_EntOk_eq (q kind : Int) (name tt : ByteArray) (a b : Int) (hn : name.size ≤ maxLen) (ht : tt.size ≤ maxLen) : F_spec_EntOk (q, kind, name, tt, a, b) = some (entOk q kind name tt a b) := by
  unfold F_spec_EntOk entOk
  simp only [Bool.cond_eq_ite, l1In_eq, spec_OpOk_eq _ _ _ _ _ hn ht, Option.bind_some]
  cases inR q 1 60000 <;> simp
theorem impl_EntOk_eq (q kind : Int) (name tt : ByteArray) (a b : Int) (hn : name.size ≤ maxLen) (ht : tt.size ≤ maxLen) : F_impl_EntOk (q, kind, name, tt, a, b) = some (entOk q kind name tt a b) := by
  unfold F_impl_EntOk entOk
  simp only [Bool.cond_eq_ite, within_eq, impl_OpOk_eq _ _ _ _ _ hn ht, Option.bind_some]
  cases inR q 1 60000 <;> simp
end Go.Proofs.Ytmanmgafjbnakaa.Pl
