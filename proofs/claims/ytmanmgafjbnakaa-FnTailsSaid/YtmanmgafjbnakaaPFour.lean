/- Names, Ops, Crc, ReadW, Read, Four. No condition. -/
import Derived.Test.YtmanmgafjbnakaaPDev
/- Names: what they answer. No condition. -/
namespace Go.Proofs.Ytmanmgafjbnakaa.Pl
open Go.Proofs.Ytmanmgafjbnakaa.R Go.Proofs.Ytmanmgafjbnakaa.XV
set_option linter.unusedVariables false
set_option linter.unusedSimpArgs false

def isW (n : Int) : Bool := inR n 0 65535
theorem l1Word_eq (x : Int) : F_spec_l1Word x = some (isW x) := by unfold F_spec_l1Word; rw [l1In_eq]; rfl
theorem isWord_eq (x : Int) : F_impl_isWord x = some (isW x) := by unfold F_impl_isWord; rw [within_eq]; rfl

/-! ### Names -/
def nameByte (c : Int) : Bool := inR c 97 122 || inR c 48 57
def nameAll (l : List UInt8) : Bool := l.all fun c => nameByte (c.toNat : Int)
def nameOk (s : ByteArray) : Bool := nameAll s.data.toList && inR s.size 1 6
theorem w64_byte (c : UInt8) : Go.IntKind.wrap .i64 (c.toNat : Int) = c.toNat := by
  have := c.toNat_lt
  exact w64 (by omega) (by omega)
theorem get_byte (s : ByteArray) (i : Nat) (h : i < s.size) : ByteArray.get s i h = s.data.toList[i]'(by rw [Array.length_toList]; exact h) := by
  rw [Array.getElem_toList]
  rfl
theorem drop_byte (s : ByteArray) (i : Nat) (h : i < s.size) : s.data.toList.drop i = ByteArray.get s i h :: s.data.toList.drop (i + 1) := by
  rw [get_byte, ← List.drop_eq_getElem_cons]
theorem spec_NameOk_eq (s : ByteArray) (hs : s.size ≤ maxLen) : F_spec_NameOk s = some (nameOk s) := by
  have hm : (s.size : Int) ≤ 9223372036854775807 := by simp only [maxLen] at hs; omega
  unfold F_spec_NameOk L_spec_NameOk_2
  rw [loop_fuel (fun t : ByteArray × Int => t.1.size - t.2.toNat) (fun t => t.1 = s ∧ 0 ≤ t.2 ∧ t.2 ≤ s.size) (fun t => if nameAll (t.1.data.toList.drop t.2.toNat) then some (inR s.size 1 6) else some false) ?_ (s, 0) ⟨rfl, by simp, by simp⟩ (by simp only [maxLen] at hs; simp; omega)]
  · unfold nameOk
    cases h : nameAll s.data.toList <;> simp [h]
  · rintro again ⟨s', i⟩ ⟨rfl, h0, h1⟩ hag
    simp only at h0 h1 hs hm ⊢
    unfold S_spec_NameOk_2
    simp only [Bool.cond_eq_ite, decide_eq_true_eq]
    by_cases hi : i < (s'.size : Int)
    · have hn : i.toNat < s'.size := by omega
      rw [if_pos hi, if_pos h0, dif_pos hn]
      simp only [l1In_eq, Option.bind_some, if_pos h0, dif_pos hn, w64_byte]
      rw [drop_byte s' i.toNat hn]
      have hw : Go.IntKind.wrap .i64 (i + 1) = i + 1 := w64 (by omega) (by omega)
      have e1 : (i + 1).toNat = i.toNat + 1 := by omega
      have hag' := hag (s', i + 1) ⟨rfl, by simp only; omega, by simp only; omega⟩ (by simp only; omega)
      simp only [nameAll, List.all_cons, nameByte] at hag' ⊢
      rw [hw, hag', e1]
      obtain ⟨c, hc⟩ : ∃ c, ByteArray.get s' i.toNat hn = c := ⟨_, rfl⟩
      simp only [hc]
      cases inR (c.toNat : Int) 97 122 <;> cases inR (c.toNat : Int) 48 57 <;> simp
    · rw [if_neg hi, List.drop_of_length_le (by rw [Array.length_toList]; show s'.size ≤ _; omega)]
      simp [nameAll, l1In_eq]
theorem impl_NameOk_eq (s : ByteArray) (hs : s.size ≤ maxLen) : F_impl_NameOk s = some (nameOk s) := by
  have hm : (s.size : Int) ≤ 9223372036854775807 := by simp only [maxLen] at hs; omega
  unfold F_impl_NameOk L_impl_NameOk_2
  rw [loop_fuel (fun t : ByteArray × Int => t.1.size - t.2.toNat) (fun t => t.1 = s ∧ 0 ≤ t.2 ∧ t.2 ≤ s.size) (fun t => if nameAll (t.1.data.toList.drop t.2.toNat) then some (inR s.size 1 6) else some false) ?_ (s, 0) ⟨rfl, by simp, by simp⟩ (by simp only [maxLen] at hs; simp; omega)]
  · unfold nameOk
    cases h : nameAll s.data.toList <;> simp [h]
  · rintro again ⟨s', i⟩ ⟨rfl, h0, h1⟩ hag
    simp only at h0 h1 hs hm ⊢
    unfold S_impl_NameOk_2
    simp only [Bool.cond_eq_ite, decide_eq_true_eq]
    by_cases hi : i < (s'.size : Int)
    · have hn : i.toNat < s'.size := by omega
      rw [if_pos hi, if_pos h0, dif_pos hn]
      simp only [within_eq, Option.bind_some, if_pos h0, dif_pos hn, w64_byte]
      rw [drop_byte s' i.toNat hn]
      have hw : Go.IntKind.wrap .i64 (i + 1) = i + 1 := w64 (by omega) (by omega)
      have e1 : (i + 1).toNat = i.toNat + 1 := by omega
      have hag' := hag (s', i + 1) ⟨rfl, by simp only; omega, by simp only; omega⟩ (by simp only; omega)
      simp only [nameAll, List.all_cons, nameByte] at hag' ⊢
      rw [hw, hag', e1]
      obtain ⟨c, hc⟩ : ∃ c, ByteArray.get s' i.toNat hn = c := ⟨_, rfl⟩
      simp only [hc]
      cases inR (c.toNat : Int) 97 122 <;> cases inR (c.toNat : Int) 48 57 <;> simp
    · rw [if_neg hi, List.drop_of_length_le (by rw [Array.length_toList]; show s'.size ≤ _; omega)]
      simp [nameAll, within_eq]

end Go.Proofs.Ytmanmgafjbnakaa.Pl

/- Operations: what they answer. No condition. -/
namespace Go.Proofs.Ytmanmgafjbnakaa.Pl
open Go.Proofs.Ytmanmgafjbnakaa.R Go.Proofs.Ytmanmgafjbnakaa.XV
set_option linter.unusedVariables false
set_option linter.unusedSimpArgs false

/-! ### Operations -/
def opZero (kind a b : Int) : Bool :=
  if kind = 2 then decide (a = 0) && inR b 0 1 else if kind = 3 ∨ kind = 7 then decide (a = 0) && decide (b = 0) else if kind = 4 then true else decide (b = 0)
def noText (s : ByteArray) : Bool := s.toList == ([] : List UInt8)
def opOk (kind : Int) (name tt : ByteArray) (a b : Int) : Bool :=
  inR kind 1 9 && (if kind ≥ 7 then noText name else nameOk name) && (if kind = 2 then nameOk tt else noText tt) && isW a && isW b && opZero kind a b
def entOk (seq kind : Int) (name tt : ByteArray) (a b : Int) : Bool := inR seq 1 60000 && opOk kind name tt a b
theorem spec_l15Zero_eq (kind : Int) (name tt : ByteArray) (a b : Int) : F_spec_l15Zero (kind, name, tt, a, b) = some (opZero kind a b) := by
  unfold F_spec_l15Zero opZero
  simp only [Bool.cond_eq_ite, l1In_eq, Option.bind_some, beq_iff_eq]
  by_cases h2 : kind = 2 <;> by_cases h3 : kind = 3 <;> by_cases h7 : kind = 7 <;> by_cases h4 : kind = 4 <;> by_cases ha : a = 0 <;> by_cases hb : b = 0 <;> simp_all
theorem toList_empty : (ByteArray.toList { data := #[] }) = [] := by
  unfold ByteArray.toList ByteArray.toList.loop
  rfl
theorem spec_OpOk_eq (kind : Int) (name tt : ByteArray) (a b : Int) (hn : name.size ≤ maxLen) (ht : tt.size ≤ maxLen) : F_spec_OpOk (kind, name, tt, a, b) = some (opOk kind name tt a b) := by
  unfold F_spec_OpOk opOk noText
  simp only [Bool.cond_eq_ite, spec_NameOk_eq _ hn, spec_NameOk_eq _ ht, l1In_eq, l1Word_eq, spec_l15Zero_eq, Option.bind_some, bi, toList_empty, decide_eq_true_eq]
  generalize (name.toList == ([] : List UInt8)) = n1
  generalize (tt.toList == ([] : List UInt8)) = n2
  generalize inR kind 1 9 = n3
  generalize opZero kind a b = n4
  by_cases h7 : kind ≥ 7 <;> by_cases h2 : kind = 2 <;> simp only [h7, h2, if_true, if_false, Option.bind_some] <;> cases n1 <;> cases n2 <;> cases n3 <;> cases n4 <;> cases nameOk name <;> cases nameOk tt <;> cases isW a <;> cases isW b <;> rfl
theorem impl_OpOk_eq (kind : Int) (name tt : ByteArray) (a b : Int) (hn : name.size ≤ maxLen) (ht : tt.size ≤ maxLen) : F_impl_OpOk (kind, name, tt, a, b) = some (opOk kind name tt a b) := by
  unfold F_impl_OpOk
  simp only [Bool.cond_eq_ite, impl_NameOk_eq _ hn, impl_NameOk_eq _ ht, within_eq, isWord_eq, Option.bind_some, bi, toList_empty, decide_eq_true_eq]
  unfold opOk noText
  generalize (name.toList == ([] : List UInt8)) = n1
  generalize (tt.toList == ([] : List UInt8)) = n2
  cases hwb : isW b with
  | false => cases inR kind 1 9 <;> cases isW a <;> simp
  | true =>
    obtain ⟨hb0, hb1⟩ := inR_iff.1 hwb
    have hb : inR b 0 1 = (decide (b ≤ 1)) := by simp [inR, hb0]
    unfold opZero
    rw [hb]
    generalize nameOk name = n3
    generalize nameOk tt = n4
    generalize isW a = n5
    generalize inR kind 1 9 = n6
    have ea : (a == 0) = decide (a = 0) := rfl
    have eb : (b == 0) = decide (b = 0) := rfl
    by_cases h7 : kind ≥ 7
    · have h6 : ¬ kind ≤ 6 := by omega
      have h2 : ¬ kind = 2 := by omega
      have h3 : ¬ kind = 3 := by omega
      have h4 : ¬ kind = 4 := by omega
      simp only [if_neg h6, if_pos h7, if_neg h2, if_neg h3, if_neg h4, h3, ea, eb, false_or, decide_eq_true_eq]
      by_cases h77 : kind = 7
      · simp only [if_pos h77]
        by_cases ha : a = 0 <;> by_cases hb' : b = 0 <;> simp only [ha, hb', if_true, if_false, decide_true, decide_false] <;> cases n1 <;> cases n2 <;> cases n5 <;> cases n6 <;> first | rfl | simp
      · simp only [if_neg h77]
        by_cases hb' : b = 0 <;> simp only [hb', if_true, if_false, decide_true, decide_false] <;> cases n1 <;> cases n2 <;> cases n5 <;> cases n6 <;> first | rfl | simp
    · have h6 : kind ≤ 6 := by omega
      have h77 : ¬ kind = 7 := by omega
      by_cases h2 : kind = 2 <;> by_cases h3 : kind = 3 <;> by_cases h4 : kind = 4 <;> simp only [h7, h6, h2, h3, h4, h77, ea, eb, if_true, if_false, or_true, or_false, decide_eq_true_eq] <;> first | (exfalso; omega) | skip
      all_goals by_cases ha : a = 0 <;> by_cases hb' : b = 0 <;> simp only [ha, hb', if_true, if_false, decide_true, decide_false] <;> cases n1 <;> cases n2 <;> cases n3 <;> cases n4 <;> cases n5 <;> cases n6 <;> first | rfl | simp
theorem spec_EntOk_eq (q kind : Int) (name tt : ByteArray) (a b : Int) (hn : name.size ≤ maxLen) (ht : tt.size ≤ maxLen) : F_spec_EntOk (q, kind, name, tt, a, b) = some (entOk q kind name tt a b) := by
  unfold F_spec_EntOk entOk
  simp only [Bool.cond_eq_ite, l1In_eq, spec_OpOk_eq _ _ _ _ _ hn ht, Option.bind_some]
  cases inR q 1 60000 <;> simp
theorem impl_EntOk_eq (q kind : Int) (name tt : ByteArray) (a b : Int) (hn : name.size ≤ maxLen) (ht : tt.size ≤ maxLen) : F_impl_EntOk (q, kind, name, tt, a, b) = some (entOk q kind name tt a b) := by
  unfold F_impl_EntOk entOk
  simp only [Bool.cond_eq_ite, within_eq, impl_OpOk_eq _ _ _ _ _ hn ht, Option.bind_some]
  cases inR q 1 60000 <;> simp
end Go.Proofs.Ytmanmgafjbnakaa.Pl

/- The checksum, copies and comparisons of bytes. No condition. -/
namespace Go.Proofs.Ytmanmgafjbnakaa.Pl
open Go.Proofs.Ytmanmgafjbnakaa.R Go.Proofs.Ytmanmgafjbnakaa.XV
set_option linter.unusedVariables false
set_option linter.unusedSimpArgs false

theorem rd_by (l : List Int) (i : Int) : rd_u8 l i = by_ l i := rfl
theorem drop_by (l : List Int) (i : Int) (h0 : 0 ≤ i) (h : i < l.length) : l.drop i.toNat = by_ l i :: l.drop (i.toNat + 1) := by
  have hn : i.toNat < l.length := by omega
  rw [List.drop_eq_getElem_cons hn]
  unfold by_
  rw [List.getD_eq_getElem?_getD, List.getElem?_eq_getElem hn]
  rfl
theorem fdiv2 (x : Int) : Int.fdiv x (2 ^ (min (Int.toNat (1 : Int)) (Go.IntKind.bits .i64))) = x / 2 := by
  show Int.fdiv x 2 = x / 2
  rw [Int.fdiv_eq_ediv_of_nonneg _ (by omega)]
theorem spec_crc_inner {R : Type} (l : List Int) (i : Int) (k : List Int × Int × Int → Option R) : ∀ x : Int, L_spec_Crc_7 k (l, x, i, 0) = k (l, crcBits 8 x, i) := by
  intro x
  unfold L_spec_Crc_7
  have key := loop_fuel (step := S_spec_Crc_7 k) (fun t : List Int × Int × Int × Int => 8 - t.2.2.2.toNat) (fun t => t.1 = l ∧ t.2.2.1 = i ∧ 0 ≤ t.2.2.2 ∧ t.2.2.2 ≤ 8) (fun t => k (l, crcBits (8 - t.2.2.2.toNat) t.2.1, i)) ?_ (l, x, i, 0) ⟨rfl, rfl, by simp, by simp⟩ (by simp)
  · simpa using key
  · rintro again ⟨l', x, i', j⟩ ⟨rfl, rfl, h0, h1⟩ hag
    simp only at h0 h1 ⊢
    unfold S_spec_Crc_7
    simp only [Bool.cond_eq_ite, decide_eq_true_eq, bi, and1, fdiv2]
    by_cases hj : j < 8
    · have hw : Go.IntKind.wrap .i64 (j + 1) = j + 1 := w64 (by omega) (by omega)
      obtain ⟨d, hd⟩ : ∃ d, 8 - j.toNat = d + 1 := ⟨7 - j.toNat, by omega⟩
      have hd' : 8 - (j + 1).toNat = d := by omega
      rw [if_pos hj, hw, hd, crcBits]
      unfold crcBit
      by_cases hx : x % 2 = 1
      · rw [if_pos hx, if_pos hx]
        have := hag (l', bits .xor .i64 (x / 2) 2197175160, i', j + 1) ⟨rfl, rfl, by simp only; omega, by simp only; omega⟩ (by simp only; omega)
        rw [this]
        simp only [hd']
      · rw [if_neg hx, if_neg hx]
        have := hag (l', x / 2, i', j + 1) ⟨rfl, rfl, by simp only; omega, by simp only; omega⟩ (by simp only; omega)
        rw [this]
        simp only [hd']
    · have : j = 8 := by omega
      subst this
      simp [crcBits]
theorem w64_by {l : List Int} (h : isBytes l) (i : Int) : Go.IntKind.wrap .i64 (by_ l i) = by_ l i := by
  have := by_range h i
  exact w64 (by omega) (by omega)
theorem spec_Crc_eq (l : List Int) (hb : isBytes l) (hl : l.length ≤ 1099511627776) : F_spec_Crc l = some (crc l) := by
  unfold F_spec_Crc L_spec_Crc_3
  rw [loop_fuel (fun t : List Int × Int × Int => t.1.length - t.2.2.toNat) (fun t => t.1 = l ∧ 0 ≤ t.2.2 ∧ t.2.2 ≤ l.length) (fun t => some (bits .xor .i64 ((l.drop t.2.2.toNat).foldl crcStep t.2.1) 4294967295)) ?_ (l, 4294967295, 0) ⟨rfl, by simp, by simp⟩ (by simp; omega)]
  · rfl
  · rintro again ⟨l', x, i⟩ ⟨rfl, h0, h1⟩ hag
    simp only at h0 h1 hl hb ⊢
    unfold S_spec_Crc_3
    simp only [Bool.cond_eq_ite, decide_eq_true_eq, rd_by, w64_by hb]
    by_cases hi : i < (l'.length : Int)
    · have hw : Go.IntKind.wrap .i64 (i + 1) = i + 1 := w64 (by omega) (by omega)
      rw [if_pos hi, if_pos h0, if_pos hi, spec_crc_inner]
      simp only [hw]
      rw [hag (l', crcBits 8 (bits .xor .i64 x (by_ l' i)), i + 1) ⟨rfl, by simp only; omega, by simp only; omega⟩ (by simp only; omega), drop_by l' i h0 hi]
      have e1 : (i + 1).toNat = i.toNat + 1 := by omega
      simp only [e1, List.foldl_cons, crcStep]
    · rw [if_neg hi, List.drop_of_length_le (by omega)]
      rfl
theorem tdiv2 (x : Int) (h : 0 ≤ x) : Int.tdiv x 2 = x / 2 := Int.tdiv_eq_ediv_of_nonneg h
theorem tmod2 (x : Int) (h : 0 ≤ x) : Int.tmod x 2 = x % 2 := Int.tmod_eq_emod_of_nonneg h
theorem impl_crc_inner {R : Type} (l : List Int) (n i : Int) (k : Int × List Int × Int × Int → Option R) : ∀ x : Int, 0 ≤ x → x < 4294967296 → L_impl_Crc_7 k (x, l, n, i, 0) = k (crcBits 8 x, l, n, i) := by
  intro x hx0 hx1
  unfold L_impl_Crc_7
  have key := loop_fuel (step := S_impl_Crc_7 k) (fun t : Int × List Int × Int × Int × Int => 8 - t.2.2.2.2.toNat) (fun t => t.2.1 = l ∧ t.2.2.1 = n ∧ t.2.2.2.1 = i ∧ 0 ≤ t.2.2.2.2 ∧ t.2.2.2.2 ≤ 8 ∧ 0 ≤ t.1 ∧ t.1 < 4294967296) (fun t => k (crcBits (8 - t.2.2.2.2.toNat) t.1, l, n, i)) ?_ (x, l, n, i, 0) ⟨rfl, rfl, rfl, by simp, by simp, hx0, hx1⟩ (by simp)
  · simpa using key
  · rintro again ⟨x, l', n', i', j⟩ ⟨rfl, rfl, rfl, h0, h1, hx0, hx1⟩ hag
    simp only at h0 h1 hx0 hx1 ⊢
    unfold S_impl_Crc_7
    simp only [Bool.cond_eq_ite, decide_eq_true_eq, bi, tmod2 x hx0, tdiv2 x hx0, w64 (n := x / 2) (by omega) (by omega)]
    by_cases hj : j < 8
    · have hw : Go.IntKind.wrap .i64 (j + 1) = j + 1 := w64 (by omega) (by omega)
      obtain ⟨d, hd⟩ : ∃ d, 8 - j.toNat = d + 1 := ⟨7 - j.toNat, by omega⟩
      have hd' : 8 - (j + 1).toNat = d := by omega
      have hr := crcBit_range x hx0 hx1
      rw [if_pos hj, hw, hd, crcBits]
      unfold crcBit at hr ⊢
      by_cases hx : x % 2 = 1
      · rw [if_pos hx] at hr ⊢
        rw [if_pos hx]
        have := hag (bits .xor .i64 (x / 2) 2197175160, l', n', i', j + 1) ⟨rfl, rfl, rfl, by simp only; omega, by simp only; omega, hr.1, hr.2⟩ (by simp only; omega)
        rw [this]
        simp only [hd']
      · rw [if_neg hx] at hr ⊢
        rw [if_neg hx]
        have := hag (x / 2, l', n', i', j + 1) ⟨rfl, rfl, rfl, by simp only; omega, by simp only; omega, hr.1, hr.2⟩ (by simp only; omega)
        rw [this]
        simp only [hd']
    · have : j = 8 := by omega
      subst this
      simp [crcBits]
theorem impl_Crc_eq (l : List Int) (hb : isBytes l) (hl : l.length ≤ 1099511627776) : F_impl_Crc l = some (crc l) := by
  unfold F_impl_Crc L_impl_Crc_3
  rw [loop_fuel (fun t : Int × List Int × Int × Int => t.2.1.length - t.2.2.2.toNat) (fun t => t.2.1 = l ∧ t.2.2.1 = l.length ∧ 0 ≤ t.2.2.2 ∧ t.2.2.2 ≤ l.length ∧ 0 ≤ t.1 ∧ t.1 < 4294967296) (fun t => some (bits .xor .i64 ((l.drop t.2.2.2.toNat).foldl crcStep t.1) 4294967295)) ?_ (4294967295, l, l.length, 0) ⟨rfl, rfl, by simp, by simp, by simp, by simp⟩ (by simp; omega)]
  · rfl
  · rintro again ⟨x, l', n, i⟩ ⟨rfl, hn, h0, h1, hx0, hx1⟩ hag
    simp only at hn h0 h1 hx0 hx1 hl hb ⊢
    subst hn
    unfold S_impl_Crc_3
    simp only [Bool.cond_eq_ite, decide_eq_true_eq, rd_by, w64_by hb]
    by_cases hi : i < (l'.length : Int)
    · have hw : Go.IntKind.wrap .i64 (i + 1) = i + 1 := w64 (by omega) (by omega)
      have hbr := by_range hb i
      have hxr := xor_range x (by_ l' i) hx0 hx1 hbr.1 (by omega)
      have hsr := crcStep_range x (by_ l' i) hx0 hx1 hbr.1 hbr.2
      rw [if_pos hi, if_pos h0, if_pos hi, impl_crc_inner _ _ _ _ _ hxr.1 hxr.2]
      simp only [hw]
      rw [hag (crcBits 8 (bits .xor .i64 x (by_ l' i)), l', l'.length, i + 1) ⟨rfl, rfl, by simp only; omega, by simp only; omega, hsr.1, hsr.2⟩ (by simp only; omega), drop_by l' i h0 hi]
      have e1 : (i + 1).toNat = i.toNat + 1 := by omega
      simp only [e1, List.foldl_cons, crcStep]
    · rw [if_neg hi, List.drop_of_length_le (by omega)]
      rfl

/-! ### Copies -/
end Go.Proofs.Ytmanmgafjbnakaa.Pl

/- Words out of bytes. No condition. -/
namespace Go.Proofs.Ytmanmgafjbnakaa.Pl
open Go.Proofs.Ytmanmgafjbnakaa.R Go.Proofs.Ytmanmgafjbnakaa.XV
set_option linter.unusedVariables false
set_option linter.unusedSimpArgs false

def w2 (l : List Int) (i : Int) : Int := by_ l i * 256 + by_ l (i + 1)
def getW (l : List Int) (i : Int) : Int × Int × Bool := if 0 ≤ i ∧ i + 2 ≤ l.length then (w2 l i, i + 2, true) else (0, 0, false)
theorem w2_range {l : List Int} (h : isBytes l) (i : Int) : 0 ≤ w2 l i ∧ w2 l i ≤ 65535 := by
  have h1 := by_range h i
  have h2 := by_range h (i + 1)
  unfold w2
  omega
theorem join8 (a b : Int) (h0 : 0 ≤ a) (h1 : a < 256) (hb0 : 0 ≤ b) (hb1 : b < 256) : bits .or .i64 (Go.IntKind.wrap .i64 (a * 2 ^ (min (Int.toNat (8 : Int)) (Go.IntKind.bits .i64)))) b = a * 256 + b := by
  show bits .or .i64 (Go.IntKind.wrap .i64 (a * 256)) b = a * 256 + b
  rw [w64 (by omega) (by omega)]
  exact or_join 8 (by omega) a b h0 (by show a * 256 < _; omega) hb0 hb1
theorem spec_GetW_eq (l : List Int) (i : Int) (hb : isBytes l) (hl : l.length ≤ 1099511627776) (h0 : -1099511627776 ≤ i) (h1 : i ≤ 4398046511104) : F_spec_GetW (l, i) = some (getW l i) := by
  unfold F_spec_GetW getW
  simp only [l1In_eq, Option.bind_some, Bool.cond_eq_ite, rd_by, w64_by hb]
  rw [w64 (n := (l.length : Int) - 2) (by omega) (by omega), w64 (n := i + 1) (by omega) (by omega), w64 (n := i + 2) (by omega) (by omega)]
  by_cases h : 0 ≤ i ∧ i + 2 ≤ l.length
  · have hin : inR i 0 ((l.length : Int) - 2) = true := inR_iff.2 ⟨h.1, by omega⟩
    have r1 := by_range hb i
    have r2 := by_range hb (i + 1)
    rw [hin, if_pos h, if_neg (by simp), if_pos h.1, if_pos (by omega), if_pos (by omega), if_pos (by omega), join8 _ _ r1.1 r1.2 r2.1 r2.2]
    rfl
  · have hin : inR i 0 ((l.length : Int) - 2) = false := by
      cases hc : inR i 0 ((l.length : Int) - 2) with
      | false => rfl
      | true =>
        have := inR_iff.1 hc
        exact absurd ⟨this.1, by omega⟩ h
    rw [hin, if_neg h]
    rfl
theorem impl_GetW_eq (l : List Int) (i : Int) (hb : isBytes l) (hl : l.length ≤ 1099511627776) (h0 : -1099511627776 ≤ i) (h1 : i ≤ 4398046511104) : F_impl_GetW (l, i) = some (getW l i) := by
  unfold F_impl_GetW getW
  simp only [Option.bind_some, Bool.cond_eq_ite, rd_by, w64_by hb, decide_eq_true_eq]
  rw [w64 (n := (l.length : Int) - 2) (by omega) (by omega), w64 (n := i + 1) (by omega) (by omega), w64 (n := i + 2) (by omega) (by omega)]
  by_cases h : 0 ≤ i ∧ i + 2 ≤ l.length
  · have r1 := by_range hb i
    have r2 := by_range hb (i + 1)
    rw [if_pos h, if_neg (by omega), Option.bind_some, if_neg (by simp; omega), if_pos h.1, if_pos (by omega), if_pos (by omega), if_pos (by omega), join8 _ _ r1.1 r1.2 r2.1 r2.2]
    rfl
  · rw [if_neg h]
    by_cases h2 : i < 0
    · rw [if_pos h2, Option.bind_some, if_pos rfl]
    · rw [if_neg h2, Option.bind_some, if_pos (by simp; omega)]
/-! ### The reader -/
theorem one_eq (l : List Int) (i : Int) (bad : Bool) (hb : isBytes l) (hl : l.length ≤ 1099511627776) (h0 : 0 ≤ i) (h1 : i ≤ 2199023255552) : F_impl_reader_one (l, i, bad) = some (if bad = false ∧ i < l.length then (by_ l i, l, i + 1, false) else (0, l, i, true)) := by
  unfold F_impl_reader_one
  simp only [Bool.cond_eq_ite, decide_eq_true_eq, rd_by, w64_by hb]
  rw [w64 (n := i + 1) (by omega) (by omega), show i + 1 - 1 = i by omega, w64 (n := i) (by omega) (by omega)]
  cases bad with
  | true => simp
  | false =>
    by_cases h : i < l.length
    · simp [h, h0, show ¬ i < 0 by omega, show ¬ (l.length : Int) ≤ i by omega, w64_by hb]
    · simp [h, show ¬ i < 0 by omega, show (l.length : Int) ≤ i by omega]
theorem word_eq (l : List Int) (i : Int) (bad : Bool) (hb : isBytes l) (hl : l.length ≤ 1099511627776) (h0 : 0 ≤ i) (h1 : i ≤ 2199023255552) : F_impl_reader_word (l, i, bad) = some (if bad = false ∧ i + 2 ≤ l.length then (w2 l i, l, i + 2, false) else (0, l, i, true)) := by
  unfold F_impl_reader_word
  simp only [impl_GetW_eq l i hb hl (by omega) (by omega), Option.bind_some, Bool.cond_eq_ite]
  cases bad with
  | true => simp
  | false =>
    by_cases h : i + 2 ≤ l.length
    · have eW : getW l i = (w2 l i, i + 2, true) := if_pos ⟨h0, h⟩
      rw [eW]
      simp [h]
    · have eW : getW l i = (0, 0, false) := if_neg (by rintro ⟨_, h2⟩; exact h h2)
      rw [eW]
      simp [h]
theorem done_eq (l : List Int) (i : Int) (bad : Bool) : F_impl_reader_done (l, i, bad) = some (!bad && (i == (l.length : Int)), l, i, bad) := by
  unfold F_impl_reader_done
  cases bad <;> simp
theorem word_bad (l : List Int) (a : Int) (hb : isBytes l) (hl : l.length ≤ 1099511627776) (h0 : 0 ≤ a) (h1 : a ≤ 2199023255552) : F_impl_reader_word (l, a, true) = some (0, l, a, true) := by
  rw [word_eq l a true hb hl h0 h1]
  simp
theorem one_bad (l : List Int) (a : Int) (hb : isBytes l) (hl : l.length ≤ 1099511627776) (h0 : 0 ≤ a) (h1 : a ≤ 2199023255552) : F_impl_reader_one (l, a, true) = some (0, l, a, true) := by
  rw [one_eq l a true hb hl h0 h1]
  simp
end Go.Proofs.Ytmanmgafjbnakaa.Pl

/- Texts out of bytes. No condition. -/
namespace Go.Proofs.Ytmanmgafjbnakaa.Pl
open Go.Proofs.Ytmanmgafjbnakaa.R Go.Proofs.Ytmanmgafjbnakaa.XV
set_option linter.unusedVariables false
set_option linter.unusedSimpArgs false

def noB : ByteArray := ⟨#[]⟩
def getT (l : List Int) (i : Int) : ByteArray × Int × Bool := if 0 ≤ i ∧ i + 2 ≤ l.length ∧ w2 l i ≤ 60 ∧ i + 2 + w2 l i ≤ l.length then (textOf ((l.take (i + 2 + w2 l i).toNat).drop (i + 2).toNat), i + 2 + w2 l i, true) else (noB, 0, false)
theorem getT_size (l : List Int) (i : Int) (hb : isBytes l) : (getT l i).1.size ≤ 60 := by
  unfold getT
  split
  · rename_i h
    have := w2_range hb i
    show (textOf _).data.size ≤ 60
    unfold textOf
    simp
    omega
  · show noB.data.size ≤ 60
    simp [noB]
theorem getT_next (l : List Int) (i : Int) (hb : isBytes l) : 0 ≤ (getT l i).2.1 ∧ (getT l i).2.1 ≤ l.length := by
  unfold getT
  split
  · rename_i h
    have := w2_range hb i
    simp only
    omega
  · simp only
    omega
theorem text_core {F : List Int × Int → Option (ByteArray × Int × Bool)} (l : List Int) (i : Int) (hb : isBytes l) (hl : l.length ≤ 1099511627776) (h0 : -1099511627776 ≤ i) (h1 : i ≤ 4398046511104)
    (hF : F (l, i) = Option.bind (some (getW l i)) fun r1 => Option.bind (bif (!r1.2.2) then some true else some (decide (r1.1 > (60 : Int)))) fun u2 => Option.bind (bif u2 then some true else some (decide (r1.1 > (Go.IntKind.wrap .i64 (((List.length l : Nat) : Int) - r1.2.1))))) fun u3 => bif u3 then some ({ data := #[] }, (0 : Int), false) else if (0 : Int) ≤ r1.2.1 then if r1.2.1 ≤ (Go.IntKind.wrap .i64 (r1.2.1 + r1.1)) then if (Go.IntKind.wrap .i64 (r1.2.1 + r1.1)) ≤ ((List.length l : Nat) : Int) then some ((textOf (List.drop (Int.toNat r1.2.1) (List.take (Int.toNat (Go.IntKind.wrap .i64 (r1.2.1 + r1.1))) l))), (Go.IntKind.wrap .i64 (r1.2.1 + r1.1)), true) else none else none else none) :
    F (l, i) = some (getT l i) := by
  rw [hF, Option.bind_some]
  have hr := w2_range hb i
  by_cases h : 0 ≤ i ∧ i + 2 ≤ l.length
  · have eW : getW l i = (w2 l i, i + 2, true) := if_pos h
    rw [eW]
    simp only [Bool.cond_eq_ite, decide_eq_true_eq]
    rw [w64 (n := (l.length : Int) - (i + 2)) (by omega) (by omega), w64 (n := i + 2 + w2 l i) (by omega) (by omega), if_neg (by simp), Option.bind_some]
    by_cases h60 : w2 l i ≤ 60
    · rw [if_neg (by simp; omega), Option.bind_some]
      by_cases hf : i + 2 + w2 l i ≤ l.length
      · have eT : getT l i = (textOf ((l.take (i + 2 + w2 l i).toNat).drop (i + 2).toNat), i + 2 + w2 l i, true) := if_pos ⟨h.1, h.2, h60, hf⟩
        rw [if_neg (by simp; omega), if_pos (by omega), if_pos (by omega), if_pos hf, eT]
      · have eT : getT l i = (noB, 0, false) := if_neg (by rintro ⟨_, _, _, h4⟩; exact hf h4)
        rw [if_pos (by simp; omega), eT]
        rfl
    · have eT : getT l i = (noB, 0, false) := if_neg (by rintro ⟨_, _, h4, _⟩; exact h60 h4)
      rw [if_pos (by simp; omega), Option.bind_some, eT]
      rfl
  · have eW : getW l i = (0, 0, false) := if_neg h
    have eT : getT l i = (noB, 0, false) := if_neg (by rintro ⟨h2, h3, _⟩; exact h ⟨h2, h3⟩)
    rw [eW, eT]
    rfl
theorem spec_GetText_eq (l : List Int) (i : Int) (hb : isBytes l) (hl : l.length ≤ 1099511627776) (h0 : -1099511627776 ≤ i) (h1 : i ≤ 4398046511104) : F_spec_GetText (l, i) = some (getT l i) :=
  text_core (F := F_spec_GetText) l i hb hl h0 h1 (by unfold F_spec_GetText; rw [spec_GetW_eq l i hb hl h0 h1])
theorem impl_GetText_eq (l : List Int) (i : Int) (hb : isBytes l) (hl : l.length ≤ 1099511627776) (h0 : -1099511627776 ≤ i) (h1 : i ≤ 4398046511104) : F_impl_GetText (l, i) = some (getT l i) :=
  text_core (F := F_impl_GetText) l i hb hl h0 h1 (by unfold F_impl_GetText; rw [impl_GetW_eq l i hb hl h0 h1])

theorem text_eq (l : List Int) (i : Int) (bad : Bool) (hb : isBytes l) (hl : l.length ≤ 1099511627776) (h0 : 0 ≤ i) (h1 : i ≤ 2199023255552) : F_impl_reader_text (l, i, bad) = some (if bad = false ∧ (getT l i).2.2 = true then ((getT l i).1, l, (getT l i).2.1, false) else (noB, l, i, true)) := by
  unfold F_impl_reader_text
  simp only [impl_GetText_eq l i hb hl (by omega) (by omega), Option.bind_some, Bool.cond_eq_ite]
  cases bad with
  | true =>
    simp
    rfl
  | false =>
    cases h : (getT l i).2.2 with
    | true => simp [h]
    | false =>
      simp [h]
      rfl
end Go.Proofs.Ytmanmgafjbnakaa.Pl

/- Four bytes. No condition. -/
namespace Go.Proofs.Ytmanmgafjbnakaa.Pl
open Go.Proofs.Ytmanmgafjbnakaa.R Go.Proofs.Ytmanmgafjbnakaa.XV
set_option linter.unusedVariables false
set_option linter.unusedSimpArgs false

def get4 (l : List Int) (i : Int) : Int := by_ l i * 16777216 + by_ l (i + 1) * 65536 + by_ l (i + 2) * 256 + by_ l (i + 3)
theorem sh8 : (2 : Int) ^ (min (Int.toNat (8 : Int)) (Go.IntKind.bits .i64)) = 256 := by decide
theorem sh16 : (2 : Int) ^ (min (Int.toNat (16 : Int)) (Go.IntKind.bits .i64)) = 65536 := by decide
theorem sh24 : (2 : Int) ^ (min (Int.toNat (24 : Int)) (Go.IntKind.bits .i64)) = 16777216 := by decide
theorem or8 (a b : Int) (h0 : 0 ≤ a) (h1 : a < 4294967296) (hb0 : 0 ≤ b) (hb1 : b < 256) : bits .or .i64 (a * 256) b = a * 256 + b := or_join 8 (by omega) a b h0 (by show a * 256 < _; omega) hb0 hb1
theorem or16 (a b : Int) (h0 : 0 ≤ a) (h1 : a < 4294967296) (hb0 : 0 ≤ b) (hb1 : b < 65536) : bits .or .i64 (a * 65536) b = a * 65536 + b := or_join 16 (by omega) a b h0 (by show a * 65536 < _; omega) hb0 hb1
theorem or24 (a b : Int) (h0 : 0 ≤ a) (h1 : a < 4294967296) (hb0 : 0 ≤ b) (hb1 : b < 16777216) : bits .or .i64 (a * 16777216) b = a * 16777216 + b := or_join 24 (by omega) a b h0 (by show a * 16777216 < _; omega) hb0 hb1
theorem l17Get_eq (l : List Int) (i : Int) (hb : isBytes l) (hl : l.length ≤ 1099511627776) (h0 : 0 ≤ i) (h1 : i + 4 ≤ l.length) : F_spec_l17Get (l, i) = some (get4 l i) := by
  have r0 := by_range hb i
  have r1 := by_range hb (i + 1)
  have r2 := by_range hb (i + 2)
  have r3 := by_range hb (i + 3)
  unfold F_spec_l17Get get4
  simp only [rd_by, w64_by hb]
  rw [w64 (n := i + 1) (by omega) (by omega), w64 (n := i + 2) (by omega) (by omega), w64 (n := i + 3) (by omega) (by omega), if_pos h0, if_pos (by omega), if_pos (by omega), if_pos (by omega), if_pos (by omega), if_pos (by omega), if_pos (by omega), if_pos (by omega), sh8, sh16, sh24,
    w64 (n := by_ l i * 16777216) (by omega) (by omega), w64 (n := by_ l (i + 1) * 65536) (by omega) (by omega), w64 (n := by_ l (i + 2) * 256) (by omega) (by omega)]
  rw [or24 _ _ r0.1 (by omega) (by omega) (by omega), show by_ l i * 16777216 + by_ l (i + 1) * 65536 = (by_ l i * 256 + by_ l (i + 1)) * 65536 by omega, or16 _ _ (by omega) (by omega) (by omega) (by omega),
    show (by_ l i * 256 + by_ l (i + 1)) * 65536 + by_ l (i + 2) * 256 = ((by_ l i * 256 + by_ l (i + 1)) * 256 + by_ l (i + 2)) * 256 by omega, or8 _ _ (by omega) (by omega) r3.1 r3.2]
theorem four_eq (l : List Int) (i : Int) (hb : isBytes l) (hl : l.length ≤ 1099511627776) (h0 : 0 ≤ i) (h1 : i + 4 ≤ l.length) : F_impl_reader_four (l, i, false) = some (get4 l i, l, i + 4, false) := by
  have ra := w2_range hb i
  have rb := w2_range hb (i + 2)
  unfold F_impl_reader_four
  rw [word_eq l i false hb hl h0 (by omega), if_pos ⟨rfl, by omega⟩]
  simp only [Option.bind_some]
  rw [word_eq l (i + 2) false hb hl (by omega) (by omega), if_pos ⟨rfl, by omega⟩]
  simp only [Option.bind_some]
  rw [sh16, w64 (n := w2 l i * 65536) (by omega) (by omega), or16 _ _ ra.1 (by omega) rb.1 (by omega), show i + 2 + 2 = i + 4 by omega]
  have : w2 l i * 65536 + w2 l (i + 2) = get4 l i := by
    unfold w2 get4
    rw [show i + 2 + 1 = i + 3 by omega]
    omega
  rw [this]
theorem four_bad (l : List Int) (i : Int) (bad : Bool) (hb : isBytes l) (hl : l.length ≤ 1099511627776) (h0 : 0 ≤ i) (h2 : i ≤ 1099511627777) (h1 : bad = false → (l.length : Int) < i + 4) : ∃ v a, F_impl_reader_four (l, i, bad) = some (v, l, a, true) := by
  have hbad : ∀ a : Int, 0 ≤ a → a ≤ 2199023255552 → F_impl_reader_word (l, a, true) = some (0, l, a, true) := fun a ha hb' => word_bad l a hb hl ha hb'
  unfold F_impl_reader_four
  cases bad with
  | true =>
    rw [hbad i h0 (by omega)]
    simp only [Option.bind_some]
    rw [hbad i h0 (by omega)]
    exact ⟨_, _, rfl⟩
  | false =>
    rw [word_eq l i false hb hl h0 (by omega)]
    have := h1 rfl
    by_cases h : i + 2 ≤ l.length
    · rw [if_pos ⟨rfl, h⟩]
      simp only [Option.bind_some]
      rw [word_eq l (i + 2) false hb hl (by omega) (by omega), if_neg (by rintro ⟨_, h3⟩; omega)]
      exact ⟨_, _, rfl⟩
    · rw [if_neg (by rintro ⟨_, h3⟩; exact h h3)]
      simp only [Option.bind_some]
      rw [hbad i h0 (by omega)]
      exact ⟨_, _, rfl⟩

end Go.Proofs.Ytmanmgafjbnakaa.Pl

