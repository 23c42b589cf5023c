/- Tails, Tails2. No condition. -/
import Derived.Test.YtmanmgafjbnakaaPTailDraw2
/- FnTails: reading a sector, the tail, the law. No condition. -/
namespace Go.Proofs.Ytmanmgafjbnakaa.Pl
open Go.Proofs.Ytmanmgafjbnakaa.R Go.Proofs.Ytmanmgafjbnakaa.XV
set_option linter.unusedVariables false
set_option linter.unusedSimpArgs false

def lastK (n : Int) (c : List E_Wr) (d : List Int) : List Int := c.foldl (fun acc w => if w.1 = n then w.2 else acc) d
theorem lastK_mem (n : Int) : ∀ (c : List E_Wr) (d : List Int) (P : List Int → Prop), (∀ w ∈ c, P w.2) → P d → P (lastK n c d)
  | [], d, P, _, h => h
  | w :: c, d, P, hc, h => by
    unfold lastK
    rw [List.foldl_cons]
    refine lastK_mem n c _ P (fun w hw => hc w (by simp [hw])) ?_
    split
    · exact hc w (by simp)
    · exact h
theorem joined1 (a : List Int) (h : a.length ≤ 2097152) : F_impl_joined [a] = some a := by
  have hF : FUEL = (FUEL - 2) + 1 + 1 := by
    have := FUEL_eq
    omega
  unfold F_impl_joined L_impl_joined_3
  rw [hF]
  have s0 : ∀ again, S_impl_joined_3 (fun x1 => some x1) again ([a], (1 : Int), (0 : Int), ([] : List E_u8)) = again ([a], 1, 1, a) := by
    intro again
    unfold S_impl_joined_3
    have hw : Go.IntKind.wrap .i64 (0 + 1) = 1 := w64 (by omega) (by omega)
    have hr : rd_s_u8 [a] 0 = a := rfl
    simp only [hw, hr, List.length_nil, List.length_cons, List.nil_append]
    rw [if_pos (by omega), if_pos (by omega), if_pos (by omega)]
    rfl
  have s1 : ∀ again, S_impl_joined_3 (fun x1 => some x1) again ([a], (1 : Int), (1 : Int), a) = some a := by
    intro again
    unfold S_impl_joined_3
    rfl
  rw [show ((List.length [a] : Nat) : Int) = 1 from rfl, iter, s0, iter, s1]
def readK (s : List E_s_u8) (c : List E_Wr) (z : Int) (n : Int) : List Int := if (devK s c z && inR n 0 ((s.length : Int) - 1)) = true then lastK n c (s.getD n.toNat []) else []
theorem readK_bytes (s : List E_s_u8) (c : List E_Wr) (z n : Int) (h : devB s c) : isBytes (readK s c z n) ∧ (readK s c z n).length ≤ 1000 := by
  unfold readK
  split
  · rename_i hc
    simp only [Bool.and_eq_true, inR_iff] at hc
    refine lastK_mem n c _ (fun l => isBytes l ∧ l.length ≤ 1000) h.2.1 (h.1 _ (getD_mem ([] : List Int) s n hc.2.1 (by omega)))
  · exact ⟨fun y hy => by simp at hy, by simp⟩
theorem spec_ReadSec_eq (s : List E_s_u8) (c : List E_Wr) (z : Int) (b : Bool) (n : Int) (h : devB s c) : F_spec_ReadSec (s, c, z, b, n) = some (readK s c z n) := by
  have hr := readK_bytes s c z n h
  obtain ⟨b1, b2, b3, b4⟩ := h
  unfold F_spec_ReadSec
  simp only [l1In_eq]
  rw [spec_DevOk_eq s c z b (by omega) (by omega), w64 (n := (s.length : Int) - 1) (by omega) (by omega)]
  simp only [Option.bind_some]
  cases hd : devK s c z with
  | false =>
    unfold readK
    rw [hd]
    rfl
  | true =>
    simp only [Bool.not_true, cond_false, Option.bind_some]
    cases hin : inR n 0 ((s.length : Int) - 1) with
    | false =>
      unfold readK
      rw [hd, hin]
      rfl
    | true =>
      have hn := inR_iff.1 hin
      have hrk : readK s c z n = lastK n c (rd_s_u8 s n) := by
        unfold readK
        rw [hd, hin]
        rfl
      simp only [Bool.not_true, cond_false]
      rw [if_pos hn.1, if_pos (by omega)]
      unfold L_spec_ReadSec_5
      refine (loop_fuel (step := S_spec_ReadSec_5 _) (fun t : Int × List Int × Int × List E_s_u8 × List E_Wr × Int × Bool => c.length - t.2.2.1.toNat) (fun t => t.1 = n ∧ 0 ≤ t.2.2.1 ∧ t.2.2.1 ≤ c.length ∧ t.2.2.2.2.1 = c ∧ lastK n (c.drop t.2.2.1.toNat) t.2.1 = readK s c z n) (fun t => some (readK s c z n)) ?_ (n, rd_s_u8 s n, 0, s, c, z, b) ⟨rfl, Int.le_refl _, by simp, rfl, by rw [hrk]; rfl⟩ (by simp; omega))
      rintro again ⟨n', d, i, s', c', z', b'⟩ ⟨rfl, i0, i1, rfl, hk⟩ hag
      simp only at i0 i1 hk hr b2 b3 b4 hn
      unfold S_spec_ReadSec_5
      simp only []
      by_cases hi : i < (c'.length : Int)
      · rw [decide_eq_true hi, cond_true, if_pos i0, if_pos hi, w64 (n := i + 1) (by omega) (by omega)]
        rw [drop_getD z_Wr c' i i0 hi] at hk
        unfold lastK at hk
        rw [List.foldl_cons] at hk
        cases he : ((rd_Wr c' i).1 == n') with
        | true =>
          have he' : (c'.getD i.toNat z_Wr).1 = n' := eq_of_beq he
          rw [if_pos he'] at hk
          rw [cond_true, if_pos i0, if_pos hi]
          exact hag _ ⟨rfl, by simp only; omega, by simp only; omega, rfl, hk⟩ (by simp only; omega)
        | false =>
          have he' : ¬ (c'.getD i.toNat z_Wr).1 = n' := fun hh => by
            rw [show ((rd_Wr c' i).1 == n') = true from beq_iff_eq.2 hh] at he
            cases he
          rw [if_neg he'] at hk
          rw [cond_false]
          exact hag _ ⟨rfl, by simp only; omega, by simp only; omega, rfl, hk⟩ (by simp only; omega)
      · rw [decide_eq_false hi, cond_false]
        rw [List.drop_of_length_le (by omega)] at hk
        have hk' : d = readK s c' z n' := hk
        rw [hk']
        simp only [List.length_nil, List.nil_append]
        rw [if_pos (by omega)]
theorem impl_ReadSec_eq (s : List E_s_u8) (c : List E_Wr) (z : Int) (b : Bool) (n : Int) (h : devB s c) : F_impl_ReadSec (s, c, z, b, n) = some (readK s c z n) := by
  have hr := readK_bytes s c z n h
  obtain ⟨b1, b2, b3, b4⟩ := h
  unfold F_impl_ReadSec
  simp only [within_eq]
  rw [impl_DevOk_eq s c z b (by omega) (by omega), w64 (n := (s.length : Int) - 1) (by omega) (by omega)]
  simp only [Option.bind_some]
  cases hd : devK s c z with
  | false =>
    unfold readK
    rw [hd]
    rfl
  | true =>
    simp only [Bool.not_true, cond_false, Option.bind_some]
    cases hin : inR n 0 ((s.length : Int) - 1) with
    | false =>
      unfold readK
      rw [hd, hin]
      rfl
    | true =>
      have hn := inR_iff.1 hin
      have hrk : readK s c z n = lastK n c (rd_s_u8 s n) := by
        unfold readK
        rw [hd, hin]
        rfl
      simp only [Bool.not_true, cond_false]
      rw [w64 (n := (c.length : Int) - 1) (by omega) (by omega)]
      unfold L_impl_ReadSec_4
      refine (loop_fuel (step := S_impl_ReadSec_4 _ _) (fun t : Int × Int × List E_s_u8 × List E_Wr × Int × Bool => (t.2.1 + 1).toNat) (fun t => t.1 = n ∧ -1 ≤ t.2.1 ∧ t.2.1 < c.length ∧ t.2.2.1 = s ∧ t.2.2.2.1 = c ∧ lastK n (c.take (t.2.1 + 1).toNat) (rd_s_u8 s n) = readK s c z n) (fun t => some (readK s c z n)) ?_ (n, (c.length : Int) - 1, s, c, z, b) ⟨rfl, by simp only; omega, by simp only; omega, rfl, rfl, by simp only; rw [List.take_of_length_le (by omega), hrk]⟩ (by simp only; omega))
      rintro again ⟨n', i, s', c', z', b'⟩ ⟨rfl, i0, i1, rfl, rfl, hk⟩ hag
      simp only at i0 i1 hk hr b2 b3 b4 hn
      unfold S_impl_ReadSec_4
      simp only []
      by_cases hi : i ≥ 0
      · rw [decide_eq_true hi, cond_true, if_pos hi, if_pos i1, w64 (n := i - 1) (by omega) (by omega)]
        have htk : c'.take (i + 1).toNat = c'.take i.toNat ++ [c'.getD i.toNat z_Wr] := by
          rw [show (i + 1).toNat = i.toNat + 1 by omega, List.take_succ_eq_append_getElem (by omega), getD_get z_Wr c' i hi i1]
        rw [htk] at hk
        unfold lastK at hk
        rw [List.foldl_append, List.foldl_cons, List.foldl_nil] at hk
        cases he : ((rd_Wr c' i).1 == n') with
        | true =>
          have he' : (c'.getD i.toNat z_Wr).1 = n' := eq_of_beq he
          rw [if_pos he'] at hk
          rw [cond_true, if_pos hi, if_pos i1]
          have hk' : (rd_Wr c' i).2 = readK s' c' z n' := hk
          rw [hk', joined1 _ (by omega)]
          rfl
        | false =>
          have he' : ¬ (c'.getD i.toNat z_Wr).1 = n' := fun hh => by
            rw [show ((rd_Wr c' i).1 == n') = true from beq_iff_eq.2 hh] at he
            cases he
          rw [if_neg he'] at hk
          rw [cond_false]
          exact hag _ ⟨rfl, by simp only; omega, by simp only; omega, rfl, rfl, by simp only; rw [show (i - 1 + 1).toNat = i.toNat by omega]; exact hk⟩ (by simp only; omega)
      · rw [decide_eq_false hi, cond_false]
        have hi' : i = -1 := by omega
        subst hi'
        have hk' : rd_s_u8 s' n' = readK s' c' z n' := hk
        rw [if_pos hn.1, if_pos (by omega), hk', joined1 _ (by omega)]
        rfl
/-! ### The tail -/
noncomputable def entAt (s : List E_s_u8) (c : List E_Wr) (z q i : Int) : Int × Int × ByteArray × ByteArray × Int × Int × Bool := entR (readK s c z (2 + (q + i) % 6))
noncomputable def hitB (s : List E_s_u8) (c : List E_Wr) (z q i : Int) : Bool := (entAt s c z q i).2.2.2.2.2.2 && ((entAt s c z q i).1 == q + i)
noncomputable def entV (s : List E_s_u8) (c : List E_Wr) (z q i : Int) : E_Ent := ((entAt s c z q i).1, (entAt s c z q i).2.1, (entAt s c z q i).2.2.1, (entAt s c z q i).2.2.2.1, (entAt s c z q i).2.2.2.2.1, (entAt s c z q i).2.2.2.2.2.1)
noncomputable def tailK (s : List E_s_u8) (c : List E_Wr) (z q : Int) : Nat → Int → List E_Ent
  | 0, _ => []
  | m + 1, i => if hitB s c z q i = true then entV s c z q i :: tailK s c z q m (i + 1) else []
theorem spec_SlotOf_pos (x : Int) (h0 : 0 ≤ x) (h1 : x ≤ 1000000) : F_spec_SlotOf x = some (2 + x % 6) := by
  unfold F_spec_SlotOf
  rw [decide_eq_false (by omega), cond_false, Int.tmod_eq_emod_of_nonneg h0, w64 (by omega) (by omega)]
theorem impl_SlotOf_pos (x : Int) (h0 : 0 ≤ x) (h1 : x ≤ 1000000) : F_impl_SlotOf x = some (2 + x % 6) := by
  unfold F_impl_SlotOf
  rw [decide_eq_false (by omega), cond_false, Int.tmod_eq_emod_of_nonneg h0, w64 (by omega) (by omega)]
theorem spec_TailOf_eq (s : List E_s_u8) (c : List E_Wr) (z : Int) (b : Bool) (q : Int) (h : devB s c) (q0 : -1 ≤ q) (q1 : q ≤ 60000) : F_spec_TailOf (s, c, z, b, q) = some (if 1 ≤ q then tailK s c z q 6 0 else []) := by
  unfold F_spec_TailOf L_spec_TailOf_3
  refine (loop_fuel (step := S_spec_TailOf_3 _ _) (fun t : Int × Int × List E_s_u8 × List E_Wr × Int × Bool × List E_Ent => (6 - t.2.1).toNat) (fun t => t.1 = q ∧ 0 ≤ t.2.1 ∧ t.2.1 ≤ 6 ∧ t.2.2.1 = s ∧ t.2.2.2.1 = c ∧ t.2.2.2.2.1 = z ∧ t.2.2.2.2.2.1 = b ∧ (t.2.2.2.2.2.2.length : Int) = t.2.1) (fun t => some (t.2.2.2.2.2.2 ++ (if 1 ≤ q then tailK s c z q (6 - t.2.1).toNat t.2.1 else []))) ?_ (q, 0, s, c, z, b, []) ⟨rfl, Int.le_refl _, by simp, rfl, rfl, rfl, rfl, rfl⟩ (by simp)).trans ?_
  · rintro again ⟨q', i, s', c', z', b', l⟩ ⟨rfl, i0, i1, rfl, rfl, rfl, rfl, hl⟩ hag
    simp only at i0 i1 hl
    unfold S_spec_TailOf_3
    simp only [l1In_eq]
    by_cases hi : i < 6
    · rw [decide_eq_true hi, cond_true]
      simp only [Option.bind_some]
      by_cases hq : 1 ≤ q'
      · rw [show inR q' 1 60000 = true from inR_iff.2 ⟨hq, q1⟩, cond_true, w64 (n := q' + i) (by omega) (by omega), spec_SlotOf_pos _ (by omega) (by omega)]
        simp only [Option.bind_some]
        have hr := readK_bytes s' c' z' (2 + (q' + i) % 6) h
        rw [spec_ReadSec_eq s' c' z' b' _ h]
        simp only [Option.bind_some]
        rw [spec_GetEnt_eq _ hr.1 (by omega)]
        simp only [Option.bind_some, if_pos hq]
        rw [show (6 - i).toNat = (6 - (i + 1)).toNat + 1 by omega, tailK]
        show Option.bind (bif !(entAt s' c' z' q' i).2.2.2.2.2.2 then some true else some ((entAt s' c' z' q' i).1 != q' + i)) _ = _
        cases hb1 : (entAt s' c' z' q' i).2.2.2.2.2.2 with
        | false =>
          have : hitB s' c' z' q' i = false := by unfold hitB; rw [hb1]; rfl
          rw [this]
          simp
        | true =>
          cases hb2 : ((entAt s' c' z' q' i).1 == q' + i) with
          | false =>
            have : hitB s' c' z' q' i = false := by unfold hitB; rw [hb1, hb2]; rfl
            rw [this]
            simp [bne, hb2]
          | true =>
            have : hitB s' c' z' q' i = true := by unfold hitB; rw [hb1, hb2]; rfl
            rw [this]
            simp only [bne, hb2, Bool.not_true, cond_false, Option.bind_some, List.length_cons, List.length_nil, if_true]
            rw [if_pos (by omega), w64 (n := i + 1) (by omega) (by omega)]
            refine (hag (q', i + 1, s', c', z', b', l ++ [entV s' c' z' q' i]) ⟨rfl, by simp only; omega, by simp only; omega, rfl, rfl, rfl, rfl, by simp only [List.length_append, List.length_cons, List.length_nil]; omega⟩ (by simp only; omega)).trans ?_
            simp only [if_pos hq, List.append_assoc]
            rfl
      · rw [show inR q' 1 60000 = false by cases hh : inR q' 1 60000 with | false => rfl | true => exact absurd (inR_iff.1 hh).1 hq, cond_false, if_neg hq, List.append_nil]
    · rw [decide_eq_false hi, cond_false]
      simp only [Option.bind_some, cond_false]
      rw [show (6 - i).toNat = 0 by omega]
      simp [tailK]
  · simp
theorem impl_TailOf_eq (s : List E_s_u8) (c : List E_Wr) (z : Int) (b : Bool) (q : Int) (h : devB s c) (q0 : -1 ≤ q) (q1 : q ≤ 60000) : F_impl_TailOf (s, c, z, b, q) = some (if 1 ≤ q then tailK s c z q 6 0 else []) := by
  unfold F_impl_TailOf
  simp only [within_eq, Option.bind_some]
  by_cases hq : 1 ≤ q
  · rw [show inR q 1 60000 = true from inR_iff.2 ⟨hq, q1⟩, Bool.not_true, cond_false, if_pos hq]
    unfold L_impl_TailOf_4
    refine (loop_fuel (step := S_impl_TailOf_4 _) (fun t : Int × List E_s_u8 × List E_Wr × Int × Bool × List E_Ent => 6 - t.2.2.2.2.2.length) (fun t => t.1 = q ∧ t.2.1 = s ∧ t.2.2.1 = c ∧ t.2.2.2.1 = z ∧ t.2.2.2.2.1 = b ∧ t.2.2.2.2.2.length ≤ 6) (fun t => some (t.2.2.2.2.2 ++ tailK s c z q (6 - t.2.2.2.2.2.length) (t.2.2.2.2.2.length : Int))) ?_ (q, s, c, z, b, []) ⟨rfl, rfl, rfl, rfl, rfl, by simp⟩ (by simp)).trans ?_
    · rintro again ⟨q', s', c', z', b', l⟩ ⟨rfl, rfl, rfl, rfl, rfl, hl⟩ hag
      simp only at hl
      unfold S_impl_TailOf_4
      simp only []
      by_cases hi : (l.length : Int) < 6
      · rw [decide_eq_true hi, cond_true, w64 (n := q' + (l.length : Int)) (by omega) (by omega), impl_SlotOf_pos _ (by omega) (by omega)]
        simp only [Option.bind_some]
        have hr := readK_bytes s' c' z' (2 + (q' + (l.length : Int)) % 6) h
        rw [impl_ReadSec_eq s' c' z' b' _ h]
        simp only [Option.bind_some]
        rw [impl_GetEnt_eq _ hr.1 (by omega)]
        simp only [Option.bind_some]
        rw [show 6 - l.length = (6 - (l.length + 1)) + 1 by omega, tailK]
        show Option.bind (bif !(entAt s' c' z' q' (l.length : Int)).2.2.2.2.2.2 then some true else some ((entAt s' c' z' q' (l.length : Int)).1 != q' + (l.length : Int))) _ = _
        cases hb1 : (entAt s' c' z' q' (l.length : Int)).2.2.2.2.2.2 with
        | false =>
          have : hitB s' c' z' q' (l.length : Int) = false := by unfold hitB; rw [hb1]; rfl
          rw [this]
          simp
        | true =>
          cases hb2 : ((entAt s' c' z' q' (l.length : Int)).1 == q' + (l.length : Int)) with
          | false =>
            have : hitB s' c' z' q' (l.length : Int) = false := by unfold hitB; rw [hb1, hb2]; rfl
            rw [this]
            simp [bne, hb2]
          | true =>
            have : hitB s' c' z' q' (l.length : Int) = true := by unfold hitB; rw [hb1, hb2]; rfl
            rw [this]
            simp only [bne, hb2, Bool.not_true, cond_false, Option.bind_some, List.length_cons, List.length_nil, if_true]
            rw [if_pos (by omega)]
            refine (hag (q', s', c', z', b', l ++ [entV s' c' z' q' (l.length : Int)]) ⟨rfl, rfl, rfl, rfl, rfl, by simp only [List.length_append, List.length_cons, List.length_nil]; omega⟩ (by simp only [List.length_append, List.length_cons, List.length_nil]; omega)).trans ?_
            simp only [List.append_assoc, List.length_append, List.length_cons, List.length_nil]
            rfl
      · rw [decide_eq_false hi, cond_false, show 6 - l.length = 0 by omega]
        simp [tailK]
    · simp
  · rw [show inR q 1 60000 = false by cases hh : inR q 1 60000 with | false => rfl | true => exact absurd (inR_iff.1 hh).1 hq, if_neg hq]
    rfl
end Go.Proofs.Ytmanmgafjbnakaa.Pl

/- FnTails: the law. No condition. -/
namespace Go.Proofs.Ytmanmgafjbnakaa.Pl
open Go.Proofs.Ytmanmgafjbnakaa.R Go.Proofs.Ytmanmgafjbnakaa.XV
set_option linter.unusedVariables false
set_option linter.unusedSimpArgs false

theorem tailK_len (s : List E_s_u8) (c : List E_Wr) (z q : Int) : ∀ (m : Nat) (i : Int), (tailK s c z q m i).length ≤ m
  | 0, i => Nat.le_refl _
  | m + 1, i => by
    rw [tailK]
    split
    · rw [List.length_cons]
      have := tailK_len s c z q m (i + 1)
      omega
    · simp
theorem tailK_get (s : List E_s_u8) (c : List E_Wr) (z q : Int) : ∀ (m : Nat) (i : Int) (j : Nat), j < (tailK s c z q m i).length → (tailK s c z q m i)[j]? = some (entV s c z q (i + j)) ∧ hitB s c z q (i + j) = true
  | 0, i, j, h => by simp [tailK] at h
  | m + 1, i, j, h => by
    rw [tailK] at h ⊢
    by_cases hh : hitB s c z q i = true
    · rw [if_pos hh] at h ⊢
      cases j with
      | zero =>
        rw [List.getElem?_cons_zero, show i + ((0 : Nat) : Int) = i by omega]
        exact ⟨rfl, hh⟩
      | succ j =>
        have := tailK_get s c z q m (i + 1) j (by simpa using h)
        rw [show i + 1 + (j : Int) = i + ((j + 1 : Nat) : Int) by omega] at this
        rw [List.getElem?_cons_succ]
        exact this
    · rw [if_neg hh] at h
      simp at h
theorem tailK_end (s : List E_s_u8) (c : List E_Wr) (z q : Int) : ∀ (m : Nat) (i : Int), (tailK s c z q m i).length < m → hitB s c z q (i + (tailK s c z q m i).length) = false
  | 0, i, h => by simp at h
  | m + 1, i, h => by
    rw [tailK] at h ⊢
    by_cases hh : hitB s c z q i = true
    · rw [if_pos hh] at h ⊢
      have := tailK_end s c z q m (i + 1) (by simpa using h)
      rw [List.length_cons, show i + (((tailK s c z q m (i + 1)).length + 1 : Nat) : Int) = i + 1 + ((tailK s c z q m (i + 1)).length : Int) by omega]
      exact this
    · rw [if_neg hh, List.length_nil, show i + ((0 : Nat) : Int) = i by omega]
      simpa using hh
theorem same_refl (l : List E_Ent) (hl : l.length ≤ 1048576) : F_laws_sameEnts (l, l) = some true := by
  unfold F_laws_sameEnts L_laws_sameEnts_4
  simp only [bne_self_eq_false, cond_false]
  refine eq_loop (fun _ => some true) l (by omega) ?_ ?_
  · intro again i h0 h1
    unfold S_laws_sameEnts_4
    have hw : Go.IntKind.wrap .i64 (i + 1) = i + 1 := w64 (by omega) (by omega)
    simp only [Bool.cond_eq_ite, decide_eq_true_eq, h0, h1, if_true, hw, Option.bind_some, beq_self_eq_true, Bool.and_self, Bool.not_true, Bool.false_eq_true, if_false]
  · intro again i hi
    unfold S_laws_sameEnts_4
    simp only [Bool.cond_eq_ite, decide_eq_true_eq, if_neg hi]
theorem tails_loop {R : Type} (k0 : (Bool × Int × Int × Bool × List E_Ent × List E_s_u8 × List E_Wr) → Option R) (k1 : (Int × Int × Bool × List E_Ent × List E_s_u8 × List E_Wr) → Option R) (s : List E_s_u8) (c : List E_Wr) (z : Int) (b : Bool) (q : Int) (l : List E_Ent) (h : devB s c) (hq0 : 0 ≤ q) (hq1 : q ≤ 60000) (hl6 : l.length ≤ 6)
    (hl : ∀ j : Nat, j < l.length → l[j]? = some (entV s c z q j) ∧ hitB s c z q j = true) : L_laws_FnTails_6 k0 k1 (q, 0, z, b, l, s, c) = k1 (q, z, b, l, s, c) := by
  unfold L_laws_FnTails_6
  refine loop_fuel (step := S_laws_FnTails_6 k0 k1) (fun t : Int × Int × Int × Bool × List E_Ent × List E_s_u8 × List E_Wr => l.length - t.2.1.toNat) (fun t => t.1 = q ∧ 0 ≤ t.2.1 ∧ t.2.1 ≤ l.length ∧ t.2.2 = (z, b, l, s, c)) (fun _ => k1 (q, z, b, l, s, c)) ?_ (q, 0, z, b, l, s, c) ⟨rfl, Int.le_refl _, by simp, rfl⟩ (by simp; omega)
  rintro again ⟨q', i, r⟩ ⟨e1, i0, i1, e2⟩ hag
  simp only at e1 i0 i1 e2
  subst e1 e2
  unfold S_laws_FnTails_6
  simp only []
  by_cases hi : i < (l.length : Int)
  · obtain ⟨g1, g2⟩ := hl i.toNat (by omega)
    rw [Int.toNat_of_nonneg i0] at g1 g2
    have hrd : rd_Ent l i = entV s c z q' i := by
      show l.getD i.toNat z_Ent = _
      rw [List.getD_eq_getElem?_getD, g1]
      rfl
    have hr := readK_bytes s c z (2 + (q' + i) % 6) h
    rw [decide_eq_true hi, cond_true, w64 (n := q' + i) (by omega) (by omega), impl_SlotOf_pos _ (by omega) (by omega)]
    simp only [Option.bind_some]
    rw [impl_ReadSec_eq s c z b _ h]
    simp only [Option.bind_some]
    rw [impl_GetEnt_eq _ hr.1 (by omega)]
    simp only [Option.bind_some]
    rw [hrd]
    have g2' := g2
    unfold hitB at g2'
    simp only [Bool.and_eq_true] at g2'
    have g3 : (entAt s c z q' i).1 = q' + i := eq_of_beq g2'.2
    have k1' : (entR (readK s c z (2 + (q' + i) % 6))).2.2.2.2.2.2 = true := g2'.1
    rw [k1', Bool.not_true, cond_false, if_pos i0, if_pos hi]
    have hsame : (((entR (readK s c z (2 + (q' + i) % 6))).1 == (entV s c z q' i).1) && (((entR (readK s c z (2 + (q' + i) % 6))).2.1 == (entV s c z q' i).2.1) && ((ByteArray.toList (entR (readK s c z (2 + (q' + i) % 6))).2.2.1 == ByteArray.toList ((entV s c z q' i).2.2.1)) && ((ByteArray.toList (entR (readK s c z (2 + (q' + i) % 6))).2.2.2.1 == ByteArray.toList ((entV s c z q' i).2.2.2.1)) && (((entR (readK s c z (2 + (q' + i) % 6))).2.2.2.2.1 == (entV s c z q' i).2.2.2.2.1) && (((entR (readK s c z (2 + (q' + i) % 6))).2.2.2.2.2.1 == (entV s c z q' i).2.2.2.2.2) && true)))))) = true := by
      simp [entV, entAt]
    rw [hsame]
    simp only [Bool.not_true, Option.bind_some, cond_false]
    rw [if_pos i0, if_pos hi, show ((entV s c z q' i).1 != q' + i) = false by rw [show (entV s c z q' i).1 = q' + i from g3]; simp]
    simp only [Option.bind_some, cond_false]
    rw [w64 (n := i + 1) (by omega) (by omega)]
    exact hag (q', i + 1, z, b, l, s, c) ⟨rfl, by simp only; omega, by simp only; omega, rfl⟩ (by simp only; omega)
  · rw [decide_eq_false hi, cond_false]
theorem law_Tails (x : List Int) (hx : isBytes x) : F_laws_FnTails x = some true := by
  unfold F_laws_FnTails F_laws_big
  simp only [Option.bind_some]
  by_cases hbig : (x.length : Int) > 1048576
  · rw [decide_eq_true hbig]
    rfl
  · rw [decide_eq_false hbig, cond_false]
    obtain ⟨s, c, z, b, q, e1, h, q0, q1⟩ := DrawTailOf_ok x (by omega)
    rw [e1]
    simp only [Option.bind_some]
    rw [impl_TailOf_eq s c z b q h q0 q1]
    simp only [Option.bind_some]
    have hS := spec_TailOf_eq s c z b q h q0 q1
    by_cases hq : 1 ≤ q
    · rw [if_pos hq] at hS ⊢
      have hlen := tailK_len s c z q 6 0
      have hget := tailK_get s c z q 6 0
      have hend := tailK_end s c z q 6 0
      generalize hl : tailK s c z q 6 0 = l at hS hlen hget hend
      rw [tails_loop _ _ s c z b q l h (by omega) q1 hlen (fun j hj => by have := hget j hj; rw [Int.zero_add] at this; exact this)]
      have hfin : (Option.bind (F_laws_sameEnts (l, l)) fun r20 => Option.bind (bif r20 then some (decide (((List.length l : Nat) : Int) ≤ (6 : Int))) else some false) fun u21 => some u21) = some true := by
        rw [same_refl l (by omega)]
        simp only [Option.bind_some, cond_true]
        rw [decide_eq_true (by omega)]
      by_cases h6 : (l.length : Int) < 6
      · rw [decide_eq_true h6]
        simp only [cond_true, Option.bind_some]
        rw [decide_eq_true (show q > 0 by omega)]
        simp only [cond_true]
        have he := hend (by omega)
        rw [Int.zero_add] at he
        have hr := readK_bytes s c z (2 + (q + (l.length : Int)) % 6) h
        rw [w64 (n := q + (l.length : Int)) (by omega) (by omega), impl_SlotOf_pos _ (by omega) (by omega)]
        simp only [Option.bind_some]
        rw [impl_ReadSec_eq s c z b _ h]
        simp only [Option.bind_some]
        rw [impl_GetEnt_eq _ hr.1 (by omega)]
        simp only [Option.bind_some]
        have h15 : (bif (entR (readK s c z (2 + (q + (l.length : Int)) % 6))).2.2.2.2.2.2 then some ((entR (readK s c z (2 + (q + (l.length : Int)) % 6))).1 == q + (l.length : Int)) else some false) = some false := by
          have he' : ((entR (readK s c z (2 + (q + (l.length : Int)) % 6))).2.2.2.2.2.2 && ((entR (readK s c z (2 + (q + (l.length : Int)) % 6))).1 == q + (l.length : Int))) = false := he
          cases hb : (entR (readK s c z (2 + (q + (l.length : Int)) % 6))).2.2.2.2.2.2 with
          | false => rfl
          | true =>
            rw [hb, Bool.true_and] at he'
            rw [he']
            rfl
        rw [h15]
        simp only [Option.bind_some, cond_false]
        rw [hS]
        exact hfin
      · rw [decide_eq_false h6]
        simp only [cond_false, Option.bind_some]
        rw [hS]
        exact hfin
    · rw [if_neg hq] at hS ⊢
      have hloop : ∀ (k0 : (Bool × Int × Int × Bool × List E_Ent × List E_s_u8 × List E_Wr) → Option Bool) (k1 : (Int × Int × Bool × List E_Ent × List E_s_u8 × List E_Wr) → Option Bool), L_laws_FnTails_6 k0 k1 (q, 0, z, b, [], s, c) = k1 (q, z, b, [], s, c) := by
        intro k0 k1
        have hF : FUEL = (FUEL - 1) + 1 := by
          have := FUEL_eq
          omega
        unfold L_laws_FnTails_6
        rw [hF, iter]
        rfl
      rw [hloop]
      simp only [List.length_nil]
      rw [decide_eq_true (show ((0 : Nat) : Int) < 6 by omega)]
      simp only [cond_true, Option.bind_some]
      rw [decide_eq_false (show ¬ q > 0 by omega)]
      simp only [cond_false]
      rw [hS]
      simp only [Option.bind_some]
      rw [same_refl [] (by simp)]
      rfl
end Go.Proofs.Ytmanmgafjbnakaa.Pl

