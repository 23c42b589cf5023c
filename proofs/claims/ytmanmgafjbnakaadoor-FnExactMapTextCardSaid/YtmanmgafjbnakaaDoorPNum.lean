/- Decimal numerals, there: what spec.NumText gives. No condition. -/
import Derived.Test.YtmanmgafjbnakaaDoorPLoops
namespace Go.Proofs.YtmanmgafjbnakaaDoor.Pl
open Go.Proofs.YtmanmgafjbnakaaDoor.R Go.Proofs.YtmanmgafjbnakaaDoor.XN
set_option linter.unusedVariables false
set_option linter.unusedSimpArgs false

/-- The digits of u; none for nought. -/
def dz (u : Nat) : List UInt8 := if u = 0 then [] else Lib.decDigits u
theorem dz_step {u : Nat} (h : u ≠ 0) : dz u = dz (u / 10) ++ [UInt8.ofNat (48 + u % 10)] := by
  unfold dz
  rw [if_neg h, Lib.decDigits]
  by_cases h10 : u < 10
  · rw [dif_pos h10, if_pos (by omega), show u % 10 = u by omega]
    rfl
  · rw [dif_neg h10, if_neg (by omega)]
theorem digB (d : Nat) (h : d < 10) : textOf ([(Go.IntKind.wrap .u8 (Go.IntKind.wrap .i64 ((48 : Int) + (d : Int))))] : List E_u8) = ⟨#[UInt8.ofNat (48 + d)]⟩ := by
  have : d = 0 ∨ d = 1 ∨ d = 2 ∨ d = 3 ∨ d = 4 ∨ d = 5 ∨ d = 6 ∨ d = 7 ∨ d = 8 ∨ d = 9 := by omega
  rcases this with rfl | rfl | rfl | rfl | rfl | rfl | rfl | rfl | rfl | rfl <;> rfl
theorem td10 (x : Int) : (0 ≤ x ∧ Int.tdiv x 10 = x / 10 ∧ Int.tmod x 10 = x % 10) ∨ (x < 0 ∧ Int.tdiv x 10 = -((-x) / 10) ∧ Int.tmod x 10 = -((-x) % 10)) := by
  by_cases h : 0 ≤ x
  · exact .inl ⟨h, Int.tdiv_eq_ediv_of_nonneg h, Int.tmod_eq_emod_of_nonneg h⟩
  · refine .inr ⟨by omega, ?_, ?_⟩
    · have h1 : Int.tdiv (-(-x)) 10 = -(Int.tdiv (-x) 10) := Int.neg_tdiv ..
      rw [Int.neg_neg] at h1
      rw [h1, Int.tdiv_eq_ediv_of_nonneg (by omega)]
    · have h1 : Int.tmod (-(-x)) 10 = -(Int.tmod (-x) 10) := Int.neg_tmod ..
      rw [Int.neg_neg] at h1
      rw [h1, Int.tmod_eq_emod_of_nonneg (by omega)]
theorem pow_grow (k : Nat) : ∀ s : Nat, 19 ≤ s → 9223372036854775808 < 10 ^ s := by
  intro s hs
  have := Nat.pow_le_pow_right (show 0 < 10 by decide) hs
  omega
theorem data_cons (c : UInt8) (s : ByteArray) : ((show ByteArray from ⟨#[c]⟩) ++ s) = ⟨(c :: s.data.toList).toArray⟩ := by
  apply ByteArray.ext
  rw [ByteArray.data_append]
  apply Array.ext'
  simp
theorem num_loop {R : Type} (k : Int × ByteArray → Option R) (x0 x : Int) (h0 : -9223372036854775808 ≤ x) (h1 : x ≤ 9223372036854775807) : L_spec_NumText_5 k (x0, ⟨#[]⟩, x) = k (x0, ⟨(dz x.natAbs).toArray⟩) := by
  unfold L_spec_NumText_5
  rw [loop_fuel (fun t : Int × ByteArray × Int => t.2.2.natAbs) (fun t => t.1 = x0 ∧ -9223372036854775808 ≤ t.2.2 ∧ t.2.2 ≤ 9223372036854775807 ∧ t.2.2.natAbs * 10 ^ t.2.1.size ≤ 9223372036854775808) (fun t => k (x0, ⟨(dz t.2.2.natAbs ++ t.2.1.data.toList).toArray⟩)) ?_ (x0, ⟨#[]⟩, x) ⟨rfl, h0, h1, by simp [ByteArray.size]; omega⟩ (by simp only; omega)]
  · simp
  · rintro again ⟨y, s, x⟩ ⟨rfl, h0, h1, hp⟩ hag
    simp only at h0 h1 hp ⊢
    unfold S_spec_NumText_5
    simp only [Bool.cond_eq_ite, decide_eq_true_eq, bne_iff_ne, ne_eq]
    by_cases hx : x = 0
    · rw [if_neg (by simpa using hx)]
      subst hx
      simp [dz]
    · rw [if_pos (by simpa using hx)]
      have hs : s.size ≤ 18 := by
        by_cases hs : 19 ≤ s.size
        · have := pow_grow 0 s.size hs
          have h2 : 1 * 10 ^ s.size ≤ x.natAbs * 10 ^ s.size := Nat.mul_le_mul_right _ (by omega)
          omega
        · omega
      have htd := td10 x
      generalize hq : Int.tdiv x 10 = q at htd ⊢
      generalize hm : Int.tmod x 10 = m at htd ⊢
      have hd : Go.IntKind.wrap .i64 q = q := w64 (by omega) (by omega)
      have hna : q.natAbs = x.natAbs / 10 := by omega
      have next : ∀ c : UInt8, c = UInt8.ofNat (48 + x.natAbs % 10) → again (y, ((show ByteArray from ⟨#[c]⟩) ++ s), q) = k (y, ⟨(dz x.natAbs ++ s.data.toList).toArray⟩) := by
        intro c hc
        rw [hag (y, _, q) ⟨rfl, by simp only; omega, by simp only; omega, ?_⟩ (by simp only; omega)]
        · rw [data_cons]
          simp only [hna]
          rw [dz_step (u := x.natAbs) (by omega), hc]
          simp
        · simp only [hna]
          rw [data_cons]
          have e : (ByteArray.mk (c :: s.data.toList).toArray).size = s.size + 1 := by
            show (c :: s.data.toList).toArray.size = s.data.size + 1
            rw [List.size_toArray, List.length_cons, Array.length_toList]
          rw [e, Nat.pow_succ]
          have : x.natAbs / 10 * (10 ^ s.size * 10) = (x.natAbs / 10 * 10) * 10 ^ s.size := by rw [Nat.mul_comm (10 ^ s.size) 10, ← Nat.mul_assoc]
          rw [this]
          exact Nat.le_trans (Nat.mul_le_mul_right _ (by omega)) hp
      by_cases hneg : m < 0
      · have e : Go.IntKind.wrap .i64 (0 - m) = ((x.natAbs % 10 : Nat) : Int) := by
          rw [w64 (by omega) (by omega)]
          omega
        rw [if_pos hneg, e, digB _ (by omega), if_pos (show (ByteArray.mk #[UInt8.ofNat (48 + x.natAbs % 10)]).size + s.size < 140737488355328 from show 1 + s.size < 140737488355328 by omega), hd]
        exact next _ rfl
      · have e : m = ((x.natAbs % 10 : Nat) : Int) := by omega
        rw [if_neg hneg, e, digB _ (by omega), if_pos (show (ByteArray.mk #[UInt8.ofNat (48 + x.natAbs % 10)]).size + s.size < 140737488355328 from show 1 + s.size < 140737488355328 by omega), hd]
        exact next _ rfl
/-- The numeral of an int is the shelf's. -/
theorem NumText_eq (x : Int) (h0 : -9223372036854775808 ≤ x) (h1 : x ≤ 9223372036854775807) : F_spec_NumText x = some (itoaB x) := by
  unfold F_spec_NumText
  simp only [Bool.cond_eq_ite, decide_eq_true_eq, beq_iff_eq]
  by_cases hx : x = 0
  · subst hx
    rw [if_pos rfl]
    unfold itoaB Lib.itoa
    rw [if_neg (by decide), show Int.toNat 0 = 0 from rfl, Lib.decDigits_one (by decide)]
    rfl
  · rw [if_neg hx, num_loop _ x x h0 h1]
    have hl : (dz x.natAbs).length ≤ 64 := by
      unfold dz
      split
      · simp
      · rw [Lib.decDigits_length]
        have : ∀ (f u : Nat), u < 10 ^ f → Lib.nDigits u ≤ f + 1 := by
          intro f
          induction f with
          | zero => intro u hu; rw [Lib.nDigits_small (by omega)]; omega
          | succ f ih =>
            intro u hu
            rw [Lib.nDigits]
            split
            · omega
            · have := ih (u / 10) (by rw [Nat.pow_succ] at hu; omega)
              omega
        have := this 20 x.natAbs (by omega)
        omega
    unfold itoaB Lib.itoa
    by_cases hn : x < 0
    · rw [if_pos hn, if_pos hn, if_pos (by simp [ByteArray.size]; omega)]
      congr 1
      have := data_cons 45 ⟨(dz x.natAbs).toArray⟩
      simp only [List.toList_toArray] at this
      rw [dz, if_neg (by omega)] at this
      rw [dz, if_neg (by omega)]
      exact this
    · rw [if_neg hn, if_neg hn, dz, if_neg (by omega), show x.natAbs = x.toNat by omega]
theorem Itoa_eq (x : Int) (h0 : -9223372036854775808 ≤ x) (h1 : x ≤ 9223372036854775807) : F_strconv_Itoa x = some (itoaB x) := by
  unfold F_strconv_Itoa
  rw [if_pos h0, if_pos h1]
theorem implNum_eq (x : Int) (h0 : -9223372036854775808 ≤ x) (h1 : x ≤ 9223372036854775807) : F_impl_NumText x = some (itoaB x) := by
  unfold F_impl_NumText
  rw [Itoa_eq x h0 h1]
  rfl
theorem i64_of {x : Int} (h : (Lit.int .i64 x).wf = true) : -9223372036854775808 ≤ x ∧ x ≤ 9223372036854775807 := by
  have e1 : IntKind.i64.min = -9223372036854775808 := rfl
  have e2 : IntKind.i64.max = 9223372036854775807 := rfl
  simp [Lit.wf, e1, e2] at h
  exact h
end Go.Proofs.YtmanmgafjbnakaaDoor.Pl
